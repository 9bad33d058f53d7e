/- LoaderWhole and its parts, laid together by a program of ours: Re Kn Cd Ch1 Cm Ag Ch2 Ch3 Ch4 Ch5 Ch6 Ch7 Ah By Mp Sh1 -/
import Derived.ChangeSame
import Derived.ChangeVars
import Derived.JoinedOf
import Derived.LaidHandle
import Derived.LaidLaws
import Derived.Laws.Closers25b
import Derived.SevenTiedAt
import Derived.Stop.Joined
import Derived.Test.YteedolonhdbieaaGreatDoorCards
import Derived.Test.YteedolonhdbieaaGreatDoorRows
import Derived.Test.YteedolonhdbieaaGreatDoorTie
import Derived.Test.YteedolonhdbieaaGreatDoorK8
set_option autoImplicit false
set_option linter.all false
section
namespace Go.Vc
open Go.ChangeShapes Go.WideShapes Go.ChangeAt Go.RowKit
set_option maxRecDepth 100000
section
variable {D:Type} {enc:TypeId×Value->D} {P:Program} {W:World}
theorem AdO{W W':World}(r:Rest W W')(x:Ext CR W.heap W'.heap)(ho:True):Below W.heap.size W W':=
 ⟨r.2.1,r.1,r.2.2,x.size,fun k hk=>x.eq k hk (fun y=>y)⟩
theorem AhV{f:Func}{s:ChangeSpec}{W':World}{args:Array Value}{ds gs:List (DataW D)}{before:List MemPlace}{tb:TypeId}(hl:laidOutB P=true)(hvars:s.vars=[])
  (hty:∀t,t∈f.params.toList->P.readableRec t=true/\t<P.types.size) (hres:f.resultTypes=#[tb]) (ub:P.underlying tb=some .bool) (hfn:s.fn D (ds++gs)={ results:=[.lit (.bool true)],args:=ds })
  (hW:DataW.Whole enc P f.params.toList s.vars false W args.toList ds gs before) (hb:Below W.heap.size W W'):s.post enc P f false true false false W args (.bool true) W':=by
 have hW0:=hW
 have hlt:=hW.lt
 obtain⟨p,q,h1,h2,rfl,h3,h4⟩:=hW
 rw[hvars]at h2
 obtain⟨rfl,rfl⟩:=trodVars_none h2
 rw[List.append_nil]at hlt
 refine⟨ds,[],p++[],[],p,[],hW0,?_,?_,?_,hb.frame _,fun h=>by cases h⟩
 ·rw[hfn,hres]
  exact trodAll_mk1 (shut_bool ub true)
 ·rw[hfn]
  have key:∀(ts:List TypeId) (vs:List Value) (ds:List (DataW D)) (p:List MemPlace),(∀t,t∈ts->P.readableRec t=true/\t<P.types.size)->(∀x∈p,x.block<W.heap.size)->
    DataW.TrodAll enc P W 0 (fun _=>true) true ts vs ds p->DataW.TrodAll enc P W' 0 (fun b=>decide (b<W.heap.size)) true ts vs ds p:=by
   intro ts
   induction ts with
   | nil=>intro vs ds p _ _ h;cases vs <;> cases ds <;> exact h
   | cons t ts ih=>
    intro vs ds p ht hp h
    cases vs with
    | nil=>cases h
    | cons v vs=>cases ds with
     | nil=>cases h
     | cons d ds=>
      obtain⟨a,b,ha,hb',rfl⟩:=h
      exact⟨a,b,Below.trod hl (ht t (by simp)).1 (ht t (by simp)).2 ha hb (fun x hx=>hp x (by simp[hx])),ih vs ds b (fun t' h'=>ht t' (by simp[h'])) (fun x hx=>hp x (by simp[hx])) hb',rfl⟩
  exact key _ _ _ _ hty hlt h1
 ·rw[hfn,hvars];rfl
theorem AmN{ts:List TypeId}{vs:List Value}{ds gs:List (DataW D)}{vars:List TypeId}
  (h:∃p,DataW.TrodAll enc P W 0 (fun _=>true) true ts vs ds p) (hz:(DataW.weightsEach P (ts++vars) (ds++gs)).all (· ≤ reachBytes)=true):
  ∀(j:Nat) (t:TypeId) (v:Value),ts[j]?=some t->vs[j]?=some v->Rdt enc P W t v.cells.toList:=by
 obtain⟨p,h⟩:=h
 induction ts generalizing vs ds p with
 | nil=>intro j t v ht;simp at ht
 | cons t0 ts ih=>
  cases vs with
  | nil=>cases h
  | cons v0 vs=>cases ds with
   | nil=>cases h
   | cons d ds=>
    obtain⟨a,b,ha,hb',rfl⟩:=h
    simp only[List.cons_append,DataW.weightsEach,List.all_append,Bool.and_eq_true]at hz
    intro j t v ht hv
    cases j with
    | zero=>
     simp only[List.getElem?_cons_zero,Option.some.injEq]at ht hv
     subst ht;subst hv
     obtain⟨fuel,hf⟩:=ha
     exact⟨fuel,_,hf,fun n hn=>by simpa using List.all_eq_true.1 hz.1 n hn⟩
    | succ j=>exact ih hz.2 b hb' j t v (by simpa using ht) (by simpa using hv)
theorem Aj5{t:TypeId}{v:Value}{base:Nat}{r:Reach}(u:(match P.underlying t with | some (.struct _)=>true | some (.array _ _)=>true | _=>false)=true)(h:Value.okWide P W r base t v):v=.agg v.cells:=by
 unfold Value.okWide at h
 split at h
 ·obtain⟨cs,rfl,_⟩:=h;rfl
 ·obtain⟨cs,rfl,_⟩:=h;rfl
 ·rename_i h1 h2
  split at u
  ·rename_i h3;exact absurd h3 (h1 _)
  ·rename_i h3;exact absurd h3 (h2 _ _)
  ·cases u
theorem Aj6{t:TypeId}{v:Value}{base:Nat}{r:Reach}(u:(match P.underlying t with | some (.struct _)=>false | some (.array _ _)=>false | some _=>true | none=>false)=true)(h:Value.okWide P W r base t v){x:Value}(hx:v.cells.toList=[x]):v=x:=by
 cases v with
 | agg cs=>
  exfalso
  unfold Value.okWide at h
  split at h
  ·rename_i h1;rw[h1]at u;cases u
  ·rename_i h1;rw[h1]at u;cases u
  ·unfold Cell.okWide at h
   split at h <;> first | (simp_all;done) | skip
   unfold Cell.ok at h
   split at h <;> simp_all
 | _=>simpa[Value.cells]using hx
theorem XM.one:∀{s:List XSh} {c:List Value},XM enc P W s c->∀v,v∈c->v.oneCell'=true
 | [],c,h=>by simp only[XM]at h;subst h;simp
 | .int k::r,c,h=>by
  obtain⟨n,rest,rfl,_,h⟩:=h;intro v hv
  rcases List.mem_cons.1 hv with rfl | hv
  ·rfl
  ·exact XM.one h v hv
 | .bool::r,c,h=>by
  obtain⟨n,rest,rfl,h⟩:=h;intro v hv
  rcases List.mem_cons.1 hv with rfl | hv
  ·rfl
  ·exact XM.one h v hv
 | .str::r,c,h=>by
  obtain⟨n,rest,rfl,_,h⟩:=h;intro v hv
  rcases List.mem_cons.1 hv with rfl | hv
  ·rfl
  ·exact XM.one h v hv
 | .slc e::r,c,h=>by
  obtain⟨p,l,c,rest,rfl,_,h⟩:=h;intro v hv
  rcases List.mem_cons.1 hv with rfl | hv
  ·rfl
  ·exact XM.one h v hv
 | .row k n::r,c,h=>by
  obtain⟨ns,rest,rfl,_,_,h⟩:=h;intro v hv
  rcases List.mem_append.1 hv with hv | hv
  ·exact A9 _ _ v hv
  ·exact XM.one h v hv
theorem Sli.els{e:TypeId}{p:Option Addr}{l c d:Nat}{s:List XSh}(hs:Sli enc P W e p l c)(hx:xsh P d e=some s):
  ∃ess:List (List Value),ess.length=l/\(∀es,es∈ess->es.length=P.cellsOf e/\XM enc P W s es)/\hsv W.heap p (P.cellsOf e) l ess.flatten/\
   ∀i (hi:i<ess.length),∃a,p=some a/\hcs W.heap (a.add (i*P.cellsOf e)) ess[i]:=by
 obtain⟨_,_,hn,hi⟩:=hs
 have key:∀m,m≤l->∃ess:List (List Value),ess.length=m/\(∀es,es∈ess->es.length=P.cellsOf e/\XM enc P W s es)/\∀i (hi:i<ess.length),∃a,p=some a/\hcs W.heap (a.add (i*P.cellsOf e)) ess[i]:=by
  intro m
  induction m with
  | zero=>intro _;exact⟨[],rfl,by simp,fun i hi=>by simp at hi⟩
  | succ m ih=>
   intro hm
   obtain⟨ess,h1,h2,h3⟩:=ih (by omega)
   obtain⟨a,es,ha,hl,hc,hr⟩:=hi m (by omega)
   refine⟨ess++[es],by simp[h1],?_,?_⟩
   ·intro x hxm
    rcases List.mem_append.1 hxm with hxm | hxm
    ·exact h2 x hxm
    ·simp at hxm;subst hxm;exact⟨hl,Rdt.xm d e s x hx hr⟩
   ·intro i hi
    by_cases hie:i<ess.length
    ·rw[List.getElem_append_left hie];exact h3 i hie
    ·have:i=m:=by simp at hi;omega
     subst this
     refine⟨a,ha,?_⟩
     rw[List.getElem_append_right (by omega)]
     simpa[h1]using hc
 obtain⟨ess,h1,h2,h3⟩:=key l (Nat.le_refl _)
 refine⟨ess,h1,h2,⟨?_,?_,?_⟩,h3⟩
 ·have:∀(ess:List (List Value)),(∀es,es∈ess->es.length=P.cellsOf e)->ess.flatten.length=ess.length*P.cellsOf e:=by
   intro ess
   induction ess with
   | nil=>intro _;simp
   | cons x r ih=>intro h;simp[ih (fun y hy=>h y (by simp[hy])),h x (by simp),Nat.succ_mul];omega
  rw[this ess (fun es he=>(h2 es he).1),h1]
 ·intro v hv
  obtain⟨es,he,hv⟩:=List.mem_flatten.1 hv
  exact (h2 es he).2.one v hv
 ·cases p with
  | none=>
   left
   have:=(hn rfl).1
   rw[this]at h1
   rw[List.eq_nil_of_length_eq_zero h1];rfl
  | some a=>
   right
   refine⟨a,rfl,?_⟩
   have key:∀(k:Nat) (fs:List (List Value)),ess.drop k=fs->∀i v,fs.flatten[i]?=some v->hc W.heap (a.add (k*P.cellsOf e+i))=some v:=by
    intro k fs
    induction fs generalizing k with
    | nil=>intro _ i v hv;simp at hv
    | cons x r ih=>
     intro hd i v hv
     have hk:k<ess.length:=by
      rcases Nat.lt_or_ge k ess.length with h | h
      ·exact h
      ·rw[List.drop_eq_nil_of_le h]at hd;cases hd
     rw[List.drop_eq_getElem_cons hk]at hd
     injection hd with hx1 hx2
     have hxl:x.length=P.cellsOf e:=by rw[←hx1];exact (h2 _ (List.getElem_mem hk)).1
     obtain⟨a',ha',hcx⟩:=h3 k hk
     injection ha' with ha';subst ha'
     rw[hx1]at hcx
     simp only[List.flatten_cons]at hv
     by_cases hi:i<x.length
     ·rw[List.getElem?_append_left hi]at hv
      have:=hcx i v hv
      have e2:(a.add (k*P.cellsOf e)).add i=a.add (k*P.cellsOf e+i):=by
       cases a with | mk b o sp=>unfold Addr.add;by_cases h1:k*P.cellsOf e=0 <;> by_cases h2:i=0 <;> simp[h1,h2,Nat.add_assoc]
      rw[e2]at this;exact this
     ·rw[List.getElem?_append_right (by omega)]at hv
      have:=ih (k+1) hx2 _ _ hv
      rw[Nat.succ_mul]at this
      rw[show k*P.cellsOf e+i=k*P.cellsOf e+P.cellsOf e+(i-x.length) by omega]
      exact this
   intro i v hv
   have:=key 0 ess (by simp) i v hv
   simpa using this
theorem v5:∀{ts:List TypeId} {vs:List Value} {ds:List (DataW D)} {p:List MemPlace} {W:World} {base:Nat} {sp:Nat->Bool} {hd:Bool},DataW.TrodAll enc P W base sp hd ts vs ds p->vs.length=ts.length/\ds.length=ts.length
 | [],vs,ds,p,W,base,sp,hd,h=>by obtain⟨rfl,rfl,rfl⟩:=trodAll_nil h;exact⟨rfl,rfl⟩
 | t::ts,vs,ds,p,W,base,sp,hd,h=>by
  obtain⟨v,vs',d,ds',p',q',rfl,rfl,rfl,_,hr⟩:=trodAll_cons h
  have:=v5 hr
  simp[this.1,this.2]
def lI(enc:TypeId×Value->D)(P:Program)(W:World)(base:Nat)(ts:List TypeId)(vs:List Value):Prop:=
 vs.length=ts.length/\∀(j:Nat) (t:TypeId) (v:Value),ts[j]?=some t->vs[j]?=some v->Rdt enc P W t v.cells.toList/\Value.okWide P W .any base t v
abbrev lL(P:Program)(f:FuncId)(vs:List Value)(W:World):Prop:=callsV P f vs (fun rs h'=>rs=[DV.one (.bool true)]/\Ext CR W.heap h') W.heap
theorem AhU{f:FuncId}{fn:Func}{s:ChangeSpec}{args:Array Value}{ds gs:List (DataW D)}{before:List MemPlace}{tb:TypeId}{base:Nat}(ts:List TypeId)(hts:fn.params=ts.toArray)(hl:laidOutB P=true)(hvars:s.vars=[])
  (hty:(ts.all fun t=>P.readableRec t&&decide (t<P.types.size))=true) (hres:fn.resultTypes=#[tb]) (ub:P.underlying tb=some .bool)
  (hfn:∀ds:List (DataW D),ds.length=ts.length->s.fn D ds={ results:=[.lit (.bool true)],args:=ds })
  (hval:∀(j:Nat) t v,fn.params[j]?=some t->args[j]?=some v->Value.okWide P W .any base t v)
  (hW:DataW.Whole enc P fn.params.toList s.vars false W args.toList ds gs before) (hsz:(DataW.weightsEach P (fn.params.toList++s.plain.varTypes P) (ds++gs)).all (· ≤ reachBytes)=true)
  (main:∀vs,lI enc P W base ts vs->lL P f vs W):
  Calls P f args W fun e W'=>∃v,e=.returned v/\s.post enc P fn false true false false W args v W':=by
 have hW0:=hW
 obtain⟨p,q,h1,h2,rfl,h3,h4⟩:=hW
 have h2':=h2
 rw[hvars]at h2'
 obtain⟨rfl,rfl⟩:=trodVars_none h2'
 have hlen:=v5 h1
 have hpl:fn.params.toList=ts:=by rw[hts]
 have hrd:=AmN ⟨p,h1⟩ hsz
 rw[hpl]at hrd hlen
 have hm:=main args.toList ⟨hlen.1,fun j t v ht hv=>⟨hrd j t v ht hv,hval j t v (by rw[hts];simpa using ht) (by simpa using hv)⟩⟩
 have hc:=hm.2 W rfl
 rw[show args.toList.toArray=args by simp]at hc
 refine hc.mono fun e W' he=>?_
 obtain⟨xs,_,rfl,hr,rfl,hx⟩:=he
 refine⟨.bool true,rfl,?_⟩
 refine AhV hl hvars ?_ hres ub (by rw[List.append_nil];exact hfn ds hlen.2) hW0 (AdO hr hx trivial)
 intro t ht
 rw[hpl]at ht
 have:=List.all_eq_true.1 hty t ht
 simp only[Bool.and_eq_true,decide_eq_true_eq]at this
 exact this
end
end Go.Vc
end
section
namespace Go.Proofs.YteedolonhdbieaaGreatDoor
open Go Go.Vc Go.ChangeShapes Go.WideShapes Go.ChangeAt Go.RowKit
set_option maxRecDepth 100000
theorem Tryz.own:ownKnob Tryz.prog.godebug=none:=by kernel_rfl
theorem Tryz.laidOut:laidOutB Tryz.prog=true:=by kernel_rfl
theorem Tryz.ubool:Tryz.prog.underlying 4=some .bool:=by kernel_rfl
theorem DI{a b:Bool}(ha:a=true)(hb:b=true):(a&&b)=true:=by rw[ha,hb];rfl
theorem Tryz.et : Tryz.prog.globalNamed "errors.errorType" = some 0 := by kernel_rfl
theorem Tryz.rt : (Tryz.prog.cutTypes.find? (·.1 == "internal/reflectlite.rtype")).map (·.2) = some 307 := by kernel_rfl
theorem Tryz.oneRow:((List.range 424).filter fun t=>Tryz.prog.rowNamed t [101,114,114,111,114])=[51]:=by kernel_rfl
theorem Tryz.size:Tryz.prog.types.size=424:=by kernel_rfl
abbrev P4{D : Type} : List (String × DataW D) := [("errors.errorType", Rows.laid_errors_errorType)]
theorem AgQ{W:World}(h:laidMetH Tryz.prog P4 W):hc W.heap ⟨0,0,none⟩=some GB:=by
 have h':laidMet Tryz.prog [] W/\handlesMet Tryz.prog P4 W:=h
 obtain⟨name,u,ty,e1,e2,e3,e4,e5⟩:=h'.2 _ (List.mem_singleton.2 rfl)
 have en:name=[101,114,114,111,114]:=(Option.some.inj e1).symm
 subst en
 obtain rfl:=Option.some.inj (Tryz.rt.symm.trans e2)
 have hm:ty∈(List.range 424).filter fun t=>Tryz.prog.rowNamed t [101,114,114,111,114]:=List.mem_filter.2 ⟨List.mem_range.2 (by rw[←Tryz.size];exact e3),e4⟩
 rw[Tryz.oneRow]at hm
 obtain rfl:=List.mem_singleton.1 hm
 have hh:typeHandle Tryz.prog 51=.pointer (some ⟨1,51,none⟩):=by kernel_rfl
 rw[hh]at e5
 have:W.cell? ⟨0,0,none⟩=some (.iface 307 (.agg #[.pointer (some ⟨1,51,none⟩)])):=by simpa using World.var?_cell Tryz.et e5 0
 exact this
noncomputable def s6(os:Os):World:=
 let w0:=World.holding Tryz.prog os ⟨#[],#[],[]⟩
 { w0 with heap:=w0.heap.modify 0 fun
   | .cells _ t frozen=>.cells #[.iface 307 (.agg #[.pointer (some ⟨1,51,none⟩)])] t frozen
   | o=>o }
theorem AhR(os:Os)(args:Array Value):laidMetH Tryz.prog P4 ((s6 os).forCall (fun _ _=>0) ⟨#[],args,[]⟩).memory:=
 laidMetH_of_parts (laidMet_nil _ _) (by kernel_rfl)
end Go.Proofs.YteedolonhdbieaaGreatDoor
end
section
namespace Go.Proofs.YteedolonhdbieaaGreatDoor
open Go Go.Vc
structure Cfg where
 cells:Int
 slots:Int
 fuses:Int
 step:Int
 keys:Int
 erases:Int
 area:Int
def Cfg.vals(c:Cfg):List Value:=
 [.int .i64 c.cells,.int .i64 c.slots,.int .i64 c.fuses,.int .i64 c.step,.int .i64 c.keys,.int .i64 c.erases,.int .i64 c.area]
structure Cfg.may (c:Cfg):Prop where
 slots:1≤c.slots/\c.slots≤8
 cells:c.slots+3≤c.cells/\c.cells≤256
 fuses:1≤c.fuses/\c.fuses≤64
 step:1≤c.step/\c.step≤65536
 keys:1≤c.keys/\c.keys≤64
 erases:0≤c.erases/\c.erases≤65536
 area:0≤c.area/\c.area≤64
theorem AmO(n a b:Int)(Q:Bool->HP)(h:H):NM n a b Q h=Q (decide (a≤n)&&decide (n≤b)) h:=by
 unfold NM bG
 by_cases h1:a≤n <;> simp[h1]
open Classical in
theorem zZ(c:Cfg)(Q:Int->HP)(h:H)(k:∀h',Ext CR h h'->Q (if c.may then 0 else 1) h'):
  GN c.cells c.slots c.fuses c.step c.keys c.erases c.area Q h:=by
 unfold GN aX
 intro b h' hn
 have kb:=hn.blk
 have kx:=k h' hn.ext
 have hc0:=kb.hc
 intro J hJ
 have fin:∀r:Bool,(r=true↔c.may)->J [SV.dv (DV.one (Value.bool r))] h':=by
  intro r hr
  apply hJ
  by_cases hm:c.may
  ·rw[hr.2 hm];rw[if_pos hm]at kx;simpa using kx
  ·have:r=false:=by cases r;rfl;exact absurd (hr.1 rfl) hm
   rw[this];rw[if_neg hm]at kx;simpa using kx
 try simp only[AI,hc0,Nat.zero_add,List.getElem?_cons_succ,List.getElem?_cons_zero,Option.some.injEq,Value.int.injEq,true_and,exists_eq_left']
 simp only[AmO,hc0,List.getElem?_cons_succ,List.getElem?_cons_zero,Option.some.injEq,Value.int.injEq,true_and,exists_eq_left',Bool.and_eq_true,decide_eq_true_eq]
 have w3:1≤c.slots/\c.slots≤8->IntKind.i64.wrap (c.slots+3)=c.slots+3:=by
  intro h1;rw[IntKind.wrap_i64];omega
 split
 case isFalse h1=>exact fin false (by simp;intro hm;exact h1 hm.slots)
 rename_i h1
 rw[w3 h1]
 split
 case isFalse h2=>exact fin false (by simp;intro hm;exact h2 hm.cells)
 rename_i h2
 split
 case isFalse h3=>exact fin false (by simp;intro hm;exact h3 hm.fuses)
 rename_i h3
 split
 case isFalse h4=>exact fin false (by simp;intro hm;exact h4 hm.step)
 rename_i h4
 split
 case isFalse h5=>exact fin false (by simp;intro hm;exact h5 hm.keys)
 rename_i h5
 split
 case isFalse h6=>exact fin false (by simp;intro hm;exact h6 hm.erases)
 rename_i h6
 refine fin _ ?_
 simp only[Bool.and_eq_true,decide_eq_true_eq]
 exact⟨fun h7=>⟨h1,h2,h3,h4,h5,h6,h7⟩,fun hm=>hm.area⟩
theorem AjG(c:Cfg)(hm:c.may)(Q:Int->HP)(h:H)(k:∀h',Ext CR h h'->Q (2+2*c.area) h'):
  IM c.cells c.slots c.fuses c.step c.keys c.erases c.area Q h:=by
 unfold IM bF
 intro b h' hn
 have kx:=k h' hn.ext
 have ha:=hm.area
 have e:IntKind.i64.wrap (2+IntKind.i64.wrap (2*c.area))=2+2*c.area:=by simp only[IntKind.wrap_i64];omega
 simpa[hn.blk.hc,e]using kx
theorem AgE(c:Cfg)(hm:c.may)(Q:Int->HP)(h:H)(k:∀h',Ext CR h h'->Q (c.slots*c.fuses+c.keys) h'):
  IL c.cells c.slots c.fuses c.step c.keys c.erases c.area Q h:=by
 unfold IL bD
 intro b h' hn
 have kx:=k h' hn.ext
 have h1:=hm.slots;have h2:=hm.fuses;have h3:=hm.keys
 have e1:0≤c.slots*c.fuses:=Int.mul_nonneg (by omega) (by omega)
 have e2:c.slots*c.fuses≤8*64:=Int.mul_le_mul (by omega) (by omega) (by omega) (by omega)
 have e:IntKind.i64.wrap (IntKind.i64.wrap (c.slots*c.fuses)+c.keys)=c.slots*c.fuses+c.keys:=by simp only[IntKind.wrap_i64];omega
 simpa[hn.blk.hc,e]using kx
end Go.Proofs.YteedolonhdbieaaGreatDoor
end
section
namespace Go.Proofs.YteedolonhdbieaaGreatDoor
open Go Go.Vc
structure St where
 pages:List (List Int)
 erases:List Int
 blown:List Bool
structure Cm where
 cfg:Cfg
 s:St
 acts:Int
 out:Bool
 left:Int
 mask:List Int
instance (c:Cfg):Decidable c.may:=
 decidable_of_iff ((1≤c.slots/\c.slots≤8)/\(c.slots+3≤c.cells/\c.cells≤256)/\(1≤c.fuses/\c.fuses≤64)/\(1≤c.step/\c.step≤65536)/\(1≤c.keys/\c.keys≤64)/\(0≤c.erases/\c.erases≤65536)/\(0≤c.area/\c.area≤64))
  ⟨fun⟨a,b,c,d,e,f,g⟩=>⟨a,b,c,d,e,f,g⟩,fun⟨a,b,c,d,e,f,g⟩=>⟨a,b,c,d,e,f,g⟩⟩
def Cfg.may?(c:Cfg):Int:=if c.may then 0 else 1
def Cfg.np(c:Cfg):Int:=2+2*c.area
def Cfg.nf(c:Cfg):Int:=c.slots*c.fuses+c.keys
def A4(n:Int):Prop:=0≤n/\n<256
def AW(ns:List Int):Prop:=∀n,n∈ns->A4 n
structure St.fits (c:Cfg) (s:St):Prop where
 pages:(s.pages.length:Int)=c.np
 cells:∀l,l∈s.pages->(l.length:Int)=32*c.cells
 erases:(s.erases.length:Int)=c.np
 blown:(s.blown.length:Int)=c.nf
structure St.typed (s:St):Prop where
 bytes:∀l,l∈s.pages->AW l
 erases:∀n,n∈s.erases->-(2^63)≤n/\n<2^63
structure Cm.ok (C:Cm):Prop where
 may:C.cfg.may
 fits:C.s.fits C.cfg
 typed:C.s.typed
 left:-1≤C.left
 left2:C.left<2^63
 mask:AW C.mask
 acts:-(2^63)≤C.acts/\C.acts<2^63
 mlen:C.mask.length≤2^47
structure RdS (h:H) (a b c:Sl) (s:St):Prop where
 pg:RdM h 32 a s.pages
 er:hsv h b.1 1 b.2.1 (AA .i64 s.erases)
 bl:hsv h c.1 1 c.2.1 (BU s.blown)
abbrev stL(a b c:Sl)(s:St):List Ent:=[CQ 32 a s.pages,sE b 1 (AA .i64 s.erases),sE c 1 (BU s.blown)]
def Cm.cells(C:Cm)(a b c m:Sl):List Value:=
 [.int .i64 C.cfg.cells,.int .i64 C.cfg.slots,.int .i64 C.cfg.fuses,.int .i64 C.cfg.step,.int .i64 C.cfg.keys,.int .i64 C.cfg.erases,.int .i64 C.cfg.area,a.v,b.v,c.v,
  .int .i64 C.acts,.bool C.out,.int .i64 C.left,m.v]
structure Pl where
 a:Sl
 b:Sl
 c:Sl
 m:Sl
abbrev DZ(p:Nat)(C:Cm)(w:Pl):List Ent:=[blk p (C.cells w.a w.b w.c w.m),CQ 32 w.a C.s.pages,sE w.b 1 (AA .i64 C.s.erases),sE w.c 1 (BU C.s.blown),sE w.m 1 (AA .u8 C.mask)]
def AF(p:Nat)(C:Cm):Ent:=exE 2 (fun _=>C.ok) (DZ p C)
theorem RdS.ext{h h':H}(x:Ext CR h h'){a b c:Sl}{s:St}(r:RdS h a b c s):RdS h' a b c s:=
 ⟨r.pg.ext x,J8 x r.er (fun _ _ y=>y),J8 x r.bl (fun _ _ y=>y)⟩
theorem vA{h0 h:H}{A:List Ent}(hs:Sat h0 A h){i j k:Nat}{a b c:Sl}{s:St}(m:At A i (CQ 32 a s.pages))(n:At A j (sE b 1 (AA .i64 s.erases)))(o:At A k (sE c 1 (BU s.blown))):RdS h a b c s:=
 ⟨hs.rdM m,hs.sv n,hs.sv o⟩
end Go.Proofs.YteedolonhdbieaaGreatDoor
end
section
namespace Go.Proofs.YteedolonhdbieaaGreatDoor
open Go Go.Vc Go.ChangeShapes Go.WideShapes Go.ChangeAt Go.RowKit
set_option maxRecDepth 100000
theorem An0:xsh PP 8 23=some [.int .i64,.int .i64,.int .i64,.int .i64,.int .i64,.int .i64,.int .i64]:=by kernel_rfl
theorem AmY:xsh PP 8 5=some [.int .u8]:=by kernel_rfl
section
variable {D:Type} {enc:TypeId×Value->D} {W:World}
theorem AeM{v:Value}{base:Nat}(h:Rdt enc PP W 23 v.cells.toList)(ho:Value.okWide PP W .any base 23 v):∃c:Cfg,v=.agg c.vals.toArray:=by
 have e:=Aj5 (by kernel_rfl) ho
 obtain⟨a1,r1,e1,_,a2,r2,rfl,_,a3,r3,rfl,_,a4,r4,rfl,_,a5,r5,rfl,_,a6,r6,rfl,_,a7,r7,rfl,_,hr⟩:=Rdt.xm 8 _ _ _ An0 h
 simp only[XM]at hr
 subst hr
 refine⟨⟨a1,a2,a3,a4,a5,a6,a7⟩,?_⟩
 rw[e]
 congr 1
 rw[←Array.toArray_toList (xs:=v.cells),e1]
 rfl
theorem Ae3{p:Option Addr}{l c:Nat}(h:Sli enc PP W 5 p l c):∃ns:List Int,hsv W.heap p 1 l (AA .u8 ns)/\AW ns/\ns.length+4096≤2^47:=by
 have hb:Tryz.prog.bytesOf 5=1:=by kernel_rfl
 have hc:Tryz.prog.cellsOf 5=1:=by kernel_rfl
 obtain⟨ess,h1,h2,h3,_⟩:=h.els AmY
 have hlc:=h.1
 have hr:=h.2.1
 rw[hb]at hr
 rw[hc]at h3
 have key:∀ess:List (List Value),(∀es,es∈ess->es.length=Tryz.prog.cellsOf 5/\XM enc PP W [XSh.int .u8] es)->∃ns:List Int,ess.flatten=AA .u8 ns/\AW ns:=by
  intro ess
  induction ess with
  | nil=>intro _;exact⟨[],rfl,by intro n hn;simp at hn⟩
  | cons x r ih=>
   intro h
   obtain⟨ns,e,hn⟩:=ih fun es hes=>h es (by simp[hes])
   obtain⟨n,rest,rfl,hh,hr⟩:=(h x (by simp)).2
   simp only[XM]at hr
   subst hr
   refine⟨n::ns,by simp[e],?_⟩
   intro m hm
   rcases List.mem_cons.1 hm with rfl | hm
   ·exact rE hh
   ·exact hn m hm
 obtain⟨ns,e,hn⟩:=key ess h2
 rw[e]at h3
 have:ns.length=l:=by have:=h3.1;simpa using this
 refine⟨ns,h3,hn,?_⟩
 unfold reachBytes at hr
 omega
end
end Go.Proofs.YteedolonhdbieaaGreatDoor
end
section
namespace Go.Proofs.YteedolonhdbieaaGreatDoor
open Go Go.Vc
def blankCell:List Int:=List.replicate 32 255
theorem tL(n:Nat)(v:Int)(ns:List Int)(hl:ns.length=n):B5 (fun _ _=>v) n ns=List.replicate n v:=by
 apply List.ext_getElem?;intro j
 rw[IT,List.getElem?_replicate]
 by_cases h:j<n
 ·simp[h,hl]
 ·rw[if_neg h,List.getElem?_eq_none (by omega)];rfl
theorem AdT(Q:List Int->HP)(h:H)(k:∀h',Ext CR h h'->Q blankCell h'):NK Q h:=by
 unfold NK aZ
 intro b2 h3 n2 b5 h6 n5 J hJ
 have x6:Ext CR h h6:=n2.ext.trans n5.ext
 have hb2:b2<h6.size:=by have:=n2.size;have:=n5.size;have:=n2.b;omega
 have hb2':h.size≤b2:=by rw[n2.b];exact Nat.le_refl _
 have hb5:h.size≤b5:=by have:=n2.size;rw[n5.b];omega
 have hne:b2≠b5:=by have:=n2.size;have:=n5.b;have:=n2.b;omega
 refine BS 32 (fun i h'=>Blk h' b5 (AA .u8 (B5 (fun _ _=>255) i (AB 32)))/\Blk h' b2 (AA .u8 (AB 32))/\Ext CR h h') ?_ ?_ 0 h6 (by omega)
  ⟨by simpa using n5.blk,n5.ext.blk n2.blk (fun x=>x),x6⟩
 ·rintro i h' hi ⟨k5,k2,hx⟩ hk
  apply hJ
  rw[AD,if_pos (by simp;omega)]
  refine⟨by omega,by omega,?_,?_⟩
  ·try simp only[AI];apply k5.can;simp;omega
  ·intro h11 e
   try simp only[AI,Int.toNat_natCast,Nat.mul_one,Nat.zero_add]at e
   rw[A0 (by omega)]
   refine hk h11 ?_
   have w:=k5.wr i [Value.int .u8 255]
   have w2:=k2.wr_ne (a:=⟨b5,i,none⟩) (xs:=[Value.int .u8 255]) hne
   rw[←e]at w w2
   refine⟨?_,w2,?_⟩
   ·simp only[GK,VO,G1]at w
    have:=XZ (fun _ _=>255) i (AB 32) (by simpa using hi)
    rw[this]at w;exact w
   ·rw[e];exact hx.comp (Ext.wr h' b5 i _) (by rintro x h1 rfl;omega)
 ·rintro h' ⟨k5,k2,hx⟩
  apply hJ
  rw[AD,if_neg (by simp)]
  rw[tL 32 255 _ (by simp)]at k5
  refine⟨blankCell,by simp[blankCell],k5.hrow (by intro i hi;rw[Nat.zero_add,BR];rfl),k2.can (by simp),?_⟩
  intro h14 e
  have w:=k2.wr 0 (AA IntKind.u8 blankCell++[])
  rw[kO _ _ (by simp[blankCell])]at w
  rw[←e]at w
  refine⟨blankCell,by simp[blankCell],w.hrow (by intro i hi;simp[BR]),k _ ?_⟩
  rw[e];exact hx.comp (Ext.wr h' b2 0 _) (by rintro x h1 rfl;omega)
theorem WQ(sz:Nat)(z:List Value)(B:Nat)(hsz:0<sz)(hz:z.length=sz)(p:Option Addr)(l:Nat)(vs:List Value)(Q:Option Addr->Nat->Nat->HP)(h:H)(hs:hsv h p sz l vs)(hb:l*B≤2^47)
  (k:∀p' c' h' bs,Ext CR h h'->OwnS h' p' l c' sz vs bs->newB h bs->Q p' l c' h'):
  if p.isNone=true then Q none 0 0 h else ∀(n5:Nat) (h6:H),hnew h n5 [] h6->∃(l8:List Value),hsv h6 p sz l l8/\
   AZ h6 sz z B (some (Addr.mk n5 0 none)) 0 0 l l8 fun(o9:Option Addr) (n10 n11:Nat) (h12:H)=>Q o9 n10 n11 h12:=by
 cases p with
 | none=>
  have e:=rP hs
  have hl:l=0:=by
   have:=hs.1;rw[e]at this
   rcases Nat.eq_zero_or_pos l with h0 | h0
   ·exact h0
   ·have:=Nat.mul_pos h0 hsz;simp_all
  subst hl
  simp only[Option.isNone_none,if_true]
  refine k none 0 h [] (Ext.refl _ _) ?_ (by intro b hb;simp at hb)
  rw[e];exact OwnS.nil _ _ _
 | some a=>
  rw[if_neg (by simp)]
  intro b h' hn
  have hs':=J8 hn.ext hs (fun _ _ x=>x)
  refine⟨_,hs',tY hs'.1 hz hs'.2.1 hb ?_⟩
  intro p' c' h'' bs hx ho hbs
  exact k p' c' h'' bs (hn.ext.trans hx) ho (hbs.ext hn.ext)
theorem xC(p:Option Addr)(l c:Nat)(vs:List Value)(Q:Option Addr->Nat->Nat->HP)(h:H)(hs:hsv h p 1 l vs)(hb:l*1≤2^47)
  (k:∀p' c' h' bs,Ext CR h h'->OwnS h' p' l c' 1 vs bs->newB h bs->Q p' l c' h'):HJ p l c Q h:=by
 unfold HJ;exact WQ 1 _ 1 (by omega) rfl p l vs Q h hs hb k
theorem xG(p:Option Addr)(l c:Nat)(vs:List Value)(Q:Option Addr->Nat->Nat->HP)(h:H)(hs:hsv h p 1 l vs)(hb:l*8≤2^47)
  (k:∀p' c' h' bs,Ext CR h h'->OwnS h' p' l c' 1 vs bs->newB h bs->Q p' l c' h'):L2 p l c Q h:=by
 unfold L2;exact WQ 1 _ 8 (by omega) rfl p l vs Q h hs hb k
theorem xB(p:Option Addr)(l c:Nat)(vs:List Value)(Q:Option Addr->Nat->Nat->HP)(h:H)(hs:hsv h p 1 l vs)(hb:l*1≤2^47)
  (k:∀p' c' h' bs,Ext CR h h'->OwnS h' p' l c' 1 vs bs->newB h bs->Q p' l c' h'):LZ p l c Q h:=by
 unfold LZ;exact WQ 1 _ 1 (by omega) rfl p l vs Q h hs hb k
theorem xE(p:Option Addr)(l c:Nat)(vs:List Value)(Q:Option Addr->Nat->Nat->HP)(h:H)(hs:hsv h p 32 l vs)(hb:l*32≤2^47)
  (k:∀p' c' h' bs,Ext CR h h'->OwnS h' p' l c' 32 vs bs->newB h bs->Q p' l c' h'):LY p l c Q h:=by
 unfold LY;exact WQ 32 _ 32 (by omega) (by simp) p l vs Q h hs hb k
theorem VU{n:Int}(h:0≤n/\n<2^64):IntKind.u64.wrap n=n:=by
 have:IntKind.u64.wrap n=n % 18446744073709551616:=by simp[IntKind.wrap,IntKind.bits,IntKind.signed]
 rw[this];omega
theorem g9{n:Int}(h:0≤n/\n<2^32):bits .and .u64 n 4294967295=n:=by
 have:=bits_mask .u64 64 (by decide) (fun n h0 h1=>VU ⟨h0,h1⟩) 32 (by decide) n h.1 (by omega)
 have e:(2:Int)^32-1=4294967295:=by decide
 rw[e]at this
 rw[this];omega
theorem iU{n:Int}(h:0≤n/\n<2^32):n.fdiv (2^32)=0:=by
 rw[Int.fdiv_eq_ediv_of_nonneg _ (by decide)];omega
theorem z8(n:Int)(hn:0≤n/\n<2^31)(Q:Int->Int->HP)(h:H)(k:Q 0 n h):OF 1 n Q h:=by
 unfold OF dF TN dG
 rintro i rfl
 refine⟨by decide,?_⟩
 rintro i rfl
 refine⟨by decide,by decide,?_⟩
 rintro i rfl
 refine⟨by decide,by decide,?_⟩
 have a1:bits .and .u64 1 4294967295=1:=g9 (by decide)
 have a2:bits .and .u64 n 4294967295=n:=g9 (by omega)
 have f1:(1:Int).fdiv (2^32)=0:=iU (by decide)
 have f2:n.fdiv (2^32)=0:=iU (by omega)
 have w0:IntKind.u64.wrap 0=0:=VU (by decide)
 have wn:IntKind.u64.wrap n=n:=VU (by omega)
 have f0:(0:Int).fdiv (2^32)=0:=iU (by decide)
 have a0:bits .and .u64 0 4294967295=0:=g9 (by decide)
 simpa only[a1,a2,f1,f2,Int.zero_mul,Int.mul_zero,Int.one_mul,w0,wn,f0,a0,Int.add_zero,Int.zero_add]using k
theorem VH{α:Type}(a b:Nat)(X:List α):(List.replicate (a+b) X).flatten=(List.replicate a X).flatten++(List.replicate b X).flatten:=by
 rw[←List.replicate_append_replicate,List.flatten_append]
theorem AcX(p:Option Addr)(c:Nat)(n:Nat)(X:List Value)(hX:X.length=32)(hn:1≤n/\n≤2^20)(Q:Option Addr->Nat->Nat->HP)(h:H)(hs:hsv h p 32 1 X)
  (k:∀b h',Ext CR h h'->Blk h' b (List.replicate n X).flatten->h.size≤b->Q (some ⟨b,0,none⟩) n n h'):L3 p 1 c n Q h:=by
 unfold L3 fS
 intro J7 hJ7
 rw[AD,if_neg (by simp)]
 apply hJ7
 have w1:IntKind.u64.wrap ((1:Nat):Int)=1:=VU (by decide)
 have wn:IntKind.u64.wrap (n:Int)=n:=VU (by omega)
 have wi:IntKind.i64.wrap (n:Int)=n:=AQ (by omega)
 rw[w1,wn]
 apply z8 _ (by omega)
 intro J12 hJ12
 rw[AD,if_neg (by simp)]
 rintro i rfl
 rw[AD,if_neg (by simp;omega)]
 apply hJ12
 simp only[wi,Int.toNat_natCast]
 refine⟨by omega,by omega,by omega,by omega,?_⟩
 intro b h15 hnw
 have m1:Nat.min 1 n=1:=Nat.min_eq_left hn.1
 simp only[m1]
 have hs':=J8 hnw.ext hs (fun _ _ x=>x)
 have lenr:∀m:Nat,(List.replicate m X).flatten.length=m*32:=fun m=>by rw[W7,hX]
 refine⟨X,hs',Or.inr ⟨_,rfl,hnw.blk.can ?_⟩,?_⟩
 ·rw[W7];simp;omega
 intro h19 e19
 intro J hJ
 have hb:h.size≤b:=by rw[hnw.b];exact Nat.le_refl _
 -- the block holds i copies, and something
 have main:∀d i h',n-i≤d->1≤i->i≤n->Ext CR h h'->(∃rest,rest.length=(n-i)*32/\Blk h' b ((List.replicate i X).flatten++rest))->J [SV.dv (DV.one (Value.int IntKind.i64 (i:Int)))] h':=by
  intro d
  induction d with
  | zero=>
   rintro i h' hd h1 h2 hx ⟨rest,hr,kb⟩
   have:i=n:=by omega
   subst this
   apply hJ
   rw[AD,if_neg (by simp)]
   have:rest=[]:=List.eq_nil_of_length_eq_zero (by simp[hr])
   subst this
   exact k b h' hx (by simpa using kb) hb
  | succ d ih=>
   rintro i h' hd h1 h2 hx ⟨rest,hr,kb⟩
   apply hJ
   by_cases hin:i<n
   ·rw[AD,if_pos (by simp;omega)]
    have s0:AK (some (Addr.mk b 0 none)) 0 n 32=some (Addr.mk b 0 none):=by unfold AK;rw[if_neg (by omega)];simp
    have s1:AK (some (Addr.mk b 0 none)) i n 32=some (Addr.mk b (i*32) none):=by unfold AK;rw[if_neg (by omega)];simp
    simp only[Int.toNat_natCast,s0,s1,Nat.sub_zero]
    generalize hm:Nat.min i (n-i)=m
    have hm1:m≤i:=by rw[←hm];exact Nat.min_le_left _ _
    have hm2:m≤n-i:=by rw[←hm];exact Nat.min_le_right _ _
    have hm3:1≤m:=by rw[←hm];exact Nat.le_min.2 ⟨h1,by omega⟩
    have spl:(List.replicate i X).flatten=(List.replicate m X).flatten++(List.replicate (i-m) X).flatten:=by
     rw[←VH];congr 2;omega
    refine⟨by omega,by omega,by omega,by omega,(List.replicate m X).flatten,⟨lenr m,?_,Or.inr ⟨_,rfl,?_⟩⟩,Or.inr ⟨_,rfl,kb.can ?_⟩,?_⟩
    ·intro v hv
     obtain⟨l,hl,hv⟩:=List.mem_flatten.1 hv
     rw[List.eq_of_mem_replicate hl]at hv
     exact hs.2.1 v hv
    ·apply kb.hcs
     intro j hj
     rw[Nat.zero_add,spl,List.append_assoc,List.getElem?_append_left hj]
    ·simp[lenr,hr,hX]
     have:m*32≤(n-i)*32:=Nat.mul_le_mul_right _ hm2
     omega
    ·intro h26 e
     have w:IntKind.i64.wrap ((i:Int)+(m:Int))=((i+m:Nat):Int):=by rw[AQ (by omega)];omega
     rw[w]
     refine ih (i+m) h26 (by omega) (by omega) (by omega) ?_ ?_
     ·rw[e];exact hx.comp (Ext.wr h' b _ _) (by rintro x hlt rfl;omega)
     ·have kw:=kb.wr (i*32) (List.replicate m X).flatten
      have e':h26=hwr h' ⟨b,i*32,none⟩ (List.replicate m X).flatten:=e
      rw[←e']at kw
      refine⟨rest.drop (m*32),by simp[hr];omega,?_⟩
      have hrr:rest=rest.take (m*32)++rest.drop (m*32):=by simp
      have:AO ((List.replicate i X).flatten++rest) (i*32) (List.replicate m X).flatten=(List.replicate (i+m) X).flatten++rest.drop (m*32):=by
       rw[hrr,←List.append_assoc,←lenr i,TB,VH]
       ·simp
       ·simp[lenr,hr]
        have:m*32≤(n-i)*32:=Nat.mul_le_mul_right _ hm2
        omega
      rw[this]at kw
      exact kw
   ·have:i=n:=by omega
    subst this
    rw[AD,if_neg (by simp)]
    have:rest=[]:=List.eq_nil_of_length_eq_zero (by simp[hr])
    subst this
    exact k b h' hx (by simpa using kb) hb
 have e':h19=hwr h15 ⟨b,0,none⟩ X:=e19
 have kb:=hnw.blk.wr 0 X
 rw[←e']at kb
 refine main n 1 h19 (by omega) (by omega) hn.1 ?_ ⟨(List.replicate (n-1) (AA .u8 (AB 32))).flatten,by simp,?_⟩
 ·rw[e'];exact hnw.ext.comp (Ext.wr h15 b _ _) (by rintro x hlt rfl;omega)
 ·have:AO (List.replicate n (AA .u8 (AB 32))).flatten 0 X=(List.replicate 1 X).flatten++(List.replicate (n-1) (AA .u8 (AB 32))).flatten:=by
   have e1:(List.replicate n (AA .u8 (AB 32))).flatten=[]++AA .u8 (AB 32)++(List.replicate (n-1) (AA .u8 (AB 32))).flatten:=by
    have:n=1+(n-1):=by omega
    rw[this,VH];simp
   rw[e1]
   have:=TB [] (AA .u8 (AB 32)) (List.replicate (n-1) (AA .u8 (AB 32))).flatten X (by simp[hX])
   simp only[List.length_nil]at this
   rw[this];simp
  rw[this]at kb
  exact kb
theorem gH{h0 h:H}{A:List Ent}(c:Cfg){Q:Int->HP}(hs:Sat h0 A h)(k:∀h',Sat h0 A h'->Q c.may? h'):
  GN c.cells c.slots c.fuses c.step c.keys c.erases c.area Q h:=by
 apply zZ
 intro h' x
 have:=k h' (hs.ext x)
 unfold Cfg.may? at this
 by_cases hm:c.may
 ·rw[if_pos hm]at this ⊢;exact this
 ·rw[if_neg hm]at this ⊢;exact this
theorem X6{h0 h:H}{A:List Ent}(c:Cfg)(hm:c.may){Q:Int->HP}(hs:Sat h0 A h)(k:∀h',Sat h0 A h'->Q c.np h'):
  IM c.cells c.slots c.fuses c.step c.keys c.erases c.area Q h:=AjG c hm Q h fun h' x=>k h' (hs.ext x)
theorem qR{h0 h:H}{A:List Ent}(c:Cfg)(hm:c.may){Q:Int->HP}(hs:Sat h0 A h)(k:∀h',Sat h0 A h'->Q c.nf h'):
  IL c.cells c.slots c.fuses c.step c.keys c.erases c.area Q h:=AgE c hm Q h fun h' x=>k h' (hs.ext x)
theorem Cfg.may.np{c:Cfg}(m:c.may):2≤c.np/\c.np≤130:=by have:=m.area;unfold Cfg.np;omega
theorem Cfg.may.nf{c:Cfg}(m:c.may):0≤c.nf/\c.nf≤576:=by
 have h1:=m.slots;have h2:=m.fuses;have h3:=m.keys
 have e1:0≤c.slots*c.fuses:=Int.mul_nonneg (by omega) (by omega)
 have e2:c.slots*c.fuses≤8*64:=Int.mul_le_mul (by omega) (by omega) (by omega) (by omega)
 unfold Cfg.nf;omega
theorem AcW{h0 h:H}{A:List Ent}(n:Nat){k:Int}{c i b:Nat}{X:List Int}{Q:Option Addr->Nat->Nat->HP}(hk:k=(n:Int))(hs:Sat h0 A h)(m:At A i (blk b (AA .u8 X++[])))(hX:X.length=32)
  (hn:1≤n/\n≤2^20) (kk:∀b h',Sat h0 (sE (some ⟨b,0,none⟩,n,n) 32 (AA .u8 (List.replicate n X).flatten)::A) h'->Q (some ⟨b,0,none⟩) n n h'):
  L3 (some ⟨b,0,none⟩) 1 c k Q h:=by
 rw[hk]
 rw[List.append_nil]at m
 refine AcX _ _ n (AA .u8 X) (by simpa using hX) hn _ _ (hs.bv m (by simpa using hX) (A9 _ _)) ?_
 intro b' h' x kb hb
 refine kk b' h' ?_
 have e:(List.replicate n (AA .u8 X)).flatten=AA .u8 (List.replicate n X).flatten:=by
  simp[AA,List.map_flatten]
 rw[e]at kb
 exact (hs.ofBlk x kb hb).as_sl (.z) (by simp[hX]) (A9 _ _)
def E6(c:Cfg):List Int:=(List.replicate c.cells.toNat blankCell).flatten
def DR(c:Cfg):St:=⟨List.replicate c.np.toNat (E6 c),AB c.np.toNat,List.replicate c.nf.toNat false⟩
def BP(c:Cfg):Cm:=⟨c,DR c,0,false,-1,[]⟩
theorem UP{c:Cfg}(hm:c.may):(BP c).ok:=by
 have h1:=hm.np;have h2:=hm.nf;have h3:=hm.cells;have h4:=hm.slots
 refine⟨hm,⟨by simp[BP,DR];omega,?_,by simp[BP,DR];omega,by simp[BP,DR];omega⟩,⟨?_,?_⟩,by simp[BP],by simp[BP],by intro n hn;simp[BP]at hn,by simp[BP],by simp[BP]⟩
 ·intro l hl
  rw[List.eq_of_mem_replicate hl]
  simp[E6,blankCell,BP];omega
 ·intro l hl
  rw[List.eq_of_mem_replicate hl]
  intro n hn
  simp only[E6,List.mem_flatten,List.mem_replicate]at hn
  obtain⟨l,⟨_,rfl⟩,hn⟩:=hn
  have:=List.eq_of_mem_replicate hn
  unfold A4;omega
 ·intro n hn
  have:=List.eq_of_mem_replicate hn
  omega
theorem Aa0{h0 h:H}{A:List Ent}(c:Cfg){Q:Option Addr->Int->HP}(hs:Sat h0 A h)
  (k1:¬c.may->∀h',Sat h0 A h'->Q none 1 h')
  (k2:c.may->∀p h',Sat h0 (AF p (BP c)::A) h'->Q (some ⟨p,0,none⟩) 0 h'):
  NJ c.cells c.slots c.fuses c.step c.keys c.erases c.area Q h:=by
 unfold NJ aY
 try simp only[AI,Nat.zero_add]
 intro g _ hn;have hs:=Sat.new hs hn
 (repeat first | refine⟨_,Sat.ld hs (by repeat constructor) (by rfl),?_⟩ | refine⟨_,_,_,Sat.ld hs (by repeat constructor) (by rfl),?_⟩ | (intro _ _ hn;replace hs:=Sat.new hs hn) | refine⟨Sat.cs hs (by repeat constructor) (by rfl),?_⟩ | (refine⟨Sat.can hs (by repeat constructor) (by simp),?_⟩;intro _ e;replace hs:=Sat.wr hs (by repeat constructor) e;clear e;simp only[put,AO,List.set]at hs))
 refine gH c hs ?_
 intro h1 hs
 unfold Cfg.may?
 by_cases hm:c.may
 case neg=>
  rw[if_neg hm,if_pos (by decide)]
  exact k1 hm _ hs.drop
 rw[if_pos hm,if_neg (by decide)]
 intro J hJ
 have hnp:=hm.np
 have hnf:=hm.nf
 have fin:∀p a b h',Sat h0 (blk g c.vals::blk b (List.replicate c.nf.toNat [Value.bool false]).flatten::blk a (List.replicate c.np.toNat [Value.int .i64 0]).flatten ::
   blk p [.slice none 0 0,.slice (some ⟨a,0,none⟩) c.np.toNat c.np.toNat,.slice (some ⟨b,0,none⟩) c.nf.toNat c.nf.toNat]::A) h'->J [SV.dv (DV.addr ⟨p,0,none⟩)] h':=by
  intro p a b h' hs
  apply hJ
  simp only[Cfg.vals]at hs
  (repeat first | refine⟨_,Sat.ld hs (by repeat constructor) (by rfl),?_⟩ | refine⟨_,_,_,Sat.ld hs (by repeat constructor) (by rfl),?_⟩ | (intro _ _ hn;replace hs:=Sat.new hs hn) | refine⟨Sat.cs hs (by repeat constructor) (by rfl),?_⟩ | (refine⟨Sat.can hs (by repeat constructor) (by simp),?_⟩;intro _ e;replace hs:=Sat.wr hs (by repeat constructor) e;clear e;simp only[put,AO,List.set]at hs))
  refine X6 c hm hs ?_
  intro _ hs J38 hJ38
  have hs:=hs.mat_nil 32 none
  refine BS c.np.toNat (fun i h=>∃hd:Sl,hd.2.1=i/\Sat h0 (CQ 32 hd (List.replicate i (E6 c))::blk g c.vals::blk b (List.replicate c.nf.toNat [Value.bool false]).flatten::blk a (List.replicate c.np.toNat [Value.int .i64 0]).flatten ::
   blk p [hd.v,.slice (some ⟨a,0,none⟩) c.np.toNat c.np.toNat,.slice (some ⟨b,0,none⟩) c.nf.toNat c.nf.toNat]::A) h) ?_ ?_ 0 _ (by omega) ⟨_,rfl,hs⟩
  ·rintro i h1 hi ⟨⟨hp,hl,hc⟩,e,hs⟩ hk
   simp only at e;subst e
   apply hJ38
   rw[AD,if_pos (by simp;omega)]
   simp only[Cfg.vals]at hs
   (repeat first | refine⟨_,Sat.ld hs (by repeat constructor) (by rfl),?_⟩ | refine⟨_,_,_,Sat.ld hs (by repeat constructor) (by rfl),?_⟩ | (intro _ _ hn;replace hs:=Sat.new hs hn) | refine⟨Sat.cs hs (by repeat constructor) (by rfl),?_⟩ | (refine⟨Sat.can hs (by repeat constructor) (by simp),?_⟩;intro _ e;replace hs:=Sat.wr hs (by repeat constructor) e;clear e;simp only[put,AO,List.set]at hs))
   refine AdT _ _ fun h2 x2=>?_
   have hs:=hs.ext x2
   (repeat first | refine⟨_,Sat.ld hs (by repeat constructor) (by rfl),?_⟩ | refine⟨_,_,_,Sat.ld hs (by repeat constructor) (by rfl),?_⟩ | (intro _ _ hn;replace hs:=Sat.new hs hn) | refine⟨Sat.cs hs (by repeat constructor) (by rfl),?_⟩ | (refine⟨Sat.can hs (by repeat constructor) (by simp),?_⟩;intro _ e;replace hs:=Sat.wr hs (by repeat constructor) e;clear e;simp only[put,AO,List.set]at hs))
   have hc':=hm.cells
   have hc'':=hm.slots
   refine AcW c.cells.toNat ?_ hs (.z) rfl ?_ ?_
   ·omega
   ·omega
   intro b2 h3 hs
   (repeat first | refine⟨_,Sat.ld hs (by repeat constructor) (by rfl),?_⟩ | refine⟨_,_,_,Sat.ld hs (by repeat constructor) (by rfl),?_⟩ | (intro _ _ hn;replace hs:=Sat.new hs hn) | refine⟨Sat.cs hs (by repeat constructor) (by rfl),?_⟩ | (refine⟨Sat.can hs (by repeat constructor) (by simp),?_⟩;intro _ e;replace hs:=Sat.wr hs (by repeat constructor) e;clear e;simp only[put,AO,List.set]at hs))
   refine⟨_,Sat.bv hs (.z) (by simp) (by simp),?_⟩
   replace hs:=Sat.front hs (e:=sE (some ⟨b2,0,none⟩,_,_) 32 _) (by repeat constructor)
   refine Sat.app_row hs (by repeat constructor) (by dsimp only;omega) ?_
   intro p' c' h4 hs
   simp only[put,del]at hs
   (repeat first | refine⟨_,Sat.ld hs (by repeat constructor) (by rfl),?_⟩ | refine⟨_,_,_,Sat.ld hs (by repeat constructor) (by rfl),?_⟩ | (intro _ _ hn;replace hs:=Sat.new hs hn) | refine⟨Sat.cs hs (by repeat constructor) (by rfl),?_⟩ | (refine⟨Sat.can hs (by repeat constructor) (by simp),?_⟩;intro _ e;replace hs:=Sat.wr hs (by repeat constructor) e;clear e;simp only[put,AO,List.set]at hs))
   rw[A0 (by omega)]
   refine hk _ ⟨(p',hl+1,c'),rfl,?_⟩
   replace hs:=Sat.front hs (e:=blk p _) (by repeat constructor)
   replace hs:=Sat.front hs (e:=blk a _) (by repeat constructor)
   replace hs:=Sat.front hs (e:=blk b _) (by repeat constructor)
   replace hs:=Sat.front hs (e:=blk g _) (by repeat constructor)
   replace hs:=Sat.front hs (e:=CQ 32 _ _) (by repeat constructor)
   simp only[del]at hs
   rw[List.replicate_succ']
   exact hs.sub (by(repeat (first | exact List.Sublist.refl _ | apply List.Sublist.cons_cons | apply List.Sublist.cons)))
  ·rintro h1 ⟨⟨hp,hl,hc⟩,e,hs⟩
   apply hJ38
   rw[AD,if_neg (by simp;omega)]
   simp only[Cfg.vals]at hs
   (repeat first | refine⟨_,Sat.ld hs (by repeat constructor) (by rfl),?_⟩ | refine⟨_,_,_,Sat.ld hs (by repeat constructor) (by rfl),?_⟩ | (intro _ _ hn;replace hs:=Sat.new hs hn) | refine⟨Sat.cs hs (by repeat constructor) (by rfl),?_⟩ | (refine⟨Sat.can hs (by repeat constructor) (by simp),?_⟩;intro _ e;replace hs:=Sat.wr hs (by repeat constructor) e;clear e;simp only[put,AO,List.set]at hs))
   refine k2 hm _ _ (Sat.close ⟨(hp,hl,hc),(some ⟨a,0,none⟩,c.np.toNat,c.np.toNat),(some ⟨b,0,none⟩,c.nf.toNat,c.nf.toNat),(none,0,0)⟩ (UP hm) ?_)
   have eb:(List.replicate c.nf.toNat [Value.bool false]).flatten=BU (BP c).s.blown:=by simp[BP,DR,BU]
   have ea:(List.replicate c.np.toNat [Value.int .i64 0]).flatten=AA .i64 (BP c).s.erases:=by simp[BP,DR,AB,AA]
   rw[ea,eb]at hs
   replace hs:=hs.as_sl (i:=3) (l:=c.nf.toNat) (sz:=1) zs3 (by simp[BP,DR]) (iK _)
   replace hs:=hs.as_sl (i:=4) (l:=c.np.toNat) (sz:=1) zs4 (by simp[BP,DR]) (A9 _ _)
   replace hs:=hs.sl_nil 1 none
   simp only[put]at hs
   replace hs:=Sat.front hs (e:=slE _ _ _ 1 (BU _)) (by repeat constructor)
   replace hs:=Sat.front hs (e:=slE _ _ _ 1 (AA .i64 _)) (by repeat constructor)
   replace hs:=Sat.front hs (e:=CQ 32 _ _) (by repeat constructor)
   replace hs:=Sat.front hs (e:=blk _ [_,_,_,_,_,_,_,_,_,_,_,_,_,_]) (by repeat constructor)
   simp only[del]at hs
   exact hs.sub (by(repeat (first | exact List.Sublist.refl _ | apply List.Sublist.cons_cons | apply List.Sublist.cons)))
 repeat' (first | refine⟨_,Sat.ld hs (by repeat constructor) (by rfl),?_⟩ | (intro _ _ hn;replace hs:=Sat.new hs hn) | refine⟨Sat.cs hs (by repeat constructor) (by rfl),?_⟩ | (refine⟨Sat.can hs (by repeat constructor) (by simp),?_⟩;intro _ e;replace hs:=Sat.wr hs (by repeat constructor) e;clear e;simp only[put,AO,List.set]at hs) | refine⟨by omega,?_⟩ | (refine X6 c hm hs ?_;intro _ hs) | (refine qR c hm hs ?_;intro _ hs) | refine And.intro ?_ ?_)
 all_goals
  replace hs:=Sat.front hs (e:=blk _ [Value.slice none 0 0,Value.slice (some ⟨_,0,none⟩) _ _,Value.slice (some ⟨_,0,none⟩) _ _]) (by repeat constructor)
  replace hs:=Sat.front hs (e:=blk _ (List.replicate c.np.toNat [Value.int .i64 0]).flatten) (by repeat constructor)
  replace hs:=Sat.front hs (e:=blk _ (List.replicate c.nf.toNat [Value.bool false]).flatten) (by repeat constructor)
  replace hs:=Sat.front hs (e:=blk _ c.vals) (by repeat constructor)
  exact fin _ _ _ _ hs
def AT(C:Cm)(i n:Int):Int:=if C.out=true then 8 else if i<0 then 2 else if n≤i then 2 else 0
def DP(C:Cm)(page cell:Int):Int:=if AT C page C.s.pages.length≠0 then AT C page C.s.pages.length else AT C cell C.cfg.cells
def w64(n:Int):Int:=IntKind.i64.wrap n
def Cm.act(C:Cm):Cm:=
 if C.left≠0 then { C with acts:=w64 (C.acts+1),left:=if C.left-1 > -1 then C.left-1 else -1 }
 else { C with acts:=w64 (C.acts+1),out:=true,left:=-1,mask:=[] }
def BT(C:Cm)(i:Nat):Int:=if C.left≠0 then 255 else if C.mask=[] then 0 else C.mask.getD (i % C.mask.length) 0
def CL(C:Cm):Int:=if C.left≠0 then 0 else 8
theorem AmM(n:Int):-(2^63)≤w64 n/\w64 n<2^63:=by unfold w64;rw[IntKind.wrap_i64];omega
theorem Cm.ok.act{C:Cm}(k:C.ok):C.act.ok:=by
 have r:=AmM (C.acts+1)
 have:=k.left
 unfold Cm.act
 split
 ·exact⟨k.may,k.fits,k.typed,by dsimp only;split <;> omega,by have:=k.left2;dsimp only;split <;> omega,k.mask,r,k.mlen⟩
 ·exact⟨k.may,k.fits,k.typed,by dsimp only;omega,by dsimp only;omega,by intro n hn;simp at hn,r,by simp⟩
theorem JZ{h0 h:H}{A:List Ent}{i p:Nat}{C C0:Cm}{a b c m:Sl}(ok:C.ok)(ci:At A i (AF p C0))
  (hs:Sat h0 (blk p (C.cells a b c m)::CQ 32 a C.s.pages::sE b 1 (AA .i64 C.s.erases)::sE c 1 (BU C.s.blown)::sE m 1 (AA .u8 C.mask)::del A i) h):Sat h0 (put A i (AF p C)) h:=
 Sat.back ci (Sat.close ⟨a,b,c,m⟩ ok hs)
section
variable {h0 h:H} {A:List Ent} {i p:Nat} {C:Cm}
theorem lH{Q:Int->HP}(hs:Sat h0 A h)(ci:At A i (AF p C))(k:Q C.acts h):NG ⟨p,0,none⟩ Q h:=by
 unfold NG aC
 obtain⟨w,ok,hs⟩:=(hs.front ci).open_;dsimp only[DZ,List.cons_append,List.nil_append,Cm.cells]at hs
 exact⟨_,hs.ld .z rfl,k⟩
theorem PH{Q:Bool->HP}(hs:Sat h0 A h)(ci:At A i (AF p C))(k:Q C.out h):EU ⟨p,0,none⟩ Q h:=by
 unfold EU aK
 obtain⟨w,ok,hs⟩:=(hs.front ci).open_;dsimp only[DZ,List.cons_append,List.nil_append,Cm.cells]at hs
 exact⟨_,hs.ld .z rfl,k⟩
theorem AcY{Q:HP}(hs:Sat h0 A h)(ci:At A i (AF p C))(k:∀h',Sat h0 (put A i (AF p { C with out:=false })) h'->Q h'):NI ⟨p,0,none⟩ Q h:=by
 unfold NI aO
 obtain⟨w,ok,hs⟩:=(hs.front ci).open_;dsimp only[DZ,List.cons_append,List.nil_append,Cm.cells]at hs
 try simp only[AI,Nat.zero_add]
 (refine⟨Sat.can hs (by repeat constructor) (by simp),?_⟩;intro _ e;replace hs:=Sat.wr hs (by repeat constructor) e;clear e;simp only[put,AO,List.set]at hs)
 exact k _ (JZ ⟨ok.may,ok.fits,ok.typed,ok.left,ok.left2,ok.mask,ok.acts,ok.mlen⟩ ci hs)
theorem CO{Q:Int->Int->Int->Int->Int->Int->Int->HP}(hs:Sat h0 A h)(ci:At A i (AF p C))
  (k:∀h',Sat h0 A h'->Q C.cfg.cells C.cfg.slots C.cfg.fuses C.cfg.step C.cfg.keys C.cfg.erases C.cfg.area h'):A7 ⟨p,0,none⟩ Q h:=by
 unfold A7 aG
 obtain⟨w,ok,hs⟩:=(hs.front ci).open_;dsimp only[DZ,List.cons_append,List.nil_append,Cm.cells]at hs
 try simp only[AI,Nat.zero_add]
 (repeat first | refine⟨_,Sat.ld hs (by repeat constructor) (by rfl),?_⟩ | refine⟨_,_,_,Sat.ld hs (by repeat constructor) (by rfl),?_⟩ | (intro _ _ hn;replace hs:=Sat.new hs hn) | refine⟨Sat.cs hs (by repeat constructor) (by rfl),?_⟩ | (refine⟨Sat.can hs (by repeat constructor) (by simp),?_⟩;intro _ e;replace hs:=Sat.wr hs (by repeat constructor) e;clear e;simp only[put,AO,List.set]at hs))
 refine k _ ?_
 have:=JZ ok ci hs.drop
 rwa [ci.put_self]at this
theorem iA{Q:Int->HP}(hs:Sat h0 A h){a b c m:Sl}(ci:At A i (blk p (C.cells a b c m)))(n j:Int)(k:Q (AT C j n) h):E4 ⟨p,0,none⟩ j n Q h:=by
 unfold E4 aP
 refine⟨_,hs.ld ci rfl,?_⟩
 unfold AT at k
 simp only[AD,BQ,decide_eq_true_eq]
 split
 ·simpa[*]using k
 ·split
  ·simpa[*]using k
  ·split <;> simpa[*]using k
theorem WM{Q:Int->HP}(hs:Sat h0 A h)(ci:At A i (AF p C))(n j:Int)(k:Q (AT C j n) h):E4 ⟨p,0,none⟩ j n Q h:=by
 obtain⟨w,ok,hs⟩:=(hs.front ci).open_;dsimp only[DZ,List.cons_append,List.nil_append,Cm.cells]at hs
 exact iA (C:=C) hs .z n j k
theorem o7{Q:Int->HP}(hs:Sat h0 A h)(ci:At A i (AF p C))(page cell:Int)(k:Q (DP C page cell) h):JB ⟨p,0,none⟩ page cell Q h:=by
 unfold JB aQ
 obtain⟨w,ok,hs⟩:=(hs.front ci).open_;dsimp only[DZ,List.cons_append,List.nil_append,Cm.cells]at hs
 have hl:=(hs.rdM zs1).len
 refine⟨_,_,_,hs.ld .z rfl,?_⟩
 unfold DP at k
 rw[hl]at k
 refine iA (C:=C) hs .z _ _ ?_
 split
 ·rename_i h1;rw[if_pos (by simpa using h1)]at k;exact k
 ·rename_i h1;rw[if_neg (by simpa using h1)]at k
  refine⟨_,hs.ld .z rfl,iA (C:=C) hs .z _ _ k⟩
def AiK(v:Value)(f:Nat->Int):Option (Nat×Sl×List Int)->Prop
 | none=>v=.func (.func rS) #[] #[]/\f=fun _=>255
 | some (b,_,mask)=>v=.func (.func rU) #[] #[.pointer (some ⟨b,0,none⟩)]/\f=fun i=>if mask=[] then 0 else mask.getD (i % mask.length) 0
def AiJ:Option (Nat×Sl×List Int)->List Ent
 | none=>[]
 | some (b,m,mask)=>[blk b [m.v],sE m 1 (AA .u8 mask)]
def KI(v:Value)(f:Nat->Int):Ent:=exE 3 (AiK v f) AiJ
theorem iE{Q:Value->Int->HP}(hs:Sat h0 A h)(ci:At A i (AF p C))
  (k:∀v h',Sat h0 (KI v (BT C)::put A i (AF p C.act)) h'->Q v (CL C) h'):HC ⟨p,0,none⟩ Q h:=by
 unfold HC aR
 obtain⟨w,ok,hs⟩:=(hs.front ci).open_;dsimp only[DZ,List.cons_append,List.nil_append,Cm.cells]at hs
 try simp only[AI,Nat.zero_add]
 (repeat first | refine⟨_,Sat.ld hs (by repeat constructor) (by rfl),?_⟩ | refine⟨_,_,_,Sat.ld hs (by repeat constructor) (by rfl),?_⟩ | (intro _ _ hn;replace hs:=Sat.new hs hn) | refine⟨Sat.cs hs (by repeat constructor) (by rfl),?_⟩ | (refine⟨Sat.can hs (by repeat constructor) (by simp),?_⟩;intro _ e;replace hs:=Sat.wr hs (by repeat constructor) e;clear e;simp only[put,AO,List.set]at hs))
 have hl:=ok.left
 have ha:=ok.act
 by_cases h1:C.left=0
 ·rw[if_neg (by simp[h1])]
  (repeat first | refine⟨_,Sat.ld hs (by repeat constructor) (by rfl),?_⟩ | refine⟨_,_,_,Sat.ld hs (by repeat constructor) (by rfl),?_⟩ | (intro _ _ hn;replace hs:=Sat.new hs hn) | refine⟨Sat.cs hs (by repeat constructor) (by rfl),?_⟩ | (refine⟨Sat.can hs (by repeat constructor) (by simp),?_⟩;intro _ e;replace hs:=Sat.wr hs (by repeat constructor) e;clear e;simp only[put,AO,List.set]at hs))
  have e:CL C=8:=by simp[CL,h1]
  rw[e]at k
  have em:BT C=fun i=>if C.mask=[] then 0 else C.mask.getD (i % C.mask.length) 0:=by funext i;simp[BT,h1]
  have ea:C.act={ C with acts:=w64 (C.acts+1),out:=true,left:=-1,mask:=[] }:=by simp[Cm.act,h1]
  rw[em]at k
  rw[ea]at k ha
  refine k _ _ ?_
  replace hs:=Sat.front hs (e:=slE _ _ _ 1 (AA .u8 C.mask)) (by repeat constructor)
  replace hs:=Sat.front hs (e:=blk _ [w.m.v]) (by repeat constructor)
  replace hs:=hs.sl_nil 1 none
  replace hs:=Sat.front hs (e:=slE _ _ _ 1 (AA .u8 [])) (by repeat constructor);replace hs:=Sat.front hs (e:=slE _ _ _ 1 (BU _)) (by repeat constructor);replace hs:=Sat.front hs (e:=slE _ _ _ 1 (AA .i64 _)) (by repeat constructor);replace hs:=Sat.front hs (e:=CQ 32 _ _) (by repeat constructor);replace hs:=Sat.front hs (e:=blk p _) (by repeat constructor);simp only[del]at hs
  exact Sat.close (some (_,w.m,C.mask)) ⟨rfl,rfl⟩ (JZ (a:=w.a) (b:=w.b) (c:=w.c) (m:=(none,0,0)) ha ci.s.s hs)
 ·rw[if_pos (by simp[h1])]
  (repeat first | refine⟨_,Sat.ld hs (by repeat constructor) (by rfl),?_⟩ | refine⟨_,_,_,Sat.ld hs (by repeat constructor) (by rfl),?_⟩ | (intro _ _ hn;replace hs:=Sat.new hs hn) | refine⟨Sat.cs hs (by repeat constructor) (by rfl),?_⟩ | (refine⟨Sat.can hs (by repeat constructor) (by simp),?_⟩;intro _ e;replace hs:=Sat.wr hs (by repeat constructor) e;clear e;simp only[put,AO,List.set]at hs))
  have e:CL C=0:=by simp[CL,h1]
  rw[e]at k
  have em:BT C=fun i=>255:=by funext i;simp[BT,h1]
  have hw:IntKind.i64.wrap (C.left-1)=C.left-1:=by
   have:=ok.left2
   rw[IntKind.wrap_i64];omega
  have ea:C.act={ C with acts:=w64 (C.acts+1),left:=if C.left-1 > -1 then C.left-1 else -1 }:=by simp[Cm.act,h1]
  rw[em]at k
  rw[ea]at k ha
  rw[hw]at hs
  refine k _ _ ?_
  exact Sat.close none ⟨rfl,rfl⟩ (JZ ha ci hs)
theorem iL{v:Value}{f:Nat->Int}{Q:List DV->HP}(hs:Sat h0 A h)(mm:At A i (KI v f))(n:Nat){x:Int}(hx:x=n)(k:Q [DV.one (.int .u8 (f n))] h):HM PP v [DV.one (.int .i64 x)] Q h:=by
 obtain⟨w,e,hs⟩:=(hs.front mm).open_
 subst hx
 cases w with
 | none=>
  obtain⟨rfl,rfl⟩:=e
  refine WP AaD (by simp) (by simp) (by simp[DV.ok]) ?_
  show V1 (n:Int) (fun i h=>Q [DV.one (.int .u8 i)] h) h
  unfold V1 aS
  exact k
 | some w=>
  obtain⟨b,m,mask⟩:=w
  obtain⟨rfl,rfl⟩:=e
  refine WP AaE (by simp) (by simp) (by simp[DV.ok]) ?_
  show V3 (n:Int) ⟨b,0,none⟩ (fun i h=>Q [DV.one (.int .u8 i)] h) h
  unfold V3 aT
  replace hs:Sat h0 (blk b [m.v]::sE m 1 (AA .u8 mask)::del A i) h:=hs
  dsimp only at k ⊢
  have hl:=hs.sl_len zs1
  simp only[BV,Nat.mul_one]at hl
  refine⟨_,_,_,hs.ld .z rfl,?_⟩
  by_cases h1:mask=[]
  ·rw[if_pos h1]at k
   subst h1
   rw[if_pos (by simp at hl;simp[←hl])]
   exact k
  ·rw[if_neg h1]at k
   have hp:0<mask.length:=List.length_pos_iff.2 h1
   rw[if_neg (by simp;omega)]
   refine⟨_,_,_,hs.ld .z rfl,?_⟩
   refine⟨_,_,_,hs.ld .z rfl,?_⟩
   obtain⟨q,hq⟩:=hs.sl_some zs1 (by omega)
   obtain⟨mp,ml,mc⟩:=m
   simp only at hq hl
   subst hq
   have e:(n:Int).tmod (ml:Int)=((n % ml:Nat):Int):=by rw[Int.tmod_eq_emod_of_nonneg (by omega)];omega
   rw[hl]at k
   have hlt:n % ml<ml:=Nat.mod_lt _ (by omega)
   refine⟨by dsimp only;omega,_,rfl,by dsimp only;rw[e];omega,by dsimp only;rw[e];omega,_,?_,k⟩
   dsimp only
   rw[e]
   try simp only[AI,Nat.zero_add,Int.toNat_natCast,Nat.mul_one]
   refine hs.sld zs1 ?_
   rw[BR,List.getElem?_eq_getElem (by omega)]
   simp[List.getD,List.getElem?_eq_getElem (show n % ml<mask.length by omega)]
theorem EA{i n:Int}(e:AT C i n=0):C.out=false/\0≤i/\i<n:=by
 unfold AT at e
 split at e
 ·omega
 ·rename_i h1
  split at e
  ·omega
  ·split at e
   ·omega
   ·exact⟨by simpa using h1,by omega,by omega⟩
def L6(C:Cm)(i:Int):Bool×Int:=if AT C i C.s.blown.length≠0 then (false,AT C i C.s.blown.length) else (C.s.blown.getD i.toNat false,0)
def EO(C:Cm)(i:Int):Int×Int:=if AT C i C.s.pages.length≠0 then (0,AT C i C.s.pages.length) else (C.s.erases.getD i.toNat 0,0)
theorem lK{Q:Bool->Int->HP}(hs:Sat h0 A h)(ci:At A i (AF p C))(j:Int)(k:Q (L6 C j).1 (L6 C j).2 h):I9 ⟨p,0,none⟩ j Q h:=by
 unfold I9 aF
 have hs':=hs
 obtain⟨w,ok,hs⟩:=(hs.front ci).open_;dsimp only[DZ,List.cons_append,List.nil_append,Cm.cells]at hs
 try simp only[AI,Nat.zero_add]
 have hl:=hs.sl_len zs3
 simp only[iJ,Nat.mul_one]at hl
 refine⟨_,_,_,hs.ld .z rfl,?_⟩
 rw[←hl]
 refine WM hs' ci _ _ ?_
 unfold L6 at k
 by_cases h1:AT C j C.s.blown.length=0
 ·rw[if_neg (by simpa using h1)]
  rw[if_neg (by simpa using h1)]at k
  obtain⟨_,h2,h3⟩:=EA h1
  refine⟨_,_,_,hs.ld .z rfl,?_⟩
  obtain⟨q,hq⟩:=hs.sl_some zs3 (by omega)
  obtain⟨w1,w2,⟨cp,cl,cc⟩,w4⟩:=w
  simp only at hq hl
  subst hq
  refine⟨_,rfl,h2,by simp only;omega,_,?_,k⟩
  try simp only[AI,Nat.zero_add,Nat.mul_one]
  refine hs.sld zs3 ?_
  rw[AdX,List.getElem?_eq_getElem (by omega)]
  simp[List.getD,List.getElem?_eq_getElem (show j.toNat<C.s.blown.length by omega)]
 ·rw[if_pos (by simpa using h1)]
  rw[if_pos (by simpa using h1)]at k
  exact k
theorem ZR{Q:Int->Int->HP}(hs:Sat h0 A h)(ci:At A i (AF p C))(j:Int)(k:Q (EO C j).1 (EO C j).2 h):HA ⟨p,0,none⟩ j Q h:=by
 unfold HA aJ
 have hs':=hs
 obtain⟨w,ok,hs⟩:=(hs.front ci).open_;dsimp only[DZ,List.cons_append,List.nil_append,Cm.cells]at hs
 try simp only[AI,Nat.zero_add]
 have hl:=hs.sl_len zs2
 simp only[BV,Nat.mul_one]at hl
 have hl1:=(hs.rdM zs1).len
 have hf:=ok.fits
 have hnp:=hf.pages
 have hne:=hf.erases
 refine⟨_,_,_,hs.ld .z rfl,?_⟩
 rw[←hl1]
 refine WM hs' ci _ _ ?_
 unfold EO at k
 by_cases h1:AT C j C.s.pages.length=0
 ·rw[if_neg (by simpa using h1)]
  rw[if_neg (by simpa using h1)]at k
  obtain⟨_,h2,h3⟩:=EA h1
  refine⟨_,_,_,hs.ld .z rfl,?_⟩
  obtain⟨q,hq⟩:=hs.sl_some zs2 (by omega)
  obtain⟨w1,⟨cp,cl,cc⟩,w2,w4⟩:=w
  simp only at hq hl
  subst hq
  refine⟨_,rfl,h2,by simp only;omega,_,?_,k⟩
  try simp only[AI,Nat.zero_add,Nat.mul_one]
  refine hs.sld zs2 ?_
  rw[BR,List.getElem?_eq_getElem (by omega)]
  simp[List.getD,List.getElem?_eq_getElem (show j.toNat<C.s.erases.length by omega)]
 ·rw[if_pos (by simpa using h1)]
  rw[if_pos (by simpa using h1)]at k
  exact k
def MB(C:Cm)(n:Int)(mask:List Int):Cm:={ C with left:=if n > -1 then n else -1,mask:=mask }
theorem xI{Q:HP}{q:Option Addr}{l c:Nat}{bs:List Int}(hs:Sat h0 A h)(ci:At A i (AF p C))(n:Int)(hn:n<2^63)(rd:hsv h q 1 l (AA .u8 bs))(hb:AW bs)(hl:l*1≤2^47)
  (k:∀h',Sat h0 (put A i (AF p (MB C n bs))) h'->Q h'):NH ⟨p,0,none⟩ n q l c Q h:=by
 unfold NH aH
 obtain⟨w,ok,hs⟩:=(hs.front ci).open_;dsimp only[DZ,List.cons_append,List.nil_append,Cm.cells]at hs
 try simp only[AI,Nat.zero_add]
 refine xC q l c _ _ h rd hl ?_
 intro p' c' h' bs' x o nb
 replace hs:=hs.own x o nb
 (repeat first | refine⟨_,Sat.ld hs (by repeat constructor) (by rfl),?_⟩ | refine⟨_,_,_,Sat.ld hs (by repeat constructor) (by rfl),?_⟩ | (intro _ _ hn;replace hs:=Sat.new hs hn) | refine⟨Sat.cs hs (by repeat constructor) (by rfl),?_⟩ | (refine⟨Sat.can hs (by repeat constructor) (by simp),?_⟩;intro _ e;replace hs:=Sat.wr hs (by repeat constructor) e;clear e;simp only[put,AO,List.set]at hs))
 refine k _ ?_
 have okc:(MB C n bs).ok:=⟨ok.may,ok.fits,ok.typed,by simp only[MB];split <;> omega,by simp only[MB];split <;> omega,hb,ok.acts,by have:=rd.1;simp at this;simp only[MB];omega⟩
 replace hs:=Sat.front hs (e:=slE _ _ _ 1 (AA .u8 bs)) (by repeat constructor);replace hs:=Sat.front hs (e:=slE _ _ _ 1 (BU _)) (by repeat constructor);replace hs:=Sat.front hs (e:=slE _ _ _ 1 (AA .i64 _)) (by repeat constructor);replace hs:=Sat.front hs (e:=CQ 32 _ _) (by repeat constructor);replace hs:=Sat.front hs (e:=blk p _) (by repeat constructor);simp only[del]at hs
 exact (JZ (C:=MB C n bs) (a:=w.a) (b:=w.b) (c:=w.c) (m:=(p',l,c')) okc ci.s hs).drop
def B9(C:Cm)(i:Int):Cm×Int:=
 if AT C i C.s.blown.length≠0 then (C,AT C i C.s.blown.length)
 else (if bits .and .u8 (BT C 0) 1=1 then { C.act with s:={ C.s with blown:=C.s.blown.set i.toNat true } } else C.act,CL C)
theorem lJ{Q:Int->HP}(hs:Sat h0 A h)(ci:At A i (AF p C))(j:Int)(k:∀h',Sat h0 (put A i (AF p (B9 C j).1)) h'->Q (B9 C j).2 h'):IK ⟨p,0,none⟩ j Q h:=by
 unfold IK aD
 have hs':=hs
 obtain⟨w,ok,hs⟩:=(hs.front ci).open_;dsimp only[DZ,List.cons_append,List.nil_append,Cm.cells]at hs
 try simp only[AI,Nat.zero_add]
 have hl:=hs.sl_len zs3
 simp only[iJ,Nat.mul_one]at hl
 refine⟨_,_,_,hs.ld .z rfl,?_⟩
 rw[←hl]
 refine WM hs' ci _ _ ?_
 unfold B9 at k
 by_cases h1:AT C j C.s.blown.length=0
 case neg=>
  rw[if_pos (by simpa using h1)]
  rw[if_pos (by simpa using h1)]at k
  exact k _ (ci.put_self.symm ▸ hs')
 rw[if_neg (by simpa using h1)]
 rw[if_neg (by simpa using h1)]at k
 obtain⟨_,h2,h3⟩:=EA h1
 refine iE hs' ci ?_
 intro v h2' hs
 refine iL hs .z 0 rfl ?_
 refine⟨_,_,rfl,_,rfl,rfl,?_⟩
 by_cases h4:bits .and .u8 (BT C 0) 1=1
 case neg=>
  rw[if_neg (by simpa using h4)]
  rw[if_neg h4]at k
  exact k _ hs.drop
 rw[if_pos (by simpa using h4)]
 rw[if_pos h4]at k
 have ci2:=(ci.put (AF p C.act)).s (x:=KI v (BT C))
 obtain⟨w',ok',hs⟩:=(hs.front ci2).open_
 dsimp only[DZ,List.cons_append,List.nil_append,Cm.cells]at hs
 refine⟨_,_,_,hs.ld .z rfl,?_⟩
 have eb:C.act.s=C.s:=by unfold Cm.act;split <;> rfl
 rw[eb]at hs
 have hl':=hs.sl_len zs3
 simp only[iJ,Nat.mul_one]at hl'
 obtain⟨q,hq⟩:=hs.sl_some zs3 (by omega)
 obtain⟨w1,w2,⟨cp,cl,cc⟩,w4⟩:=w'
 simp only at hq hl'
 subst hq
 refine⟨_,rfl,h2,by dsimp only;omega,?_⟩
 try simp only[AI,Nat.zero_add,Nat.mul_one]
 refine⟨hs.scan zs3 (by dsimp only;omega) (by simp;omega),?_⟩
 intro h5 e5
 replace hs:=hs.swr zs3 e5 (by dsimp only;omega) (by simp;omega) (by simp)
 simp only[put,AO]at hs
 have ec:({ C.act with s:={ C.s with blown:=C.s.blown.set j.toNat true } }:Cm).ok:=
  ⟨ok'.may,⟨by have:=ok'.fits.pages;rw[eb]at this;exact this,by have:=ok'.fits.cells;rw[eb]at this;exact this,by have:=ok'.fits.erases;rw[eb]at this;exact this,
   by have:=ok'.fits.blown;rw[eb]at this;simpa using this⟩,by have:=ok'.typed;rw[eb]at this;exact⟨this.bytes,this.erases⟩,ok'.left,ok'.left2,ok'.mask,ok'.acts,ok'.mlen⟩
 have e6:(BU C.s.blown).set j.toNat (Value.bool true)=BU (C.s.blown.set j.toNat true):=by simp[BU,List.map_set]
 rw[e6]at hs
 have:=JZ (a:=w1) (b:=w2) (c:=(some ⟨q,0,none⟩,cl,cc)) (m:=w4) ec ci2 hs
 simp only[AV,DU]at this
 exact k _ this.drop
end
section
variable {h0 h:H} {A:List Ent} {i p:Nat} {C:Cm}
theorem iB{page cell:Int}(ok:C.ok)(e:DP C page cell=0):C.out=false/\0≤page/\page<C.s.pages.length/\0≤cell/\cell<C.cfg.cells/\
  ∃hj:page.toNat<C.s.pages.length,(C.s.pages[page.toNat].length:Int)=32*C.cfg.cells/\(cell.toNat+1)*32≤C.s.pages[page.toNat].length:=by
 unfold DP at e
 split at e
 ·rename_i h1;exact absurd e h1
 ·rename_i h1
  have h1:AT C page C.s.pages.length=0:=by simpa using h1
  obtain⟨h2,h3,h4⟩:=EA h1
  obtain⟨_,h5,h6⟩:=EA e
  have hj:page.toNat<C.s.pages.length:=by omega
  have hl:=ok.fits.cells _ (List.getElem_mem hj)
  exact⟨h2,h3,h4,h5,h6,hj,hl,by omega⟩
def CI(C:Cm)(page cell:Int):List Int×Int:=
 if DP C page cell≠0 then (AB 32,DP C page cell) else (AY (C.s.pages.getD page.toNat []) cell.toNat,0)
theorem gW{Q:List Int->Int->HP}(hs:Sat h0 A h)(ci:At A i (AF p C))(page cell:Int)(k:∀h',Sat h0 A h'->Q (CI C page cell).1 (CI C page cell).2 h'):
  HB ⟨p,0,none⟩ page cell Q h:=by
 unfold HB aN
 try simp only[AI,Nat.zero_add,List.append_nil]
 (intro _ _ hn;replace hs:=Sat.new hs hn)
 refine o7 hs (ci.s) _ _ ?_
 unfold CI at k
 by_cases h1:DP C page cell=0
 case neg=>
  rw[if_pos (by simpa using h1)]
  rw[if_pos (by simpa using h1)]at k
  (refine⟨Sat.can hs (by repeat constructor) (by simp),?_⟩;intro _ e;replace hs:=Sat.wra hs (by repeat constructor) e (by simp[*]);clear e;simp only[put]at hs)
  refine⟨_,?_,hs.row0 (by repeat constructor),?_⟩
  ·simp
  exact k _ hs.drop
 rw[if_neg (by simpa using h1)]
 rw[if_neg (by simpa using h1)]at k
 have hs':=hs
 obtain⟨w,ok,hs⟩:=(hs.front ci.s).open_
 obtain⟨_,h2,h3,h4,h5,hj,hl,hk⟩:=iB ok h1
 dsimp only[DZ,List.cons_append,List.nil_append,Cm.cells]at hs
 refine⟨_,_,_,hs.ld .z rfl,?_⟩
 have rd:=hs.rdM zs1
 have hlen:=rd.len
 obtain⟨q,x,q',e1,e2,e3,e4,e5⟩:=rd.cell hj hk
 rw[e1]
 refine⟨_,rfl,h2,by(try dsimp only);omega,?_⟩
 refine⟨_,_,_,e2,?_⟩
 refine⟨_,e4,h4,by omega,?_⟩
 refine⟨_,FT hk,e5,?_⟩
 replace hs:=hs'
 have hcl:=FT hk
 (refine⟨Sat.can hs (by repeat constructor) (by simp),?_⟩;intro _ e;replace hs:=Sat.wra hs (by repeat constructor) e (by simp[*]);clear e;simp only[put]at hs)
 refine⟨_,?_,hs.row0 (by repeat constructor),?_⟩
 ·exact hcl
 have:C.s.pages.getD page.toNat []=C.s.pages[page.toNat]:=by simp[List.getD,List.getElem?_eq_getElem hj]
 rw[this]at k
 exact k _ hs.drop
def CS(old x:List Int)(f:Nat->Int):List Int:=B5 (fun i now=>bits .andNot .u8 now (bits .andNot .u8 (f i) (x.getD i 0))) 32 old
def Cm.setPage(C:Cm)(j:Nat)(row:List Int):Cm:={ C with s:={ C.s with pages:=C.s.pages.set j row } }
def EZ(C:Cm)(page:Int):List Int:=C.s.pages.getD page.toNat []
def CH(C:Cm)(page cell:Int)(x:List Int):Cm×Int:=
 if DP C page cell≠0 then (C,DP C page cell)
 else (C.act.setPage page.toNat (CK (EZ C page) cell.toNat (CS (AY (EZ C page) cell.toNat) x (BT C))),CL C)
theorem B3(C:Cm):C.act.s=C.s:=by unfold Cm.act;split <;> rfl
theorem DA(C:Cm):C.act.cfg=C.cfg:=by unfold Cm.act;split <;> rfl
theorem EV(op:BinOp)(a b:Int):A4 (bits op .u8 a b):=by
 have h1:=bits_lo_u8 op a b;have h2:=bits_hi_u8 op a b
 unfold A4;omega
theorem Cm.ok.setPage{C:Cm}(ok:C.ok){j:Nat}{row:List Int}(hl:(row.length:Int)=32*C.cfg.cells)(hb:AW row):(C.setPage j row).ok:=by
 refine⟨ok.may,⟨by simpa[Cm.setPage]using ok.fits.pages,?_,ok.fits.erases,ok.fits.blown⟩,⟨?_,ok.typed.erases⟩,ok.left,ok.left2,ok.mask,ok.acts,ok.mlen⟩
 ·intro l hm
  rcases List.mem_or_eq_of_mem_set hm with hm | hm
  ·exact ok.fits.cells l hm
  ·rw[hm];exact hl
 ·intro l hm
  rcases List.mem_or_eq_of_mem_set hm with hm | hm
  ·exact ok.typed.bytes l hm
  ·rw[hm];exact hb
theorem XY{g:Nat->Int->Int}{n:Nat}{ns:List Int}{P:Int->Prop}(h1:∀v,v∈ns->P v)(h2:∀i v,v∈ns->P (g i v)):∀v,v∈B5 g n ns->P v:=by
 intro v hv
 obtain⟨i,hi⟩:=List.mem_iff_getElem?.1 hv
 rw[IT]at hi
 cases e:ns[i]? with
 | none=>rw[e]at hi;simp at hi
 | some u=>
  rw[e]at hi
  have hu:u∈ns:=List.mem_iff_getElem?.2 ⟨i,e⟩
  simp only[Option.map_some,Option.some.injEq]at hi
  rw[←hi];split
  ·exact h2 _ _ hu
  ·exact h1 _ hu
theorem PS{row:List Int}{k:Nat}{v:Int}(h:v∈AY row k):v∈row:=List.mem_of_mem_drop (List.mem_of_mem_take h)
theorem uW{row c:List Int}{k:Nat}{v:Int}(h:v∈CK row k c):v∈row∨v∈c:=by
 simp only[CK,List.mem_append]at h
 rcases h with (h | h) | h
 ·exact Or.inl (List.mem_of_mem_take h)
 ·exact Or.inr h
 ·exact Or.inl (List.mem_of_mem_drop h)
theorem V8{Q:Int->HP}(hs:Sat h0 A h)(ci:At A i (AF p C))(page cell:Int)(x:List Int)(hx:x.length=32)(k:∀h',Sat h0 (put A i (AF p (CH C page cell x).1)) h'->Q (CH C page cell x).2 h'):
  F5 ⟨p,0,none⟩ page cell x Q h:=by
 unfold F5 aL
 try simp only[AI,Nat.zero_add,List.append_nil]
 intro nx _ hn
 replace hs:=Sat.new hs hn
 clear hn
 refine o7 hs (ci.s) _ _ ?_
 unfold CH at k
 by_cases h1:DP C page cell=0
 case neg=>
  rw[if_pos (by simpa using h1)]
  rw[if_pos (by simpa using h1)]at k
  exact k _ (ci.put_self.symm ▸ hs.drop)
 rw[if_neg (by simpa using h1)]
 rw[if_neg (by simpa using h1)]at k
 obtain⟨w0,ok,_⟩:=(hs.front ci.s).open_
 obtain⟨_,h2,h3,h4,h5,hj,hl,hk⟩:=iB ok h1
 have erow:EZ C page=C.s.pages[page.toNat]:=by simp[EZ,List.getD,List.getElem?_eq_getElem hj]
 rw[erow]at k
 refine iE hs ci.s ?_
 intro v h6 hs
 simp only[AV]at hs
 have ci2:=((ci.put (AF p C.act)).s (x:=blk nx (AA .u8 x))).s (x:=KI v (BT C))
 have hsO:=(hs.front ci2).open_
 obtain⟨w,ok',hsO⟩:=hsO
 dsimp only[DZ,List.cons_append,List.nil_append,Cm.cells]at hsO
 rw[B3]at hsO
 refine⟨_,_,_,hsO.ld .z rfl,?_⟩
 have rd:=hsO.rdM zs1
 have hlen:=rd.len
 obtain⟨q,y,q',e1,e2,e3,e4,e5⟩:=rd.cell hj hk
 rw[e1]
 refine⟨_,rfl,h2,by(try dsimp only);omega,?_⟩
 refine⟨_,_,_,e2,?_⟩
 refine⟨_,e4,h4,by omega,?_⟩
 have hcl:=FT hk
 refine⟨_,hcl,e5,?_⟩
 intro no _ hn
 replace hs:=Sat.new hs hn
 clear hn
 (refine⟨Sat.can hs (by repeat constructor) (by simp),?_⟩;intro _ e;replace hs:=Sat.wra hs (by repeat constructor) e (by simp[*]);clear e;simp only[put]at hs)
 refine⟨_,?_,hs.row0 (by repeat constructor),?_⟩
 ·exact hcl
 intro nn _ hn
 replace hs:=Sat.new hs hn
 clear hn
 (refine⟨Sat.can hs (by repeat constructor) (by simp),?_⟩;intro _ e;replace hs:=Sat.wra hs (by repeat constructor) e (by simp[*]);clear e;simp only[put]at hs)
 intro J hJ
 generalize hold:AY C.s.pages[page.toNat] cell.toNat=old at *
 let g:=fun(i:Nat) (now:Int)=>bits .andNot .u8 now (bits .andNot .u8 (BT C i) (x.getD i 0))
 refine BS 32 (fun i h=>Sat h0 (blk nn (AA .u8 (B5 g i old))::blk no (AA .u8 old)::KI v (BT C)::blk nx (AA .u8 x)::put A _ (AF p C.act)) h) ?_ ?_ 0 _ (by omega) (by simpa using hs)
 ·intro j h7 hjl hs hk'
  apply hJ
  rw[AD,if_pos (by simp;omega)]
  simp only[Int.toNat_natCast,Nat.mul_one]
  have hmj:j<(B5 g j old).length:=by simp;omega
  have eg:(B5 g j old)[j]=old[j]:=by
   have:=IT g j old j
   rw[List.getElem?_eq_getElem hmj,List.getElem?_eq_getElem (by omega)]at this
   simpa using this
  refine⟨by omega,by omega,_,hs.ld .z (by rw[BR,List.getElem?_eq_getElem hmj];rfl),by omega,by omega,_,hs.ld zs3 (by rw[BR,List.getElem?_eq_getElem (by omega)];rfl),?_⟩
  refine iL hs zs2 j rfl ?_
  refine⟨_,_,rfl,_,rfl,rfl,AH (hs.ld zs3 (by rw[BR,List.getElem?_eq_getElem (by omega)];rfl)),AH (hs.ld .z (by rw[BR,List.getElem?_eq_getElem hmj];rfl)),by omega,by omega,hs.can .z (by simp;omega),?_⟩
  intro h8 e8
  replace hs:=hs.wr .z e8
  rw[A0 (by omega)]
  refine hk' _ ?_
  simp only[GK,VO,G1,put]at hs
  have e9:=XZ g j old (by omega)
  rw[←e9]
  have e10:x.getD j 0=x[j]:=by simp[List.getD,List.getElem?_eq_getElem (show j<x.length by omega)]
  rw[eg]at hs
  simpa only[g,e10]using hs
 ·intro h7 hs
  apply hJ
  rw[AD,if_neg (by simp)]
  have hnl:(B5 g 32 old).length=32:=by simpa using hcl
  refine⟨_,?_,hs.row0 (by repeat constructor),?_⟩
  ·exact hnl
  refine⟨_,hcl,hs.row0 zs1,?_⟩
  have ci3:=(ci2.s (x:=blk no (AA .u8 old))).s (x:=blk nn (AA .u8 (B5 g 32 old)))
  obtain⟨w',_,hsO⟩:=(hs.front ci3).open_
  dsimp only[DZ,List.cons_append,List.nil_append,Cm.cells]at hsO
  rw[B3]at hsO
  have hrow:(C.s.pages[page.toNat].length:Int)=32*C.act.cfg.cells:=by rw[DA];exact hl
  have ok2:=ok'.setPage (j:=page.toNat) (row:=CK C.s.pages[page.toNat] cell.toNat (B5 g 32 old)) (by rw[VI hk hnl];exact hrow) (by
   intro n hn
   rcases uW hn with hn | hn
   ·exact ok.typed.bytes _ (List.getElem_mem hj) n hn
   ·refine XY (P:=A4) (fun v hv=>?_) (fun i v hv=>EV _ _ _) n hn
    rw[←hold]at hv
    exact ok.typed.bytes _ (List.getElem_mem hj) v (PS hv))
  split
  case isTrue hne=>
   refine⟨_,_,_,hsO.ld .z rfl,?_⟩
   have hl1:=(hsO.rdM zs1).len
   obtain⟨y',hd,R,e6,hsT,give⟩:=(hsO.front zs1).row_take hj
   obtain⟨⟨wp,wl,wc⟩,wb,wc',wm⟩:=w'
   dsimp only at hl1 hsT give
   have hl2:C.s.pages.length=wl:=hl1
   obtain⟨qb,hq⟩:=hsT.sl_some zs1 (show 0<wl by omega)
   subst hq
   refine⟨_,rfl,h2,by dsimp only;omega,?_⟩
   try simp only[AI,Nat.zero_add,Nat.mul_one]
   refine⟨_,_,_,hsT.sld zs1 e6,?_⟩
   refine⟨_,?_,hs.row0 (by repeat constructor),?_⟩
   ·exact hnl
   have hyl:=hsT.sl_len .z
   simp only[BV]at hyl
   obtain⟨yp,yl,yc⟩:=y'
   dsimp only at hyl
   obtain⟨yb,hy⟩:=hsT.sl_some .z (by dsimp only;omega)
   dsimp only at hy
   subst hy
   refine⟨_,rfl,h4,by dsimp only;omega,?_⟩
   try simp only[AI,Nat.zero_add]
   refine⟨hsT.scan .z (by dsimp only;omega) (by simp;omega),?_⟩
   intro h8 e8
   have hsW:=hsT.swr .z e8 (by dsimp only;omega) (by simp[hcl];omega) (A9 _ _)
   rw[AlT hk hnl]at hsW
   have hsG:=give _ _ _ hsW
   have hsC:=JZ (a:=(some ⟨qb,0,none⟩,wl,wc)) (b:=wb) (c:=wc') (m:=wm) ok2 ci3 (by rw[Cm.setPage,B3];exact hsG.front zs1)
   simp only[AV,DU]at hsC
   exact k _ hsC.drop.drop.drop.drop
  case isFalse hne=>
   have hne:B5 g 32 old=old:=by simpa using hne
   replace hne:CS old x (BT C)=old:=hne
   have e1:CK C.s.pages[page.toNat] cell.toNat (AY C.s.pages[page.toNat] cell.toNat)=C.s.pages[page.toNat]:=by
    unfold CK AY
    rw[List.append_assoc,←List.drop_drop,List.take_append_drop,List.take_append_drop]
   have e2:C.act.setPage page.toNat C.s.pages[page.toNat]=C.act:=by
    have:C.act.s.pages.set page.toNat C.s.pages[page.toNat]=C.act.s.pages:=by rw[B3];exact List.set_getElem_self hj
    unfold Cm.setPage;rw[this]
   rw[hne,←hold,e1,e2]at k
   exact k _ hs.drop.drop.drop.drop
def CB(row:List Int)(f:Nat->Int):List Int:=B5 (fun i b=>bits .or .u8 b (f i)) row.length row
def Cm.setErase(C:Cm)(j:Nat)(n:Int):Cm:={ C with s:={ C.s with erases:=C.s.erases.set j n } }
def CP(C:Cm)(page:Int):Cm×Int:=
 if AT C page C.s.pages.length≠0 then (C,AT C page C.s.pages.length)
 else if C.cfg.erases≤C.s.erases.getD page.toNat 0 then (C,9)
 else ((C.act.setErase page.toNat (C.s.erases.getD page.toNat 0+1)).setPage page.toNat (CB (EZ C page) (BT C)),CL C)
theorem Cm.ok.setErase{C:Cm}(ok:C.ok){j:Nat}{n:Int}(hn:-(2^63)≤n/\n<2^63):(C.setErase j n).ok:=by
 refine⟨ok.may,⟨ok.fits.pages,ok.fits.cells,by simpa[Cm.setErase]using ok.fits.erases,ok.fits.blown⟩,⟨ok.typed.bytes,?_⟩,ok.left,ok.left2,ok.mask,ok.acts,ok.mlen⟩
 intro l hm
 rcases List.mem_or_eq_of_mem_set hm with hm | hm
 ·exact ok.typed.erases l hm
 ·rw[hm];exact hn
theorem AiG{g:Nat->Int->Int}{i j:Nat}{ns:List Int}(h:i≤j)(hj:j<ns.length):(B5 g i ns)[j]?=some ns[j]:=by
 rw[IT,List.getElem?_eq_getElem hj];simp;omega
theorem lV{Q:Int->HP}(hs:Sat h0 A h)(ci:At A i (AF p C))(page:Int)(k:∀h',Sat h0 (put A i (AF p (CP C page).1)) h'->Q (CP C page).2 h'):
  JA ⟨p,0,none⟩ page Q h:=by
 unfold JA aI
 try simp only[AI,Nat.zero_add]
 have hs':=hs
 obtain⟨w,ok,hs⟩:=(hs.front ci).open_;dsimp only[DZ,List.cons_append,List.nil_append,Cm.cells]at hs
 have hlp:=(hs.rdM zs1).len
 have hle:=hs.sl_len zs2
 simp only[BV,Nat.mul_one]at hle
 refine⟨_,_,_,hs.ld .z rfl,?_⟩
 rw[←hlp]
 refine WM hs' ci _ _ ?_
 unfold CP at k
 by_cases h1:AT C page C.s.pages.length=0
 case neg=>
  rw[if_pos (by simpa using h1)]
  rw[if_pos (by simpa using h1)]at k
  exact k _ (ci.put_self.symm ▸ hs')
 rw[if_neg (by simpa using h1)]
 rw[if_neg (by simpa using h1)]at k
 obtain⟨_,h2,h3⟩:=EA h1
 have hf1:=ok.fits.pages
 have hf2:=ok.fits.erases
 have hje:page.toNat<C.s.erases.length:=by omega
 have hjp:page.toNat<C.s.pages.length:=by omega
 have eer:C.s.erases.getD page.toNat 0=C.s.erases[page.toNat]:=by simp[List.getD,List.getElem?_eq_getElem hje]
 have erow:EZ C page=C.s.pages[page.toNat]:=by simp[EZ,List.getD,List.getElem?_eq_getElem hjp]
 rw[eer,erow]at k
 refine⟨_,_,_,hs.ld .z rfl,?_⟩
 obtain⟨w1,⟨ep,el,ec⟩,w3,w4⟩:=w
 replace hle:C.s.erases.length=el:=hle
 obtain⟨eb,he⟩:=hs.sl_some zs2 (show 0<el by omega)
 dsimp only at he
 subst he
 refine⟨_,rfl,h2,by(try dsimp only);omega,?_⟩
 try simp only[AI,Nat.zero_add,Nat.mul_one]
 refine⟨_,hs.sld zs2 (by rw[BR,List.getElem?_eq_getElem hje];rfl),?_⟩
 refine⟨_,Sat.ld hs (by repeat constructor) (by rfl),?_⟩
 by_cases h4:C.cfg.erases≤C.s.erases[page.toNat]
 case pos=>
  rw[BQ,if_pos (by simpa using h4)]
  rw[if_pos h4]at k
  exact k _ (ci.put_self.symm ▸ hs')
 rw[BQ,if_neg (by simpa using h4)]
 rw[if_neg h4]at k
 refine iE hs' ci ?_
 intro v h6 hs
 have ci2:=(ci.put (AF p C.act)).s (x:=KI v (BT C))
 obtain⟨w,ok',hs⟩:=(hs.front ci2).open_
 dsimp only[DZ,List.cons_append,List.nil_append,Cm.cells]at hs
 rw[B3]at hs
 have hle:=hs.sl_len zs2
 simp only[BV,Nat.mul_one]at hle
 have hlp:=(hs.rdM zs1).len
 obtain⟨⟨pp,pl,pc⟩,⟨ep,el,ec⟩,w3,w4⟩:=w
 replace hle:C.s.erases.length=el:=hle
 replace hlp:C.s.pages.length=pl:=hlp
 obtain⟨eb,he⟩:=hs.sl_some zs2 (show 0<el by omega)
 dsimp only at he
 subst he
 refine⟨_,_,_,Sat.ld hs (by repeat constructor) (by rfl),?_⟩
 refine⟨_,rfl,h2,by(try dsimp only);omega,?_⟩
 try simp only[AI,Nat.zero_add,Nat.mul_one]
 refine⟨_,hs.sld zs2 (by rw[BR,List.getElem?_eq_getElem hje];rfl),?_⟩
 refine⟨_,rfl,h2,by(try dsimp only);omega,?_⟩
 try simp only[AI,Nat.zero_add,Nat.mul_one]
 refine⟨hs.scan zs2 (show 0<el by omega) (by simp;omega),?_⟩
 intro h7 e7
 replace hs:=hs.swr zs2 e7 (show 0<el by omega) (by simp;omega) (by simp)
 simp only[put,AO,G1]at hs
 have hce:=ok.typed.erases _ (List.getElem_mem hje)
 have hcm:=ok.may.erases
 rw[show IntKind.i64.wrap (C.s.erases[page.toNat]+1)=C.s.erases[page.toNat]+1 by rw[IntKind.wrap_i64];omega]at hs
 have hs7:=hs
 refine⟨_,_,_,Sat.ld hs (by repeat constructor) (by rfl),?_⟩
 obtain⟨⟨yp,yl,yc⟩,hd,R,e8,hs,give⟩:=(hs.front zs1).row_take hjp
 obtain⟨qb,hq⟩:=hs.sl_some zs1 (show 0<pl by omega)
 dsimp only at hq
 subst hq
 refine⟨_,rfl,h2,by(try dsimp only);omega,?_⟩
 try simp only[AI,Nat.zero_add,Nat.mul_one]
 refine⟨_,_,_,hs.sld zs1 e8,?_⟩
 have hcl:=ok.fits.cells _ (List.getElem_mem hjp)
 have hcc:=ok.may.cells
 have hcs:=ok.may.slots
 have hyl:=hs.sl_len .z
 simp only[BV]at hyl
 obtain⟨yb,hy⟩:=hs.sl_some .z (show 0<yl by omega)
 dsimp only at hy
 subst hy
 have hbr:=ok.typed.bytes _ (List.getElem_mem hjp)
 generalize C.s.pages[page.toNat]=row at *
 let g:=fun(i:Nat) (b:Int)=>bits .or .u8 b (BT C i)
 intro J hJ
 have hmg:∀n,(B5 g n row).length=row.length:=fun n=>by simp
 refine BS C.cfg.cells.toNat (fun k h=>Sat h0 (sE (some ⟨yb,0,none⟩,yl,yc) 32 (AA .u8 (B5 g (32*k) row))::sE (some ⟨qb,0,none⟩,pl,pc) 1 hd::((blk p (C.act.cells (some ⟨qb,0,none⟩,pl,pc) (some ⟨eb,0,none⟩,el,ec) w3 w4) ::
   sE (some ⟨eb,0,none⟩,el,ec) 1 (AA .i64 (C.s.erases.set page.toNat (C.s.erases[page.toNat]+1)))::sE w3 1 (BU C.s.blown)::sE w4 1 (AA .u8 C.act.mask)::KI v (BT C)::del (put A i (AF p C.act)) i)++R)) h) ?_ ?_ 0 _ (by omega) (by rw[Nat.mul_zero,tM];exact hs)
 ·intro k h8 hk hs hk'
  apply hJ
  rw[AD,if_pos (by simp;omega)]
  simp only[Cm.cells]at hs
  refine⟨_,_,_,hs.ld zs2 rfl,?_⟩
  refine⟨_,rfl,h2,by(try dsimp only);omega,?_⟩
  try simp only[AI,Nat.zero_add,Nat.mul_one]
  refine⟨_,_,_,hs.sld zs1 e8,?_⟩
  refine⟨_,rfl,by omega,by(try dsimp only);omega,?_⟩
  intro J2 hJ2
  refine BS 32 (fun j h=>Sat h0 (sE (some ⟨yb,0,none⟩,yl,yc) 32 (AA .u8 (B5 g (32*k+j) row))::sE (some ⟨qb,0,none⟩,pl,pc) 1 hd::((blk p (C.act.cells (some ⟨qb,0,none⟩,pl,pc) (some ⟨eb,0,none⟩,el,ec) w3 w4) ::
   sE (some ⟨eb,0,none⟩,el,ec) 1 (AA .i64 (C.s.erases.set page.toNat (C.s.erases[page.toNat]+1)))::sE w3 1 (BU C.s.blown)::sE w4 1 (AA .u8 C.act.mask)::KI v (BT C)::del (put A i (AF p C.act)) i)++R)) h) ?_ ?_ 0 _ (by omega) (by rw[Nat.add_zero];exact hs)
  ·intro j h9 hj hs hk2
   apply hJ2
   rw[AD,if_pos (by simp;omega)]
   try simp only[AI,Nat.zero_add,Nat.mul_one,Int.toNat_natCast]
   have hlt:k*32+j<row.length:=by omega
   have ea:(B5 g (32*k+j) row)[k*32+j]?=some row[k*32+j]:=AiG (by omega) hlt
   have eb':(AA .u8 (B5 g (32*k+j) row))[k*32+j]?=some (.int .u8 row[k*32+j]):=by rw[BR,ea];rfl
   refine⟨by omega,by omega,_,hs.sld .z eb',?_⟩
   have ew:IntKind.i64.wrap (IntKind.i64.wrap ((k:Int)*32)+(j:Int))=((k*32+j:Nat):Int):=by rw[AQ (n:=(k:Int)*32) (by omega),AQ (by omega)];omega
   rw[ew]
   refine iL (i:=6) hs zs6 (k*32+j) rfl ?_
   refine⟨_,_,rfl,_,rfl,rfl,AH (hs.sld .z eb'),by omega,by omega,hs.scan .z (show 0<yl by omega) (by simp;omega),?_⟩
   intro h10 e10
   replace hs:=hs.swr .z e10 (show 0<yl by omega) (by simp;omega) (by simp)
   rw[A0 (by omega)]
   refine hk2 _ ?_
   simp only[GK,VO,G1,put]at hs
   have e11:(B5 g (32*k+j) row).set (k*32+j) (bits .or .u8 row[k*32+j] (BT C (k*32+j)))=B5 g (32*k+(j+1)) row:=by
    have:=XZ g (32*k+j) row (by omega)
    rw[show 32*k+(j+1)=32*k+j+1 by omega,←this]
    have e12:32*k+j=k*32+j:=by omega
    simp only[e12,g]
   rw[e11]at hs
   exact hs
  ·intro h9 hs
   apply hJ2
   rw[AD,if_neg (by simp)]
   rw[A0 (by omega)]
   exact hk' _ hs
 ·intro h8 hs
  apply hJ
  rw[AD,if_neg (by simp;omega)]
  have e12:B5 g (32*C.cfg.cells.toNat) row=CB row (BT C):=by
   unfold CB
   have:32*C.cfg.cells.toNat=row.length:=by omega
   rw[this]
  rw[e12]at hs
  replace hs:=(give _ _ _ hs).front zs1
  have hce':((C.act.setErase page.toNat (C.s.erases[page.toNat]+1)).setPage page.toNat (CB row (BT C))).ok:=by
   refine (ok'.setErase (by omega)).setPage ?_ ?_
   ·show ((CB row (BT C)).length:Int)=32*C.act.cfg.cells
    rw[DA,←e12,hmg];exact hcl
   ·refine XY (P:=A4) (fun v hv=>hbr v hv) (fun i v hv=>EV _ _ _)
  have hsC:=JZ (a:=(some ⟨qb,0,none⟩,pl,pc)) (b:=(some ⟨eb,0,none⟩,el,ec)) (c:=w3) (m:=w4) hce' ci2 (by rw[Cm.setPage,Cm.setErase,B3];exact hs)
  simp only[AV,DU]at hsC
  exact k _ hsC.drop
end
structure St.small (s:St):Prop where
 pages:s.pages.length*24+4096≤2^47
 rows:∀l,l∈s.pages->l.length+4096≤2^47
 erases:s.erases.length*8+4096≤2^47
 blown:s.blown.length+4096≤2^47
theorem Cm.ok.small{C:Cm}(ok:C.ok):C.s.small:=by
 have h1:=ok.may.np;have h2:=ok.may.nf;have h3:=ok.fits;have h4:=ok.may.cells
 refine⟨by have:=h3.pages;omega,fun l hl=>by have:=h3.cells l hl;omega,by have:=h3.erases;omega,by have:=h3.blown;omega⟩
section
variable {h0 h:H} {A:List Ent} {i p:Nat} {C:Cm}
theorem xD{p:Option Addr}{l c:Nat}{bs:List Int}{Q:Option Addr->Nat->Nat->HP}(hs:Sat h0 A h)(rd:hsv h p 32 l (AA .u8 bs))(hb:bs.length≤2^47)
  (k:∀p' c' h',Sat h0 (sE (p',l,c') 32 (AA .u8 bs)::A) h'->Q p' l c' h'):LY p l c Q h:=
 xE p l c _ Q h rd (by have:=rd.1;simp at this;omega) fun p' c' h' bs' x o n=>k _ _ _ (hs.own x o n)
theorem xF{p:Option Addr}{l c:Nat}{bs:List Int}{Q:Option Addr->Nat->Nat->HP}(hs:Sat h0 A h)(rd:hsv h p 1 l (AA .i64 bs))(hb:bs.length*8≤2^47)
  (k:∀p' c' h',Sat h0 (sE (p',l,c') 1 (AA .i64 bs)::A) h'->Q p' l c' h'):L2 p l c Q h:=
 xG p l c _ Q h rd (by have:=rd.1;simp at this;omega) fun p' c' h' bs' x o n=>k _ _ _ (hs.own x o n)
theorem xA{p:Option Addr}{l c:Nat}{bs:List Bool}{Q:Option Addr->Nat->Nat->HP}(hs:Sat h0 A h)(rd:hsv h p 1 l (BU bs))(hb:bs.length≤2^47)
  (k:∀p' c' h',Sat h0 (sE (p',l,c') 1 (BU bs)::A) h'->Q p' l c' h'):LZ p l c Q h:=
 xB p l c _ Q h rd (by have:=rd.1;simp at this;omega) fun p' c' h' bs' x o n=>k _ _ _ (hs.own x o n)
theorem AeT{a b c:Sl}{s:St}{Q:Option Addr->Nat->Nat->Option Addr->Nat->Nat->Option Addr->Nat->Nat->HP}(hs:Sat h0 A h)(rd:∀h',Sat h0 A h'->RdS h' a b c s)(sm:s.small)
  (k:∀(a' b' c':Sl) h',Sat h0 (stL a' b' c' s++A) h'->Q a'.1 a'.2.1 a'.2.2 b'.1 b'.2.1 b'.2.2 c'.1 c'.2.1 c'.2.2 h'):
  NL a.1 a.2.1 a.2.2 b.1 b.2.1 b.2.2 c.1 c.2.1 c.2.2 Q h:=by
 unfold NL bA
 try simp only[AI,Nat.zero_add]
 intro n1 _ hn;replace hs:=Sat.new hs hn
 intro n2 _ hn;replace hs:=Sat.new hs hn
 intro J hJ
 have fin:∀q b2 b3 c2 c3 h',Sat h0 (blk q [.slice none 0 0,.slice b2 b.2.1 b3,.slice c2 c.2.1 c3]::sE (b2,b.2.1,b3) 1 (AA .i64 s.erases)::sE (c2,c.2.1,c3) 1 (BU s.blown) ::
   blk n1 [a.v,b.v,c.v]::blk n2 [.slice none 0 0,.slice none 0 0,.slice none 0 0]::A) h'->J [SV.dv (DV.addr ⟨q,0,none⟩)] h':=by
  intro q b2 b3 c2 c3 h' hs
  apply hJ
  (repeat first | refine⟨_,Sat.ld hs (by repeat constructor) (by rfl),?_⟩ | refine⟨_,_,_,Sat.ld hs (by repeat constructor) (by rfl),?_⟩ | (intro _ _ hn;replace hs:=Sat.new hs hn) | refine⟨Sat.cs hs (by repeat constructor) (by rfl),?_⟩ | (refine⟨Sat.can hs (by repeat constructor) (by simp),?_⟩;intro _ e;replace hs:=Sat.wr hs (by repeat constructor) e;clear e;simp only[put,AO,List.set]at hs))
  intro J2 hJ2
  have hlen:=(rd _ hs.drop.drop.drop.drop.drop).pg.len
  replace hs:=hs.mat_nil 32 none
  refine BS a.2.1 (fun i h=>∃hd:Sl,hd.2.1=i/\Sat h0 (CQ 32 hd (s.pages.take i)::blk q [hd.v,.slice b2 b.2.1 b3,.slice c2 c.2.1 c3]::sE (b2,b.2.1,b3) 1 (AA .i64 s.erases)::sE (c2,c.2.1,c3) 1 (BU s.blown) ::
   blk n1 [a.v,b.v,c.v]::blk n2 [.slice none 0 0,.slice none 0 0,.slice none 0 0]::A) h) ?_ ?_ 0 _ (by omega) ⟨_,rfl,hs⟩
  ·rintro i h1 hi ⟨⟨hp,hl,hc⟩,e,hs⟩ hk
   simp only at e;subst e
   apply hJ2
   rw[AD,if_pos (by simp;omega)]
   have hlt:hl<s.pages.length:=by omega
   obtain⟨q',x,e1,e2,e3⟩:=(rd _ hs.drop.drop.drop.drop.drop.drop).pg.at hlt
   rw[e1]
   refine⟨_,rfl,by omega,by omega,?_⟩
   refine⟨_,_,_,e2,?_⟩
   refine⟨_,_,_,Sat.ld hs (by repeat constructor) (by rfl),?_⟩
   refine xD hs e3 (Nat.le_trans (Nat.le_add_right _ _) (sm.rows _ (List.getElem_mem hlt))) ?_
   intro p' c' h2 hs
   refine⟨Sat.cs hs (by repeat constructor) (by rfl),?_⟩
   (intro _ _ hn;replace hs:=Sat.new hs hn)
   refine⟨Sat.cs hs (by repeat constructor) (by rfl),?_⟩
   refine⟨_,Sat.bv hs (.z) (by simp) (by simp),?_⟩
   replace hs:=Sat.front hs zs1
   have hpl:=sm.pages
   refine Sat.app_row hs zs1 (by dsimp only;omega) ?_
   intro p2 c2' h4 hs
   simp only[put,del]at hs
   (refine⟨Sat.can hs (by repeat constructor) (by simp),?_⟩;intro _ e;replace hs:=Sat.wr hs (by repeat constructor) e;clear e;simp only[put,AO,List.set]at hs)
   rw[A0 (by omega)]
   refine hk _ ⟨(p2,hl+1,c2'),rfl,?_⟩
   rw[List.take_succ_eq_append_getElem hlt]
   exact hs.sub (by(repeat (first | exact List.Sublist.refl _ | apply List.Sublist.cons_cons | apply List.Sublist.cons)))
  ·rintro h1 ⟨⟨hp,hl,hc⟩,e,hs⟩
   simp only at e;subst e
   apply hJ2
   rw[AD,if_neg (by simp)]
   (repeat first | refine⟨_,Sat.ld hs (by repeat constructor) (by rfl),?_⟩ | refine⟨_,_,_,Sat.ld hs (by repeat constructor) (by rfl),?_⟩ | (intro _ _ hn;replace hs:=Sat.new hs hn) | refine⟨Sat.cs hs (by repeat constructor) (by rfl),?_⟩ | (refine⟨Sat.can hs (by repeat constructor) (by simp),?_⟩;intro _ e;replace hs:=Sat.wr hs (by repeat constructor) e;clear e;simp only[put,AO,List.set]at hs))
   refine k (hp,_,hc) (b2,_,b3) (c2,_,c3) _ ?_
   rw[←hlen,List.take_length]at hs
   replace hs:=Sat.front hs (e:=blk n2 _) (by repeat constructor)
   replace hs:=Sat.front hs (e:=blk n1 _) (by repeat constructor)
   replace hs:=Sat.front hs (e:=blk q _) (by repeat constructor)
   simp only[del]at hs
   have:=hs.drop.drop.drop
   rw[hlen]at this
   exact this
 repeat' (first | refine⟨_,Sat.ld hs (by repeat constructor) (by rfl),?_⟩ | refine⟨_,_,_,Sat.ld hs (by repeat constructor) (by rfl),?_⟩ | (intro _ _ hn;replace hs:=Sat.new hs hn) | refine⟨Sat.cs hs (by repeat constructor) (by rfl),?_⟩ | (refine⟨Sat.can hs (by repeat constructor) (by simp),?_⟩;intro _ e;replace hs:=Sat.wr hs (by repeat constructor) e;clear e;simp only[put,AO,List.set]at hs) | (refine xF hs (rd _ (hs.sub (by(repeat (first | exact List.Sublist.refl _ | apply List.Sublist.cons_cons | apply List.Sublist.cons))))).er (Nat.le_trans (Nat.le_add_right _ _) sm.erases) ?_;intro _ _ _ hs) | (refine xA hs (rd _ (hs.sub (by(repeat (first | exact List.Sublist.refl _ | apply List.Sublist.cons_cons | apply List.Sublist.cons))))).bl (Nat.le_trans (Nat.le_add_right _ _) sm.blown) ?_;intro _ _ _ hs) | refine And.intro ?_ ?_)
 all_goals
  replace hs:=Sat.front hs (e:=blk n2 _) (by repeat constructor)
  replace hs:=Sat.front hs (e:=blk n1 _) (by repeat constructor)
  replace hs:=Sat.front hs (e:=slE _ _ _ 1 (BU _)) (by repeat constructor)
  replace hs:=Sat.front hs (e:=slE _ _ _ 1 (AA .i64 _)) (by repeat constructor)
  replace hs:=Sat.front hs (e:=blk _ [.slice none 0 0,.slice _ b.2.1 _,.slice _ c.2.1 _]) (by repeat constructor)
  exact fin _ _ _ _ _ _ hs
theorem pN{a b c m:Sl}(ok:C.ok)(hs:Sat h0 (blk p (C.cells a b c m)::CQ 32 a C.s.pages::sE b 1 (AA .i64 C.s.erases)::sE c 1 (BU C.s.blown)::sE m 1 (AA .u8 C.mask)::A) h):Sat h0 (AF p C::A) h:=
 Sat.close ⟨a,b,c,m⟩ ok hs
end
end Go.Proofs.YteedolonhdbieaaGreatDoor
end
section
namespace Go.Proofs.YteedolonhdbieaaGreatDoor
open Go Go.Vc Go.ChangeShapes Go.WideShapes Go.ChangeAt Go.RowKit
set_option maxRecDepth 100000
section
variable {D:Type} {enc:TypeId×Value->D} {W:World}
theorem Aj4(c:Cfg):(DV.agg (c.vals.map .c)).ok:=by
 intro y hy;simp only[Cfg.vals,List.map_cons,List.map_nil,List.mem_cons,List.not_mem_nil,or_false]at hy
 rcases hy with rfl | rfl | rfl | rfl | rfl | rfl | rfl <;> rfl
end
end Go.Proofs.YteedolonhdbieaaGreatDoor
end
section
namespace Go.Vc
abbrev b8(x:Int):BitVec 8:=BitVec.ofInt 8 x
theorem PQ(v:BitVec 8):b8 (v.toNat:Int)=v:=by simp[b8]
theorem k7(v:BitVec 8):IntKind.u8.wrap (v.toNat:Int)=(v.toNat:Int):=by
 have:=v.isLt
 rw[IntKind.wrap_u8];omega
theorem iF(x y:Int):bits .or .u8 x y=((b8 x ||| b8 y).toNat:Int):=k7 (b8 x ||| b8 y)
theorem pD(x y:Int):bits .xor .u8 x y=((b8 x ^^^ b8 y).toNat:Int):=k7 (b8 x ^^^ b8 y)
theorem UA(x y:Int):bits .andNot .u8 x y=((b8 x &&& ~~~ b8 y).toNat:Int):=k7 (b8 x &&& ~~~ b8 y)
theorem qQ(b:Int):bits .or .u8 b 255=255:=by
 rw[iF]
 have:b8 255=BitVec.allOnes 8:=by decide
 rw[this,BitVec.or_allOnes]
 decide
@[irreducible] def U5(r:Nat)(es:List (Value×DV))(h:H)(f:Nat->Prop):Prop:=MI h r es/\∀x,f x↔x=r
theorem rK{h:H}{r:Nat}{es:List (Value×DV)}(m:MI h r es):r<h.size:=by
 obtain⟨a,cl,e,_⟩:=m
 exact (Array.getElem?_eq_some_iff.1 e).1
def EQ(r:Nat)(es:List (Value×DV)):Ent where
 tag:=.of r
 P:=U5 r es
 st:=by unfold U5;rintro h h' f ⟨⟨a,cl,k,ke⟩,e⟩ hs;exact⟨⟨a,cl,by rw[hs r ((e r).2 rfl)];exact k,ke⟩,e⟩
 lt:=by unfold U5;rintro h f x ⟨k,e⟩ hx;rw[(e x).1 hx];exact rK k
theorem mapE_P{r:Nat}{es:List (Value×DV)}{h:H}{f:Nat->Prop}:(EQ r es).P h f↔MI h r es/\∀x,f x↔x=r:=by
 show U5 r es h f↔_;unfold U5;rfl
theorem Sat.mapNew{h0 h h':H}{A:List Ent}(s:Sat h0 A h){b:Nat}(n:i6 h b h'):Sat h0 (EQ b []::A) h':=by
 obtain⟨rfl,rfl⟩:=n
 refine s.add ⟨by simp,fun x hx _=>by rw[Array.getElem?_push,if_neg (by omega)]⟩ (f:=fun x=>x=h.size) (mapE_P.2 ⟨⟨#[],0,by simp,rfl,fun e he=>by cases he⟩,fun _=>Iff.rfl⟩) fun x hx=>by rw[hx];exact Nat.le_refl _
theorem Sat.mapAt{h0 h:H}{A:List Ent}(s:Sat h0 A h){i r:Nat}{es:List (Value×DV)}(a:At A i (EQ r es)):MI h r es:=by
 obtain⟨f,hp,_⟩:=s.take a
 exact (mapE_P.1 hp).1
theorem Sat.mapSet{h0 h h':H}{A:List Ent}(s:Sat h0 A h){i r:Nat}{es es':List (Value×DV)}(a:At A i (EQ r es))(e:i7 h r es' h'):Sat h0 (Vc.put A i (EQ r es')) h':=by
 refine s.upd a fun f hp=>?_
 obtain⟨k,hf⟩:=mapE_P.1 hp
 have hlt:=rK k
 obtain⟨m,cl,rfl,hent⟩:=e
 refine⟨f,mapE_P.2 ⟨⟨m,cl,by rw[Array.getElem?_setIfInBounds_self_of_lt hlt],hent⟩,hf⟩,fun _=>Or.inl,⟨by simp,fun x _ hx=>?_⟩⟩
 rw[Array.getElem?_setIfInBounds_ne]
 intro y;exact hx ((hf x).2 y.symm)
end Go.Vc
end
section
namespace Go.Proofs.YteedolonhdbieaaGreatDoor
open Go Go.Vc
set_option maxRecDepth 100000
theorem TF(n:Int):IntKind.u64.wrap n=n % 18446744073709551616:=by simp[IntKind.wrap,IntKind.signed,IntKind.bits]
theorem XF{h:H}{p:Option Addr}{l:Nat}{k:IntKind}{ns:List Int}{x:Nat}(rd:hsv h p 1 l (AA k ns))(hx:x<l):∃q,p=some q/\hc h (q.add x)=some (.int k (ns.getD x 0)):=by
 have hl:ns.length=l:=by have:=rd.1;simpa using this
 obtain⟨q,hq,g⟩:=MJ rd (i:=x) (v:=.int k (ns.getD x 0)) (by rw[BR,List.getElem?_eq_getElem (by omega)];simp[List.getD,List.getElem?_eq_getElem (show x<ns.length by omega)])
 exact⟨q,hq,g⟩
/-! ### The model -/
def kM:List Int:=[1116352408,1899447441,3049323471,3921009573,961987163,1508970993,2453635748,2870763221,3624381080,310598401,607225278,1426881987,1925078388,2162078206,2614888103,3248222580,3835390401,4022224774,264347078,604807628,770255983,1249150122,1555081692,1996064986,2554220882,2821834349,2952996808,3210313671,3336571891,3584528711,113926993,338241895,666307205,773529912,1294757372,1396182291,1695183700,1986661051,2177026350,2456956037,2730485921,2820302411,3259730800,3345764771,3516065817,3600352804,4094571909,275423344,430227734,506948616,659060556,883997877,958139571,1322822218,1537002063,1747873779,1955562222,2024104815,2227730452,2361852424,2428436474,2756734187,3204031479,3329325298]
def sM:List Int:=[1779033703,3144134277,1013904242,2773480762,1359893119,2600822924,528734635,1541459225]
def FJ(x:Int)(n:Nat):Int:=bits .or .u32 (IntKind.u32.wrap (x*2^(32-n))) (x.fdiv (2^n))
def x3(a b c:Int):Int:=bits .xor .u32 (bits .xor .u32 a b) c
def AlH(x:Int):Int:=x3 (FJ x 7) (FJ x 18) (x.fdiv (2^3))
def AlI(x:Int):Int:=x3 (FJ x 17) (FJ x 19) (x.fdiv (2^10))
def FQ(bs:List Int):Nat->Int
 | 0=>0
 | j+1=>bits .or .u32 (IntKind.u32.wrap (FQ bs j*2^8)) (IntKind.u32.wrap (bs.getD j 0))
def AiY(w:List Int)(t:Nat):Int:=
 IntKind.u32.wrap (IntKind.u32.wrap (IntKind.u32.wrap (w.getD (t-16) 0+AlH (w.getD (t-15) 0))+w.getD (t-7) 0)+AlI (w.getD (t-2) 0))
def wM(bs:List Int):Nat->List Int
 | 0=>AB 64
 | t+1=>(wM bs t).set t (if t<16 then FQ ((bs.drop (4*t)).take 4) 4 else AiY (wM bs t) t)
def AiX(x:Int):Int:=bits .xor .u32 (if IntKind.u32.signed=true then -1 else IntKind.u32.max) x
def uM(a b c d e f g h k w:Int):Int:=
 IntKind.u32.wrap (IntKind.u32.wrap (IntKind.u32.wrap (IntKind.u32.wrap (h+x3 (FJ e 6) (FJ e 11) (FJ e 25))+bits .xor .u32 (bits .and .u32 e f) (bits .and .u32 (AiX e) g))+k)+w)
def vM(a b c:Int):Int:=IntKind.u32.wrap (x3 (FJ a 2) (FJ a 13) (FJ a 22)+x3 (bits .and .u32 a b) (bits .and .u32 a c) (bits .and .u32 b c))
def Y2(s:List Int)(k w:Int):List Int:=
 match s with
 | [a,b,c,d,e,f,g,h]=>[IntKind.u32.wrap (uM a b c d e f g h k w+vM a b c),a,b,c,IntKind.u32.wrap (d+uM a b c d e f g h k w),e,f,g]
 | s=>s
def rM(w s:List Int):Nat->List Int
 | 0=>s
 | t+1=>Y2 (rM w s t) (kM.getD t 0) (w.getD t 0)
def aM(s r:List Int):Nat->List Int
 | 0=>s
 | i+1=>(aM s r i).set i (IntKind.u32.wrap ((aM s r i).getD i 0+r.getD i 0))
def HX(s bs:List Int):List Int:=aM s (rM (wM bs 64) s 64) 8
theorem I3(bs:List Int)(t:Nat):(wM bs t).length=64:=by
 induction t with
 | zero=>simp[wM,AB]
 | succ t ih=>simp[wM,ih]
theorem jM{s:List Int}(h:s.length=8):∃a b c d e f g i,s=[a,b,c,d,e,f,g,i]:=by
 match s,h with
 | [a,b,c,d,e,f,g,i],_=>exact⟨a,b,c,d,e,f,g,i,rfl⟩
theorem YC(w s:List Int)(h:s.length=8)(t:Nat):(rM w s t).length=8:=by
 induction t with
 | zero=>exact h
 | succ t ih=>
  obtain⟨a,b,c,d,e,f,g,i,hx⟩:=jM ih
  show (Y2 (rM w s t) _ _).length=8
  rw[hx];rfl
theorem WD(s r:List Int)(h:s.length=8)(i:Nat):(aM s r i).length=8:=by
 induction i with
 | zero=>exact h
 | succ i ih=>simp[aM,ih]
theorem t7{s bs:List Int}(h:s.length=8):(HX s bs).length=8:=WD _ _ h _
theorem HT:kM.length=64:=by decide
theorem E9{k:IntKind}{l:List Int}{i:Nat}(h:i<l.length):(AA k l)[i]?=some (.int k (l.getD i 0)):=by
 rw[BR,List.getElem?_eq_getElem h];simp[List.getD,List.getElem?_eq_getElem h]
theorem HR(k:IntKind)(l:List Int)(i:Nat)(v:Int):AO (AA k l) i [.int k v]=AA k (l.set i v):=by
 show (AA k l).set i (.int k v)=_
 rw[G1]
/-! ### The digest in memory -/
abbrev dgL(s sm:List Int)(n:Int):List Value:=AA .u32 s++(AA .u8 sm++.int .u64 n::(AA .u32 kM++[]))
section
variable {s sm:List Int} {n:Int}
theorem MC(h1:s.length=8)(h2:sm.length=64):(dgL s sm n).length=137:=by simp[h1,h2,HT]
theorem PV(h1:s.length=8){i:Nat}(hi:i<8):(dgL s sm n)[i]?=some (.int .u32 (s.getD i 0)):=by
 rw[List.getElem?_append_left (by simp[h1,hi]),E9 (by omega)]
theorem WV(h1:s.length=8)(h2:sm.length=64){i:Nat}(hi:i<64):(dgL s sm n)[8+i]?=some (.int .u8 (sm.getD i 0)):=by
 rw[List.getElem?_append_right (by simp[h1]),List.getElem?_append_left (by simp[h1,h2,hi])]
 rw[show 8+i-(AA .u32 s).length=i by simp[h1],E9 (by omega)]
theorem MD(h1:s.length=8)(h2:sm.length=64):(dgL s sm n)[72]?=some (.int .u64 n):=by
 rw[List.getElem?_append_right (by simp[h1]),List.getElem?_append_right (by simp[h1,h2])]
 simp[h1,h2]
theorem WU(h1:s.length=8)(h2:sm.length=64){i:Nat}(hi:i<64):(dgL s sm n)[73+i]?=some (.int .u32 (kM.getD i 0)):=by
 rw[List.getElem?_append_right (by simp[h1];omega),List.getElem?_append_right (by simp[h1,h2];omega)]
 rw[show 73+i-(AA .u32 s).length-(AA .u8 sm).length=i+1 by simp[h1,h2];omega,List.getElem?_cons_succ,List.append_nil,E9 (by rw[HT];omega)]
theorem Af8(h1:s.length=8){i:Nat}(hi:i<8)(v:Int):AO (dgL s sm n) i [.int .u32 v]=dgL (s.set i v) sm n:=by
 show (dgL s sm n).set i _=_
 rw[List.set_append_left _ _ (by simp[h1,hi]),G1]
theorem Af7(h1:s.length=8)(h2:sm.length=64)(v:Int):AO (dgL s sm n) 72 [.int .u64 v]=dgL s sm v:=by
 show (dgL s sm n).set 72 _=_
 rw[List.set_append_right _ _ (by simp[h1]),List.set_append_right _ _ (by simp[h1,h2])]
 simp[h1,h2]
end
section
variable {h0 h:H} {A:List Ent} {i d:Nat}
theorem AkM{Q:Int->HP}(x:Int)(k:Int)(m:Nat)(hm:bits .and .u64 (IntKind.u64.wrap k) 31=((32-m:Nat):Int))(h1:1≤m)(h2:m<32)(q:Q (FJ x m) h):OG x k Q h:=by
 unfold OG dH
 rw[hm]
 have e:IntKind.u64.wrap (32-((32-m:Nat):Int))=(m:Int):=by rw[TF];omega
 rw[e]
 refine⟨by omega,by omega,?_⟩
 rw[Int.toNat_natCast,Int.toNat_natCast,Nat.min_eq_left (by omega),Nat.min_eq_left (by omega)]
 exact q
theorem AlG{Q:Int->HP}(x:Int)(m:Nat)(hm:bits .and .u64 (IntKind.u64.wrap (IntKind.i64.wrap (0-(m:Int)))) 31=((32-m:Nat):Int))(h1:1≤m)(h2:m<32)(q:Q (FJ x m) h):LX x (m:Int) Q h:=by
 unfold LX fM
 exact AkM x _ m hm h1 h2 q
end
end Go.Proofs.YteedolonhdbieaaGreatDoor
end
