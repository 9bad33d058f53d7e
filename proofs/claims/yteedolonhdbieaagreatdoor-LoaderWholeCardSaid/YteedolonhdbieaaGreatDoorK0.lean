/- LoaderWhole and its parts, laid together by a program of ours: Vc Vcs Vcp -/
import Derived.ChangeKeysEq
import Derived.KernelRfl
import Derived.Laws.Bits
import Derived.Laws.Cells
import Derived.Laws.Entries
import Derived.Laws.StructEq
import Derived.Laws.Tables
import Derived.OrdersHeld
import Derived.Scope
import Derived.Tactics
set_option autoImplicit false
set_option linter.all false
section
namespace Go.Vc
/-! ### Heaps -/
abbrev H:=Array Obj
def hc(h:H)(a:Addr):Option Value:=
 match h[a.block]? with
 | some (.cells c _ _)=>if a.spot.isSome then none else c[a.off]?
 | _=>none
def hf(h:H)(a:Addr):Bool:=
 match h[a.block]? with
 | some (.cells _ _ (lo,hi))=>lo≤a.off&&a.off<hi
 | _=>false
def hs(h:H)(a:Addr)(v:Value):H:=
 h.modify a.block fun
  | .cells c elem frozen=>.cells (if a.spot.isSome then c else c.setIfInBounds a.off v) elem frozen
  | o=>o
theorem AeJ(w:World)(a:Addr):w.cell? a=hc w.heap a:=rfl
theorem Ah1(w:World)(a:Addr)(v:Value):(w.setCell a v).heap=hs w.heap a v:=rfl
def hcs(h:H)(a:Addr)(vs:List Value):Prop:=∀i v,vs[i]?=some v->hc h (a.add i)=some v
def AC(h:H)(a:Addr)(n:Nat):Prop:=∀i,i<n->(hc h (a.add i)).isSome=true/\hf h (a.add i)=false
def IS(h:H)(a:Addr):Nat->List Value->H
 | _,[]=>h
 | i,v::r=>IS (hs h (a.add i) v) a (i+1) r
def hwr(h:H)(a:Addr)(vs:List Value):H:=IS h a 0 vs
def hnew(h:H)(b:Nat)(c:List Value)(h':H):Prop:=
 b=h.size/\∃t lo n,(∀i,i<c.length->¬(lo≤i/\i<lo+n))/\h'=h.push (.cells c.toArray t (lo,lo+n))
def hsv(h:H)(p:Option Addr)(sz l:Nat)(vs:List Value):Prop:=
 vs.length=l*sz/\(∀v,v∈vs->v.oneCell'=true)/\(vs=[]∨∃q,p=some q/\hcs h q vs)
def E8(h:H)(p:Option Addr)(vs:List Value):H:=match p with | some q=>hwr h q vs | none=>h
def bytesOf(ns:List Int):ByteArray:=⟨(ns.map fun n=>UInt8.ofNat n.toNat).toArray⟩
def AA(k:IntKind)(ns:List Int):List Value:=ns.map (Value.int k)
def AB(n:Nat):List Int:=List.replicate n 0
def hrow(h:H)(a:Addr)(k:IntKind)(ns:List Int):Prop:=hcs h a (AA k ns)
/-! ### Values -/
inductive Ch where
 | c (v:Value)
 | row (k:IntKind) (n:Nat) (ns:List Int)
inductive DV where
 | one (v:Value)
 | addr (p:Addr)
 | fnv (v:Value)
 | agg (cs:List Ch)
inductive SV where
 | un
 | nd
 | dv (x:DV)
 | tup (xs:List DV)
def Ch.flat:Ch->List Value
 | .c v=>[v]
 | .row k _ ns=>AA k ns
def Ch.size:Ch->Nat
 | .c _=>1
 | .row _ n _=>n
def AM:List Ch->List Value
 | []=>[]
 | c::r=>c.flat++AM r
def B7:List Ch->Nat
 | []=>0
 | c::r=>c.size+B7 r
def Ch.ok:Ch->Prop
 | .c v=>v.oneCell'=true
 | .row _ n ns=>ns.length=n
def oks(cs:List Ch):Prop:=∀c,c∈cs->c.ok
def DV.flat:DV->Value
 | .one v=>v
 | .addr p=>.pointer (some p)
 | .fnv v=>v
 | .agg cs=>.agg (AM cs).toArray
def DV.ok:DV->Prop
 | .one v=>v.oneCell'=true
 | .addr _=>True
 | .fnv v=>v.oneCell'=true
 | .agg cs=>oks cs
def DV.chs:DV->List Ch
 | .agg cs=>cs
 | .one v=>[.c v]
 | .addr p=>[.c (.pointer (some p))]
 | .fnv v=>[.c v]
def SV.rel:SV->Value->Prop
 | .un,_=>True
 | .nd,v=>v=undef
 | .dv x,v=>x.ok/\v=x.flat
 | .tup xs,v=>(∀x,x∈xs->x.ok)/\v=.tuple (xs.map DV.flat).toArray
abbrev Fr:=List (Nat×SV)
def get:Fr->Nat->SV
 | [],_=>.un
 | (j,v)::r,i=>match Nat.beq i j with | true=>v | false=>get r i
def putO(d:Option Nat)(v:SV)(fr:Fr):Fr:=match d with | some d=>(d,v)::fr | none=>fr
def GY(ds:List Nat)(fr:Fr):Fr:=match ds with | []=>fr | d::r=>(d,.un)::GY r fr
def FR(fr:Fr)(tmps:Array Value):Prop:=∀i,(get fr i).rel (tmps.getD i undef)
/-! ### Shapes of types -/
inductive Sh where
 | int (k:IntKind) | bool | str | ptr | slc | mp | fn | ifc
 | row (k:IntKind) (n:Nat)
def Sh.size:Sh->Nat
 | .row _ n=>n
 | _=>1
def TA:List Sh->Nat
 | []=>0
 | s::r=>s.size+TA r
def VM:TypeDesc->Option Sh
 | .bool=>some .bool | .int k=>some (.int k) | .string=>some .str | .pointer _=>some .ptr | .slice _=>some .slc
 | .map _ _=>some .mp | .func ..=>some .fn | .interface _=>some .ifc
 | _=>none
def Y1(P:Program):Nat->TypeId->List Sh
 | 0,_=>[]
 | f+1,t=>
  match P.underlying t with
  | some (.struct fs)=>fs.toList.flatMap fun x=>Y1 P f x.type
  | some (.array n e)=>match P.underlying e with
   | some (.int k)=>[.row k n]
   | _=>(List.replicate n (Y1 P f e)).flatten
  | some d=>match VM d with | some s=>[s] | none=>[]
  | none=>[]
inductive TSh where
 | sc (s:Sh)
 | ag (l:List Sh)
def tsh(P:Program)(t:TypeId):Option TSh:=
 match P.underlying t with
 | some (.struct _) | some (.array _ _)=>match P.info? t with
  | some i=>match Nat.beq i.size (TA (Y1 P 8 t)) with | true=>some (.ag (Y1 P 8 t)) | false=>none
  | none=>none
 | some d=>(VM d).map .sc
 | none=>none
def C5(P:Program)(t:TypeId):Option Nat:=(P.info? t).map (·.size)
def ld1(h:H)(a:Addr):Sh->(DV->Prop)->Prop
 | .int k,K=>∃n:Int,hc h a=some (.int k n)/\K (.one (.int k n))
 | .bool,K=>∃b:Bool,hc h a=some (.bool b)/\K (.one (.bool b))
 | .str,K=>∃s:ByteArray,hc h a=some (.string s)/\K (.one (.string s))
 | .ptr,K=>∃p:Option Addr,hc h a=some (.pointer p)/\K (.one (.pointer p))
 | .slc,K=>∃(p:Option Addr) (l c:Nat),hc h a=some (.slice p l c)/\K (.one (.slice p l c))
 | .mp,K=>∃r:Option Nat,hc h a=some (.map r)/\K (.one (.map r))
 | .fn,K=>∃v:Value,hc h a=some v/\v.oneCell'=true/\K (.fnv v)
 | .ifc,K=>∃v:Value,hc h a=some v/\v.oneCell'=true/\K (.fnv v)
 | .row _ _,_=>False
def U3(h:H)(a:Addr):Nat->List Sh->(List Ch->Prop)->Prop
 | _,[],K=>K []
 | o,.row k n::r,K=>∃ns:List Int,ns.length=n/\hrow h (a.add o) k ns/\U3 h a (o+n) r fun cs=>K (.row k n ns::cs)
 | o,s::r,K=>ld1 h (a.add o) s fun x=>U3 h a (o+1) r fun cs=>K (x.chs++cs)
def ldT(P:Program)(t:TypeId)(h:H)(a:Addr)(K:DV->Prop):Prop:=
 match tsh P t with
 | some (.sc s)=>ld1 h a s K
 | some (.ag l)=>U3 h a 0 l fun cs=>K (.agg cs)
 | none=>False
/-! ### Zero values -/
def veq:Value->Value->Bool
 | .int j a,.int k b=>match j == k with | true=>a == b | false=>false
 | .bool a,.bool b=>a == b
 | .string a,.string b=>match a.data.toList,b.data.toList with | [],[]=>true | _,_=>false
 | .pointer none,.pointer none=>true
 | .slice none 0 0,.slice none 0 0=>true
 | .map none,.map none=>true
 | .nilFunc,.nilFunc=>true
 | .nilIface,.nilIface=>true
 | _,_=>false
def LR:List Value->List Value->Bool
 | [],[]=>true
 | a::x,b::y=>match veq a b with | true=>LR x y | false=>false
 | _,_=>false
def Sh.zero:Sh->Ch
 | .int k=>.c (.int k 0) | .bool=>.c (.bool false) | .str=>.c (.string ⟨#[]⟩) | .ptr=>.c (.pointer none) | .slc=>.c (.slice none 0 0)
 | .mp=>.c (.map none) | .fn=>.c .nilFunc | .ifc=>.c .nilIface | .row k n=>.row k n (AB n)
def II(P:Program)(t:TypeId):Option (List Ch):=
 match (P.info? t).bind (·.zero),tsh P t with
 | some z,some (.ag l)=>match LR (AM (l.map Sh.zero)) z.cells.toList with | true=>some (l.map Sh.zero) | false=>none
 | some z,some (.sc s)=>match LR s.zero.flat z.cells.toList with | true=>some [s.zero] | false=>none
 | _,_=>none
/-! ### Parts of aggregates -/
def J4:List Ch->Nat->Option (List Ch)
 | [],n=>bif Nat.beq n 0 then some [] else none
 | c::r,n=>bif Nat.beq n 0 then some (c::r) else bif Nat.ble c.size n then J4 r (n-c.size) else none
def LQ:List Ch->Nat->Option (List Ch)
 | [],n=>bif Nat.beq n 0 then some [] else none
 | c::r,n=>bif Nat.beq n 0 then some [] else bif Nat.ble c.size n then (LQ r (n-c.size)).map (c::·) else none
def X7(cs:List Ch)(off size:Nat):Option (List Ch):=(J4 cs off).bind (LQ · size)
def YB(cs:List Ch)(off:Nat)(xs:List Ch):Option (List Ch):=
 (LQ cs off).bind fun a=>(J4 cs (off+B7 xs)).map fun b=>a++xs++b
def j9(cs:List Ch)(i:Nat)(x:List Ch):Option (List Ch):=
 match cs,x with
 | [.row k n ns],[.c (.int k' v)]=>match k == k',Nat.blt i n with | true,true=>some [.row k n (ns.set i v)] | _,_=>none
 | _,_=>none
/-! ### Operands,guards -/
def iO:Value->SV
 | .agg _=>.un
 | .tuple _=>.un
 | v=>.dv (.one v)
def ev(fr:Fr):Operand->SV
 | .tmp t=>get fr t
 | .const v=>iO v
 | .global g=>.dv (.addr ⟨g,0,none⟩)
 | .func f=>.dv (.one (.func (.func f) #[] #[]))
/-! ### Operations that touch no memory -/
def UL(P:Program)(t:TypeId)(x y:Ch):Option Bool:=
 match x,y with
 | .c (.int k a),.c (.int k' b)=>match k == k',P.underlying t with | true,some (.int _)=>some (a == b) | _,_=>none
 | .c (.bool a),.c (.bool b)=>match P.underlying t with | some .bool=>some (a == b) | _=>none
 | .c (.string a),.c (.string b)=>match P.underlying t with | some .string=>some (a.toList == b.toList) | _=>none
 | .row k n a,.row k' n' b=>match P.underlying t,C5 P t with
  | some (.array m e),some sz=>match P.underlying e,C5 P e,k == k',Nat.beq n m&&Nat.beq n' m&&Nat.beq sz m with
   | some (.int _),some 1,true,true=>some (a == b)
   | _,_,_,_=>none
  | _,_=>none
 | _,_=>none
def LO(P:Program):Nat->List Field->List Ch->List Ch->Option Bool
 | _,[],[],[]=>some true
 | off, f :: fs, x :: xs, y :: ys => match f.name == "_", Nat.beq f.offset off, UL P f.type x y with
  | false,true,some b=>(LO P (off+x.size) fs xs ys).map (b && ·)
  | _,_,_=>none
 | _,_,_,_=>none
def WF(P:Program)(t:TypeId)(xs ys:List Ch):Option Bool:=
 match P.eqGuardType P.depth t,P.underlying t with
 | false,some (.array _ _)=>match xs,ys with
  | [x],[y]=>UL P t x y
  | _,_=>none
 | false,some (.struct fs)=>match P.stoodInHeld t with
  | false=>LO P 0 fs.toList xs ys
  | true=>none
 | _,_=>none
def HS:Value->Bool
 | .nilIface=>true
 | .iface _ _=>true
 | _=>false
def P3:Value->Bool
 | .nilIface=>true
 | _=>false
def vF(a b:Int)(x:Bool):Bool:=match a with
 | .ofNat _=>(match b with | .ofNat _=>x | .negSucc _=>x)
 | .negSucc _=>(match b with | .ofNat _=>x | .negSucc _=>x)
def ltI(a b:Int):Bool:=vF a b (decide (a<b))
def leI(a b:Int):Bool:=vF a b (decide (a≤b))
@[simp] theorem AD(a b:Int):ltI a b=decide (a<b):=by cases a <;> cases b <;> rfl
@[simp] theorem BQ(a b:Int):leI a b=decide (a≤b):=by cases a <;> cases b <;> rfl
def MN:Operand->Bool
 | .const _=>true
 | _=>false
def ZF(P:Program)(op:BinOp)(t:TypeId)(x y:DV)(yc:Bool)(K:SV->Prop):Prop:=
 match x,y with
 | .one (.int k a),.one (.int k' b)=>
  match op with
  | .shl=>0≤b/\K (.dv (.one (.int k (k.wrap (a*2^(min b.toNat k.bits))))))
  | .shr=>0≤b/\K (.dv (.one (.int k (a.fdiv (2^(min b.toNat k.bits))))))
  | _=>match k == k' with
   | false=>False
   | true=>match op with
    | .add=>K (.dv (.one (.int k (k.wrap (a+b)))))
    | .sub=>K (.dv (.one (.int k (k.wrap (a-b)))))
    | .mul=>K (.dv (.one (.int k (k.wrap (a*b)))))
    | .quo=>b≠0/\K (.dv (.one (.int k (k.wrap (a.tdiv b)))))
    | .rem=>b≠0/\K (.dv (.one (.int k (a.tmod b))))
    | .and=>K (.dv (.one (.int k (bits .and k a b))))
    | .or=>K (.dv (.one (.int k (bits .or k a b))))
    | .xor=>K (.dv (.one (.int k (bits .xor k a b))))
    | .andNot=>K (.dv (.one (.int k (bits .andNot k a b))))
    | .eql=>K (.dv (.one (.bool (a == b))))
    | .neq=>K (.dv (.one (.bool (a != b))))
    | .lss=>K (.dv (.one (.bool (ltI a b))))
    | .leq=>K (.dv (.one (.bool (leI a b))))
    | .gtr=>K (.dv (.one (.bool (ltI b a))))
    | .geq=>K (.dv (.one (.bool (leI b a))))
    | _=>False
 | .one (.bool a),.one (.bool b)=>match P.underlying t,op with
  | some .bool,.eql=>K (.dv (.one (.bool (a == b))))
  | some .bool,.neq=>K (.dv (.one (.bool (!(a == b)))))
  | _,_=>False
 | .one (.string a),.one (.string b)=>match op with
  | .eql=>K (.dv (.one (.bool (a.toList == b.toList))))
  | .neq=>K (.dv (.one (.bool (!(a.toList == b.toList)))))
  | .add=>((a.size+b.size:Nat):Int)≤IntKind.i64.max/\K (.dv (.one (.string (a++b))))
  | _=>False
 | .one (.pointer a),.one (.pointer none)=>match P.underlying t,op with
  | some (.pointer _),.eql=>K (.dv (.one (.bool a.isNone)))
  | some (.pointer _),.neq=>K (.dv (.one (.bool (!a.isNone))))
  | _,_=>False
 | .addr _,.one (.pointer none)=>match P.underlying t,op with
  | some (.pointer _),.eql=>K (.dv (.one (.bool false)))
  | some (.pointer _),.neq=>K (.dv (.one (.bool true)))
  | _,_=>False
 | .one (.slice a _ _),.one (.slice none 0 0)=>match P.underlying t,op with
  | some (.slice _),.eql=>K (.dv (.one (.bool a.isNone)))
  | some (.slice _),.neq=>K (.dv (.one (.bool (!a.isNone))))
  | _,_=>False
 | .fnv v,.one .nilIface=>match yc,P.underlying t,op with
  | true,some (.interface _),.eql=>HS v=true/\K (.dv (.one (.bool (P3 v))))
  | true,some (.interface _),.neq=>HS v=true/\K (.dv (.one (.bool (!P3 v))))
  | _,_,_=>False
 | .agg xs,.agg ys=>match op with
  | .eql=>match WF P t xs ys with | some b=>K (.dv (.one (.bool b))) | none=>False
  | .neq=>match WF P t xs ys with | some b=>K (.dv (.one (.bool (!b)))) | none=>False
  | _=>False
 | _,_=>False
def Dun(op:UnOp)(x:DV)(K:SV->Prop):Prop:=
 match op,x with
 | .not,.one (.bool b)=>K (.dv (.one (.bool (!b))))
 | .neg,.one (.int k n)=>K (.dv (.one (.int k (k.wrap (0-n)))))
 | .xor,.one (.int k n)=>K (.dv (.one (.int k (bits .xor k (if k.signed then -1 else k.max) n))))
 | _,_=>False
def asI:SV->Option Int
 | .dv (.one (.int _ i))=>some i
 | _=>none
def opI(fr:Fr):Option Operand->Option (Option Int)
 | none=>some none
 | some x=>(asI (ev fr x)).map some
def TI(lo hi mx:Option Int)(len cap:Nat)(K:Nat->Nat->Nat->Prop):Prop:=
 match lo,hi,mx with
 | none,none,none=>K 0 len cap
 | some l,none,none=>0≤l/\l≤(len:Int)/\K l.toNat len cap
 | none,some h,none=>0≤h/\h≤(cap:Int)/\K 0 h.toNat cap
 | some l,some h,none=>0≤l/\l≤h/\h≤(cap:Int)/\K l.toNat h.toNat cap
 | some l,some h,some m=>0≤l/\l≤h/\h≤m/\m≤(cap:Int)/\K l.toNat h.toNat m.toNat
 | none,some h,some m=>0≤h/\h≤m/\m≤(cap:Int)/\K 0 h.toNat m.toNat
 | _,_,_=>False
def AK(p:Option Addr)(l m size:Nat):Option Addr:=if m=l then p else p.map (·.add (l*size))
def ZQ(P:Program)(t:TypeId)(x:SV)(lo hi mx:Option Int)(K:SV->Prop):Prop:=
 match P.underlying t,x with
 | some (.slice e),.dv (.one (.slice p l c))=>match C5 P e with
  | some sz=>TI lo hi mx l c fun a b m=>K (.dv (.one (.slice (AK p a m sz) (b-a) (m-a))))
  | none=>False
 | some (.array n e),.dv (.addr p)=>match C5 P e with
  | some sz=>TI lo hi mx n n fun a b m=>K (.dv (.one (.slice (AK (some p) a m sz) (b-a) (m-a))))
  | none=>False
 | some .string,.dv (.one (.string s))=>match mx with
  | none=>TI lo hi none s.size s.size fun a b _=>K (.dv (.one (.string (s.extract a b))))
  | some _=>False
 | _,_=>False
def ZN(P:Program)(t:TypeId)(x:SV)(i:Option Int)(K:SV->Prop):Prop:=
 match P.underlying t,x,i with
 | some (.slice e),.dv (.one (.slice p l _)),some i=>match C5 P e with
  | some sz=>∃q,p=some q/\0≤i/\i<(l:Int)/\K (.dv (.addr (q.add (i.toNat*sz))))
  | none=>False
 | some (.array n e),.dv (.addr q),some i=>match C5 P e with
  | some sz=>0≤i/\i<(n:Int)/\K (.dv (.addr (q.add (i.toNat*sz))))
  | none=>False
 | _,_,_=>False
def ZE(P:Program)(t:TypeId)(x:SV)(K:SV->Prop):Prop:=
 match P.underlying t,x with
 | some (.array n _),.dv (.one (.slice p l _))=>∃q,p=some q/\n≤l/\K (.dv (.addr q))
 | _,_=>False
def ZM(P:Program)(t:TypeId)(x:SV)(i:Option Int)(K:SV->Prop):Prop:=
 match P.underlying t,x,i with
 | some (.array n e),.dv (.agg [.row k m ns]),some i=>match P.underlying e,C5 P e,Nat.beq n m with
  | some (.int _),some 1,true=>0≤i/\i<(n:Int)/\K (.dv (.one (.int k (ns.getD i.toNat 0))))
  | _,_,_=>False
 | some .string,.dv (.one (.string s)),some i=>0≤i/\i<(s.size:Int)/\K (.dv (.one (.int .u8 ((s.data.toList.getD i.toNat 0).toNat:Int))))
 | _,_,_=>False
def jW(P:Program)(t:TypeId)(cs:List Ch):Option DV:=
 match tsh P t,cs with
 | some (.ag _),cs=>some (.agg cs)
 | some (.sc .fn),[.c v]=>some (.fnv v)
 | some (.sc .ifc),[.c v]=>some (.fnv v)
 | some (.sc (.row _ _)),_=>none
 | some (.sc _),[.c v]=>some (.one v)
 | _,_=>none
def ZK(P:Program)(t:TypeId)(x:SV)(f:Nat)(K:SV->Prop):Prop:=
 match P.underlying t,x with
 | some (.struct fs),.dv (.agg cs)=>match fs[f]? with
  | some fd=>match C5 P fd.type with
   | some n=>match (X7 cs fd.offset n).bind (jW P fd.type) with
    | some d=>K (.dv d)
    | none=>False
   | none=>False
  | none=>False
 | _,_=>False
def ZL(P:Program)(t:TypeId)(x:SV)(f:Nat)(K:SV->Prop):Prop:=
 match P.underlying t,x with
 | some (.struct fs),.dv (.addr p)=>match fs[f]? with
  | some fd=>match C5 P fd.type with
   | some (_+1)=>K (.dv (.addr (p.add fd.offset)))
   | _=>False
  | none=>False
 | _,_=>False
def GZ(place:Nat->Option (Nat×Nat))(isRow:Bool):List (Nat×SV)->List Ch->Option (List Ch)
 | [],cs=>some cs
 | (i,.dv x)::r,cs=>match place i with
  | some (off,sz)=>match Nat.beq (B7 x.chs) sz,isRow with
   | true,true=>(match Nat.beq sz 1 with | true=>(j9 cs off x.chs).bind (GZ place isRow r) | false=>none)
   | true,false=>(YB cs off x.chs).bind (GZ place isRow r)
   | false,_=>none
  | none=>none
 | _,_=>none
def AhL(P:Program)(t:TypeId):Bool:=
 match P.underlying t with
 | some (.array _ e)=>match P.underlying e,C5 P e with | some (.int _),some 1=>true | _,_=>false
 | _=>false
def VZ(P:Program)(t:TypeId)(parts:List (Nat×SV))(K:SV->Prop):Prop:=
 match P.underlying t,II P t with
 | some (.struct fs),some z=>match fs.toList.mapM (fun f=>(P.info? f.type).map fun i=>(f.offset,i.size)) with
  | some pl=>match GZ (fun i=>pl[i]?) false parts z with | some cs=>K (.dv (.agg cs)) | none=>False
  | none=>False
 | some (.array _ e),some z=>match P.info? e with
  | some ie=>match GZ (fun i=>some (i*ie.size,ie.size)) (AhL P t) parts z with | some cs=>K (.dv (.agg cs)) | none=>False
  | none=>False
 | _,_=>False
def dvs:List SV->Option (List DV)
 | []=>some []
 | .dv x::r=>(dvs r).map (x::·)
 | _=>none
def Dbi(P:Program)(b:Builtin)(argTypes:List TypeId)(args:List SV)(K:SV->Prop):Prop:=
 match b,argTypes,args with
 | .len,[t],[.dv (.one (.slice _ l _))]=>match P.underlying t with | some (.slice _)=>K (.dv (.one (.int .i64 l))) | _=>False
 | .len,[t],[.dv (.one (.string s))]=>match P.underlying t with | some .string=>K (.dv (.one (.int .i64 s.size))) | _=>False
 | .len,[t],[_]=>match P.underlying t with | some (.array n _)=>K (.dv (.one (.int .i64 n))) | _=>False
 | .cap,[t],[.dv (.one (.slice _ _ c))]=>match P.underlying t with | some (.slice _)=>K (.dv (.one (.int .i64 c))) | _=>False
 | .max,_,[.dv (.one (.int k x)),.dv (.one (.int _ y))]=>K (.dv (.one (.int k (if y > x then y else x))))
 | .min,_,[.dv (.one (.int k x)),.dv (.one (.int _ y))]=>K (.dv (.one (.int k (if y<x then y else x))))
 | _,_,_=>False
def ZI(P:Program)(src dst:TypeId)(x:SV)(K:SV->Prop):Prop:=
 match P.underlying src,P.underlying dst,x with
 | some _,some (.int k),.dv (.one (.int _ n))=>K (.dv (.one (.int k (k.wrap n))))
 | some _,some .string,.dv (.one (.string s))=>K (.dv (.one (.string s)))
 | _,_,_=>False
def jD(P:Program):Op->Bool
 | .move _ | .assign _ | .pick .. | .nilCheck _ | .binOp .. | .unOp .. | .fieldAddr .. | .field .. | .indexAddr .. | .index .. | .extract .. | .slice .. | .build ..
 | .makeFunc .. | .makeInterface .. | .sliceToArrayPointer ..=>true
 | .typeAssert _ _ _ ok=>ok
 | .convert s d _=>match P.underlying s,P.underlying d with
  | some (.int _),some (.int _)=>true
  | some .string,some .string=>true
  | _,_=>false
 | .call { callee:=.builtin .len,argTypes,.. }=>match argTypes.toList with
  | [t]=>match P.underlying t with | some (.map _ _)=>false | some (.chan _ _)=>false | _=>true
  | _=>false
 | .call { callee:=.builtin .cap,.. } | .call { callee:=.builtin .max,.. } | .call { callee:=.builtin .min,.. }=>true
 | _=>false
def evB(fr:Fr)(o:Operand)(K:SV->Prop):Prop:=
 match o with
 | .const (.int k n)=>match Nat.ble n.natAbs 16777216 with
  | true=>K (.dv (.one (.int k n)))
  | false=>∀c:Int,c=n->K (.dv (.one (.int k c)))
 | o=>K (ev fr o)
theorem qC{fr:Fr}{o:Operand}{K:SV->Prop}(h:evB fr o K):K (ev fr o):=by
 unfold evB at h
 split at h
 ·split at h
  ·exact h
  ·exact h _ rfl
 ·exact h
def VY(P:Program)(op:BinOp)(t:TypeId)(x y:SV)(yc:Bool)(K:SV->Prop):Prop:=
 match x,y with | .dv a,.dv b=>ZF P op t a b yc K | _,_=>False
def ex1:Sh->(DV->Prop)->Prop
 | .int k,K=>∃n:Int,K (.one (.int k n))
 | .bool,K=>∃b:Bool,K (.one (.bool b))
 | .str,K=>∃s:ByteArray,K (.one (.string s))
 | .ptr,K=>∃p:Option Addr,K (.one (.pointer p))
 | .slc,K=>∃(p:Option Addr) (l c:Nat),K (.one (.slice p l c))
 | .mp,K=>∃r:Option Nat,K (.one (.map r))
 | .fn,K=>∃v:Value,v.oneCell'=true/\K (.fnv v)
 | .ifc,K=>∃v:Value,v.oneCell'=true/\K (.fnv v)
 | .row _ _,_=>False
def UK:List Sh->(List Ch->Prop)->Prop
 | [],K=>K []
 | .row k n::r,K=>∃ns:List Int,ns.length=n/\UK r fun cs=>K (.row k n ns::cs)
 | s::r,K=>ex1 s fun x=>UK r fun cs=>K (x.chs++cs)
def exT(P:Program)(t:TypeId)(K:DV->Prop):Prop:=
 match tsh P t with
 | some (.sc s)=>ex1 s K
 | some (.ag l)=>UK l fun cs=>K (.agg cs)
 | none=>False
def lD(P:Program)(t:TypeId):Option DV:=
 match (P.info? t).bind (·.zero) with
 | some (.agg a)=>match tsh P t with
  | some (.ag l)=>match LR (AM (l.map Sh.zero)) a.toList with | true=>some (.agg (l.map Sh.zero)) | false=>none
  | _=>none
 | some .nilFunc=>some (.fnv .nilFunc)
 | some .nilIface=>some (.fnv .nilIface)
 | some (.int k n)=>some (.one (.int k n))
 | some (.bool b)=>some (.one (.bool b))
 | some (.string s)=>some (.one (.string s))
 | some (.pointer none)=>some (.one (.pointer none))
 | some (.map none)=>some (.one (.map none))
 | some (.slice none 0 0)=>some (.one (.slice none 0 0))
 | _=>none
def VX(P:Program)(t:TypeId)(x:SV)(K:SV->Prop):Prop:=
 match P.underlying t,x,lD P t with
 | some (.interface _),_,_=>False
 | some _,.dv (.fnv v),some z=>
  ((v=.nilIface∨∃(t':Nat) (u:Value),v=.iface t' u/\t'≠t)/\K (.tup [z,.one (.bool false)]))∨exT P t fun d=>v=.iface t d.flat/\K (.tup [d,.one (.bool true)])
 | _,_,_=>False
def F4(P:Program)(o:Op)(fr:Fr)(K:SV->Prop):Prop:=
 match o with
 | .move x=>K (ev fr x)
 | .assign x=>K (ev fr x)
 | .pick c a b=>match ev fr c with | .dv (.one (.bool t))=>if t=true then K (ev fr a) else K (ev fr b) | _=>False
 | .nilCheck x=>match ev fr x with
  | .dv (.addr p)=>K (.dv (.addr p))
  | .dv (.one (.pointer a))=>∃p,a=some p/\K (.dv (.addr p))
  | .dv (.one (.func (.func f) a c))=>K (.dv (.one (.func (.func f) a c)))
  | _=>False
 | .binOp op t x y _=>evB fr x fun x'=>evB fr y fun y'=>VY P op t x' y' (MN y) K
 | .unOp op _ x=>match ev fr x with | .dv a=>Dun op a K | _=>False
 | .convert s d x=>ZI P s d (ev fr x) K
 | .fieldAddr t x f=>ZL P t (ev fr x) f K
 | .field t x f=>ZK P t (ev fr x) f K
 | .indexAddr t x i=>ZN P t (ev fr x) (asI (ev fr i)) K
 | .index t x i=>ZM P t (ev fr x) (asI (ev fr i)) K
 | .extract x i=>match ev fr x with | .tup xs=>(match xs[i]? with | some d=>K (.dv d) | none=>False) | _=>False
 | .slice t x lo hi mx=>match opI fr lo,opI fr hi,opI fr mx with
  | some lo,some hi,some mx=>ZQ P t (ev fr x) lo hi mx K
  | _,_,_=>False
 | .build t parts=>VZ P t (parts.toList.map fun(i,x)=>(i,ev fr x)) K
 | .makeFunc fn first cap=>match dvs (first.toList.map (ev fr)),dvs (cap.toList.map (ev fr)) with
  | some a,some c=>K (.dv (.one (.func fn (a.map DV.flat).toArray (c.map DV.flat).toArray)))
  | _,_=>False
 | .sliceToArrayPointer t x=>ZE P t (ev fr x) K
 | .makeInterface t x=>match P.underlying t,ev fr x with
  | some (.interface _),_=>False
  | some _,.dv d=>K (.dv (.fnv (.iface t d.flat)))
  | _,_=>False
 | .typeAssert x _ t true=>VX P t (ev fr x) K
 | .call { callee:=.builtin b,args,argTypes }=>Dbi P b argTypes.toList (args.toList.map (ev fr)) K
 | _=>False
/-! ### What the outside world keeps -/
def Rest(w w':World):Prop:=w'.tape=w.tape/\w'.os=w.os/\w'.output=w.output
/-! ### Calls -/
def L8(P:Program)(f:FuncId):Bool:=
 match P.funcs[f]? with
 | some fn => !(fn.name == "runtime.NumGoroutine") && fn.body.isSome
 | none=>false
def HZ:List DV->Value
 | [x]=>x.flat
 | xs=>.tuple (xs.map DV.flat).toArray
def M3:List DV->SV
 | [x]=>.dv x
 | xs=>.tup xs
def callsV(P:Program)(f:FuncId)(args:List Value)(Q:List DV->H->Prop)(h:H):Prop:=
 L8 P f=true/\∀w:World,w.heap=h->Calls P f args.toArray w fun e w'=>∃xs,(∀x,x∈xs->x.ok)/\e=.returned (HZ xs)/\Rest w w'/\Q xs w'.heap
abbrev Run:=List DV->(List DV->H->Prop)->H->Prop
abbrev Tbl:=List (Nat×Run)
def AE(P:Program)(f:FuncId)(run:Run):Prop:=∀args Q h,(∀x,x∈args->x.ok)->run args Q h->callsV P f (args.map DV.flat) Q h
def TblOk(P:Program)(T:Tbl):Prop:=∀f run,(f,run)∈T->AE P f run
def U4:Tbl->Nat->Option Run
 | [],_=>none
 | (g,r)::T,f=>match Nat.beq f g with | true=>some r | false=>U4 T f
def HM(P:Program)(v:Value)(args:List DV)(Q:List DV->H->Prop)(h:H):Prop:=
 ∃f a c,v=.func (.func f) a c/\callsV P f (a.toList++args.map DV.flat++c.toList) Q h
def AeD(P:Program)(v:Value)(name:String)(args:List DV)(Q:List DV->H->Prop)(h:H):Prop:=
 ∃(t:TypeId) (u:Value) (f:FuncId) (r:Value),v=.iface t u/\(∀w,(method (P.types.size+Made.depth) t u name).run P w=.ok (f,r) w)/\callsV P f (r::args.map DV.flat) Q h
def GL:Value->DV
 | .pointer (some p)=>.addr p
 | v=>.one v
def XK:Sh->DV->(DV->Prop)->Prop
 | .int k,x,K=>∃n:Int,x=.one (.int k n)/\K (.one (.int k n))
 | .bool,x,K=>∃b:Bool,x=.one (.bool b)/\K (.one (.bool b))
 | .str,x,K=>∃s:ByteArray,x=.one (.string s)/\K (.one (.string s))
 | .ptr,x,K=>∃p:Option Addr,x=.one (.pointer p)/\K (.one (.pointer p))
 | .slc,x,K=>∃(p:Option Addr) (l c:Nat),x=.one (.slice p l c)/\K (.one (.slice p l c))
 | .mp,x,K=>∃r:Option Nat,x=.one (.map r)/\K (.one (.map r))
 | .fn,x,K=>∃v:Value,x=.fnv v/\K (.fnv v)
 | .ifc,x,K=>∃v:Value,x=.fnv v/\K (.fnv v)
 | .row _ _,_,_=>False
def Y7:List TSh->List DV->(List DV->Prop)->Prop
 | [],rs,K=>rs=[]/\K []
 | .sc s::r,rs,K=>∃x rest,rs=x::rest/\XK s x fun x=>Y7 r rest fun l=>K (x::l)
 | .ag _::_,_,_=>False
def uS(P:Program)(t:TypeId):Option (List TSh):=
 match P.underlying t with
 | some (.tuple ts)=>ts.toList.mapM (tsh P)
 | _=>(tsh P t).map ([·])
/-! ### Maps whose keys are integers,strings or BU -/
def pU(a:Array MapEntry)(es:List (Value×DV)):Prop:=a.toList.map (fun e=>(e.key,e.val))=es.map (fun e=>(e.1,e.2.flat))/\∀e,e∈es->e.2.ok
def MI(h:H)(r:Nat)(es:List (Value×DV)):Prop:=∃a cl,h[r]?=some (Obj.map a cl)/\pU a es
def UR(h:H)(r:Option Nat)(es:List (Value×DV)):Prop:=match r with | some r=>MI h r es | none=>es=[]
def i6(h:H)(b:Nat)(h':H):Prop:=b=h.size/\h'=h.push (.map #[] 0)
def i7(h:H)(r:Nat)(es:List (Value×DV))(h':H):Prop:=∃a cl,h'=h.setIfInBounds r (.map a cl)/\pU a es
def KD:Value->Value->Option Bool
 | .int k a,.int k' b=>match k == k' with | true=>some (a == b) | false=>none
 | .string a,.string b=>some (a == b)
 | .bool a,.bool b=>some (a == b)
 | _,_=>none
def GG(P:Program)(t:TypeId)(v:Value):Bool:=
 match P.underlying t,v with
 | some (.int _),.int _ _=>true
 | some .string,.string _=>true
 | some .bool,.bool _=>true
 | _,_=>false
def D7(key:Value)(z:DV):List (Value×DV)->Option (DV×Bool)
 | []=>some (z,false)
 | e::r=>match KD key e.1 with | some true=>some (e.2,true) | some false=>D7 key z r | none=>none
def FW(key:Value)(d:DV):List (Value×DV)->Option (List (Value×DV))
 | []=>some [(key,d)]
 | e::r=>match KD key e.1 with | some true=>some ((key,d)::r) | some false=>(FW key d r).map (e::·) | none=>none
def isT(P:Program)(t:TypeId)(d:DV)(K:DV->Prop):Prop:=
 match tsh P t with
 | some (.sc s)=>XK s d K
 | _=>False
def ZA(P:Program)(t:TypeId):Option DV:=
 match (P.info? t).bind (·.zero) with
 | some .nilFunc=>some (.fnv .nilFunc)
 | some .nilIface=>some (.fnv .nilIface)
 | some (.int k n)=>some (.one (.int k n))
 | some (.bool b)=>some (.one (.bool b))
 | some (.string s)=>some (.one (.string s))
 | some (.pointer none)=>some (.one (.pointer none))
 | some (.map none)=>some (.one (.map none))
 | some (.slice none 0 0)=>some (.one (.slice none 0 0))
 | _=>none
def XC(h:H)(a:Addr):H:=
 match h[a.block]? with
 | some (.cells c t (lo,hi))=>h.setIfInBounds a.block (.cells c t (if lo == hi then (c.size,c.size+1) else (min lo c.size,max hi (c.size+1))))
 | _=>h
/-! ### Operations on memory -/
def AZ(h:H)(sz:Nat)(zero:List Value)(bytes:Nat)(p:Option Addr)(l c n:Nat)(vs:List Value)(K:Option Addr->Nat->Nat->H->Prop):Prop:=
 if l+n≤c then
  (vs=[]∨∃a,p=some a/\AC h (a.add (l*sz)) (n*sz))/\∀h',h'=E8 h (p.map (·.add (l*sz))) vs->K p (l+n) c h'
 else (l+n)*bytes≤2^47/\∃old,hsv h p sz l old/\
  ∀c' b h',l+n≤c'->hnew h b (old++vs++(List.replicate (c'-(l+n)) zero).flatten) h'->K (some ⟨b,0,none⟩) (l+n) c' h'
def vL(h:H)(sz:Nat)(x:SV)(K:Nat->List Value->Prop):Prop:=
 match x with
 | .dv (.one (.slice q n _))=>∃vs,hsv h q sz n vs/\K n vs
 | .dv (.one (.string s))=>match Nat.beq sz 1 with | true=>K s.size (s.data.toList.map fun b=>.int .u8 b.toNat) | false=>False
 | _=>False
def jE(P:Program)(t:TypeId):Bool:=
 match P.underlying t with | some (.slice _)=>true | some .string=>true | _=>false
def ZD(P:Program)(argTypes:List TypeId)(args:List SV)(K:SV->H->Prop)(h:H):Prop:=
 match argTypes,args with
 | [st,xt],[.dv (.one (.slice p l c)),x]=>match P.underlying st,jE P xt with
  | some (.slice e),true=>match C5 P e,(P.info? e).map TypeInfo.bytes,II P e with
   | some sz,some (bytes+1),some z=>vL h sz x fun n vs=>AZ h sz (AM z) (bytes+1) p l c n vs fun p' l' c' h'=>K (.dv (.one (.slice p' l' c'))) h'
   | _,_,_=>False
  | _,_=>False
 | _,_=>False
def ZJ(P:Program)(argTypes:List TypeId)(args:List SV)(K:SV->H->Prop)(h:H):Prop:=
 match argTypes,args with
 | st::_,[.dv (.one (.slice p l _)),.dv (.one (.slice q n _))]=>match P.underlying st with
  | some (.slice e)=>match C5 P e with
   | some sz=>∃vs,hsv h q sz (Nat.min n l) vs/\(vs=[]∨∃a,p=some a/\AC h a (Nat.min n l*sz))/\
     ∀h',h'=E8 h p vs->K (.dv (.one (.int .i64 (Nat.min n l:Nat)))) h'
   | none=>False
  | _=>False
 | _,_=>False
def LN(sz:Nat):List (Nat×SV)->List (List Ch)->Option (List (List Ch))
 | [],l=>some l
 | (i,.dv x)::r,l=>match Nat.beq (B7 x.chs) sz,Nat.blt i l.length with
  | true,true=>LN sz r (l.set i x.chs)
  | _,_=>none
 | _,_=>none
def ZH(P:Program)(T:Tbl)(ty:TypeId)(f:SV)(args:Option (List DV))(K:SV->H->Prop)(h:H):Prop:=
 match f,args with
 | .dv (.one (.func (.func g) a c)),some xs=>match U4 T g,(a.toList++c.toList).all (fun v=>v.oneCell') with
  | some run,true=>run (a.toList.map GL++xs++c.toList.map GL) (fun rs h'=>K (M3 rs) h') h
  | _,_=>False
 | .dv (.fnv v),some xs=>match uS P ty with
  | some shs=>HM P v xs (fun rs h'=>Y7 shs rs fun rs=>K (M3 rs) h') h
  | none=>False
 | _,_=>False
def ZO(P:Program)(ty:TypeId)(x:SV)(name:String)(args:Option (List DV))(K:SV->H->Prop)(h:H):Prop:=
 match x,args with
 | .dv (.fnv v),some xs=>match uS P ty with
  | some shs=>AeD P v name xs (fun rs h'=>Y7 shs rs fun rs=>K (M3 rs) h') h
  | none=>False
 | _,_=>False
def V0(P:Program)(t:TypeId)(m k v:SV)(K:H->Prop)(h:H):Prop:=
 match P.underlying t,m,k,v with
 | some (.map kt _),.dv (.one (.map r)),.dv (.one key),.dv d=>match GG P kt key with
  | true=>∃q es es',r=some q/\MI h q es/\FW key d es=some es'/\∀h',i7 h q es' h'->K h'
  | false=>False
 | _,_,_,_=>False
def ET(P:Program)(T:Tbl)(o:Oper)(fr:Fr)(K:SV->H->Prop)(h:H):Prop:=
 match o.op with
 | .alloc t=>match II P t with
  | some cs=>∀b h',hnew h b (AM cs) h'->K (.dv (.addr ⟨b,0,none⟩)) h'
  | none=>False
 | .box _ x=>match ev fr x with
  | .dv d=>∀b h',hnew h b (AM d.chs) h'->K (.dv (.addr ⟨b,0,none⟩)) h'
  | _=>False
 | .buildSlice t n parts=>match P.underlying t with
  | some (.slice e)=>match C5 P e,II P e with
   | some sz,some z=>match Nat.ble (n*sz) 16777216&&Nat.beq (B7 z) sz,LN sz (parts.toList.map fun(i,x)=>(i,ev fr x)) (List.replicate n z) with
    | true,some l=>∀b h',hnew h b (AM l.flatten) h'->K (.dv (.one (.slice (some ⟨b,0,none⟩) n n))) h'
    | _,_=>False
   | _,_=>False
  | _=>False
 | .makeSlice t l c=>match P.underlying t,asI (ev fr l),asI (ev fr c) with
  | some (.slice e),some l,some c=>match (C5 P e).bind (fun sz=>(II P e).map fun z=>Nat.beq (B7 z) sz),(P.info? e).map TypeInfo.bytes,II P e with
   | some true,some bytes,some z=>0≤l/\l≤c/\(bytes:Int)*c≤2^48/\c≤2^48/\
     ∀b h',hnew h b (List.replicate c.toNat (AM z)).flatten h'->K (.dv (.one (.slice (some ⟨b,0,none⟩) l.toNat c.toNat))) h'
   | _,_,_=>False
  | _,_,_=>False
 | .load t a=>match ev fr a with
  | .dv (.addr p)=>ldT P t h p fun d=>K (.dv d) h
  | _=>False
 | .store t a x=>match ev fr a,ev fr x with
  | .dv (.addr p),.dv d=>match C5 P t with
   | some sz=>match Nat.beq (B7 d.chs) sz with
    | true=>AC h p sz/\∀h',h'=hwr h p (AM d.chs)->K .nd h'
    | false=>False
   | none=>False
  | _,_=>False
 | .convert s d x=>match P.underlying s,P.underlying d,ev fr x with
  | some (.slice e),some .string,.dv (.one (.slice p l _))=>match P.underlying e with
   | some (.int .u8)=>∃ns:List Int,hsv h p 1 l (AA .u8 ns)/\K (.dv (.one (.string (bytesOf ns)))) h
   | _=>False
  | some .string,some (.slice e),.dv (.one (.string s))=>match P.underlying e with
   | some (.int .u8)=>∀c b h',s.size≤c->hnew h b ((s.data.toList.map fun b=>.int .u8 b.toNat)++AA .u8 (AB (c-s.size))) h'->K (.dv (.one (.slice (some ⟨b,0,none⟩) s.size c))) h'
   | _=>False
  | some (.slice _),some (.slice e),.dv (.one (.slice p l c))=>match Nat.beq s d,P.underlying e with
   | true,some (.int .u8)=>∃q,p=some q/\∀h',h'=XC h q->K (.dv (.one (.slice p l c))) h'
   | _,_=>False
  | _,_,_=>False
 | .makeMap t none=>match P.underlying t with
  | some (.map _ _)=>∀b h',i6 h b h'->K (.dv (.one (.map (some b)))) h'
  | _=>False
 | .insert t m k v=>V0 P t (ev fr m) (ev fr k) (ev fr v) (K .nd) h
 | .mapUpdate t m k v=>V0 P t (ev fr m) (ev fr k) (ev fr v) (K .nd) h
 | .lookup t m k ok=>match P.underlying t,ev fr m,ev fr k with
  | some (.map kt et),.dv (.one (.map r)),.dv (.one key)=>match GG P kt key,ZA P et with
   | true,some z=>∃(es:List (Value×DV)) (d:DV) (b:Bool),UR h r es/\D7 key z es=some (d,b)/\isT P et d fun d=>K (match ok with | true=>.tup [d,.one (.bool b)] | false=>.dv d) h
   | _,_=>False
  | _,_,_=>False
 | .call c=>match c.callee with
  | .value f=>ZH P T o.type (ev fr f) (dvs (c.args.toList.map (ev fr))) K h
  | .invoke x name=>ZO P o.type (ev fr x) name (dvs (c.args.toList.map (ev fr))) K h
  | .builtin .append=>ZD P c.argTypes.toList (c.args.toList.map (ev fr)) K h
  | .builtin .copy=>ZJ P c.argTypes.toList (c.args.toList.map (ev fr)) K h
  | .builtin .len=>match c.argTypes.toList,c.args.toList.map (ev fr) with
   | [t],[.dv (.one (.map r))]=>match P.underlying t with
    | some (.map _ _)=>∃es:List (Value×DV),UR h r es/\K (.dv (.one (.int .i64 es.length))) h
    | _=>False
   | _,_=>False
  | _=>False
 | _=>False
def Dop(P:Program)(T:Tbl)(o:Oper)(fr:Fr)(K:SV->H->Prop)(h:H):Prop:=
 match jD P o.op with
 | true=>F4 P o.op fr fun x=>K x h
 | false=>ET P T o fr K h
/-! ### Guards;a region that keeps its order -/
def PX(ops:List Oper)(j:Nat):Option Nat:=
 match ops,j with
 | [],_=>none
 | o::_,0=>o.dst
 | _::r,j+1=>PX r j
def UQ(ops:List Oper)(g:Option (Nat×Bool))(fr:Fr)(yes no:Fr->Prop):Prop:=
 match g with
 | none=>yes fr
 | some (j,want)=>match PX ops j with
  | none=>False
  | some d=>match get fr d with
   | .nd=>no fr
   | .dv (.one (.bool b))=>
    if b=true then (match want with | true=>yes ((d,.dv (.one (.bool true)))::fr) | false=>no ((d,.dv (.one (.bool true)))::fr))
    else (match want with | true=>no ((d,.dv (.one (.bool false)))::fr) | false=>yes ((d,.dv (.one (.bool false)))::fr))
   | _=>False
def LS(P:Program)(T:Tbl)(all:List Oper):List Oper->(Fr->H->Prop)->Fr->H->Prop
 | [],K,fr,h=>K fr h
 | o::r,K,fr,h=>UQ all o.guard fr
   (fun fr=>Dop P T o fr (fun x h'=>LS P T all r K (putO o.dst x fr) h') h)
   (fun fr=>LS P T all r K (putO o.dst .nd fr) h)
/-! ### A region that draws its order -/
abbrev FG:=H->Prop
def lQ(P:Program)(o:Op)(fr:Fr)(h:H)(K:SV->FG->Prop):Prop:=
 match o with
 | .load t a=>match ev fr a with
  | .dv (.addr p)=>ldT P t h p fun d=>K (.dv d) fun h'=>hcs h' p (AM d.chs)
  | _=>False
 | _=>False
def AhK:Op->Bool
 | .load _ _=>true
 | _=>false
def AhJ(P:Program)(o:Op):Bool:=match jD P o with | true=>true | false=>AhK o
def G0(P:Program)(ops:List Oper)(i:Nat):Bool:=match ops[i]? with | some o=>AhJ P o.op | none=>false
def GQ(clo:Array Nat)(i j:Nat):Bool:=(clo.getD j 0).testBit i
def PT(ops:Array Oper)(clo:Array Nat):Bool:=
 (List.range ops.size).all fun j=>(List.range ops.size).all fun i=>match GQ clo i j with
  | false=>true
  | true=>match ops[j]? with
   | some o=>o.after.any fun e=>Region.binds .any e&&Nat.blt e.on j&&(Nat.beq e.on i || GQ clo i e.on)
   | none=>false
def P9(P:Program)(ops:Array Oper)(listed:Array Bool):List Nat->Option Nat
 | []=>none
 | i::r=>match G0 P ops.toList i with
  | true=>match Region.free .any ops listed i with | true=>some i | false=>P9 P ops listed r
  | false=>P9 P ops listed r
def i5:List (Nat×FG)->H->Prop->Prop
 | [],_,p=>p
 | (_,φ)::r,h,p=>φ h/\i5 r h p
def J6(P:Program)(ops:Array Oper)(clo:Array Nat)(i:Nat)(held:List (Nat×FG)):List (Nat×FG):=
 match G0 P ops.toList i with
 | true=>held
 | false=>held.filter fun x=>!GQ clo x.1 i
def g8{α:Type}(p:α->Prop):List α->Prop
 | []=>True
 | [a]=>p a
 | a::r=>p a/\g8 p r
def DH(P:Program)(T:Tbl)(ops:Array Oper)(clo:Array Nat)(K:Fr->H->Prop):Nat->Array Bool->List (Nat×FG)->Fr->H->Prop
 | 0,listed,_,fr,h=>match Region.ready .any ops listed with
  | []=>K fr h
  | _=>False
 | f+1,listed,held,fr,h=>
  match Region.ready .any ops listed with
  | []=>K fr h
  | i::rs=>match P9 P ops listed (i::rs) with
   | some i=>match ops[i]? with
    | some o=>UQ ops.toList o.guard fr
      (fun fr=>match jD P o.op with
       | true=>F4 P o.op fr fun x=>DH P T ops clo K f (listed.setIfInBounds i true) held (putO o.dst x fr) h
       | false=>lQ P o.op fr h fun x φ=>DH P T ops clo K f (listed.setIfInBounds i true) ((i,φ)::held) (putO o.dst x fr) h)
      (fun fr=>DH P T ops clo K f (listed.setIfInBounds i true) held (putO o.dst .nd fr) h)
    | none=>False
   | none=>g8 (fun i=>match ops[i]? with
    | some o=>UQ ops.toList o.guard fr
      (fun fr=>Dop P T o fr (fun x h'=>i5 (J6 P ops clo i held) h' (DH P T ops clo K f (listed.setIfInBounds i true) (J6 P ops clo i held) (putO o.dst x fr) h')) h)
      (fun fr=>DH P T ops clo K f (listed.setIfInBounds i true) (J6 P ops clo i held) (putO o.dst .nd fr) h)
    | none=>False) (i::rs)
def lP(P:Program)(T:Tbl)(ops:Array Oper)(K:Fr->H->Prop)(fr:Fr)(h:H):Prop:=
 match P.follows .mixedOrders,Region.noSelect ops,PT ops (Region.before ops) with
 | true,true,true=>DH P T ops (Region.before ops) K ops.size (Array.replicate ops.size false) [] fr h
 | _,_,_=>False
/-! ### Code -/
def B4:List Oper->List Nat
 | []=>[]
 | o::r=>match o.dst with | some d=>d::B4 r | none=>B4 r
def asg:Code->List Nat
 | .region _ ops _=>B4 ops.toList
 | .seq a b=>asg a++asg b
 | .cond _ a b=>asg a++asg b
 | .block _ b=>asg b
 | .loop b=>asg b
 | .scope b=>asg b
 | _=>[]
inductive KS where
 | sc (s:Sh) | addr | ag (l:List Sh) | un
def WG:Sh->(DV->Prop)->Prop
 | .int k,K=>∀n:Int,K (.one (.int k n))
 | .bool,K=>∀b:Bool,K (.one (.bool b))
 | .str,K=>∀s:ByteArray,K (.one (.string s))
 | .ptr,K=>∀p:Option Addr,K (.one (.pointer p))
 | .slc,K=>∀(p:Option Addr) (l c:Nat),K (.one (.slice p l c))
 | .mp,K=>∀r:Option Nat,K (.one (.map r))
 | .fn,K=>∀v:Value,v.oneCell'=true->K (.fnv v)
 | .ifc,K=>∀v:Value,v.oneCell'=true->K (.fnv v)
 | .row _ _,K=>∀x,K x
def T5:List Sh->(List Ch->Prop)->Prop
 | [],K=>K []
 | .row k n::r,K=>∀ns:List Int,ns.length=n->T5 r fun cs=>K (.row k n ns::cs)
 | s::r,K=>WG s fun x=>T5 r fun cs=>K (x.chs++cs)
def L4:List KS->(List SV->Prop)->Prop
 | [],K=>K []
 | .sc s::r,K=>WG s fun x=>L4 r fun l=>K (.dv x::l)
 | .addr::r,K=>∀p:Addr,L4 r fun l=>K (.dv (.addr p)::l)
 | .ag s::r,K=>T5 s fun cs=>L4 r fun l=>K (.dv (.agg cs)::l)
 | .un::r,K=>L4 r fun l=>K (.un::l)
abbrev JV:=List (Nat×KS)
abbrev Ann:=List (Nat×JV)
def WH:Ann->Nat->Option JV
 | [],_=>none
 | (q,k)::r,p=>match Nat.beq p q with | true=>some k | false=>WH r p
def jS:KS->SV->SV
 | .sc .ptr,.dv (.addr p)=>.dv (.one (.pointer (some p)))
 | .sc .fn,.dv (.one v)=>.dv (.fnv v)
 | .sc .ifc,.dv (.one v)=>.dv (.fnv v)
 | .un,_=>.un
 | _,v=>v
def U1(keep:JV)(fr:Fr):List SV:=match keep with | []=>[] | (i,k)::r=>jS k (get fr i)::U1 r fr
def MW:JV->List SV->Fr->Fr
 | (i,_)::r,v::vs,fr=>(i,v)::MW r vs fr
 | _,_,fr=>fr
def jn(ann:Ann)(p:Nat)(as:List Nat)(fr:Fr)(K:Fr->H->Prop)(body:(Fr->H->Prop)->Prop):Prop:=
 match WH ann p with
 | none=>body K
 | some keep=>∀J:List SV->H->Prop,
   (L4 (keep.map (·.2)) fun vs=>∀h',K (MW keep vs (GY as fr)) h'->J vs h')->body fun fr' h'=>J (U1 keep fr') h'
abbrev F0:=Exit->Fr->H->Prop
def vW(K:Fr->H->Prop)(Q:F0):F0
 | .normal=>K
 | e=>Q e
def iG(id:Nat)(K:Fr->H->Prop)(Q:F0):F0
 | .normal=>K
 | .exit j=>match Nat.beq j id with | true=>K | false=>Q (.exit j)
 | e=>Q e
def Al6(Q:F0):F0
 | .goto _=>fun _ _=>False
 | e=>Q e
def D(P:Program)(T:Tbl)(ann:Ann):Code->Nat->F0->Fr->H->Prop
 | .skip,_,Q,fr,h=>Q .normal fr h
 | .label _,_,Q,fr,h=>Q .normal fr h
 | .ret,_,Q,fr,h=>Q .ret fr h
 | .exit id,_,Q,fr,h=>Q (.exit id) fr h
 | .seq a b,p,Q,fr,h=>jn ann p (asg a) fr (D P T ann b (2*p+1) Q) fun K=>D P T ann a (2*p) (vW K Q) fr h
 | .cond c a b,p,Q,fr,h=>match ev fr c with
  | .dv (.one (.bool t))=>if t=true then D P T ann a (2*p) Q fr h else D P T ann b (2*p+1) Q fr h
  | _=>False
 | .block id b,p,Q,fr,h=>jn ann p (asg b) fr (Q .normal) fun K=>D P T ann b (2*p) (iG id K Q) fr h
 | .loop b,p,Q,fr,h=>match WH ann p with
  | none=>False
  | some keep=>∀I:List SV->H->Prop,
    (L4 (keep.map (·.2)) fun vs=>∀h',D P T ann b (2*p) (vW (fun fr'' h''=>I (U1 keep fr'') h'') Q) (MW keep vs (GY (asg b) fr)) h'->I vs h')->
    I (U1 keep fr) h
 | .scope b,p,Q,fr,h=>D P T ann b (2*p) (Al6 Q) fr h
 | .region _ ops false,_,Q,fr,h=>LS P T ops.toList ops.toList (Q .normal) fr h
 | .region _ ops true,_,Q,fr,h=>lP P T ops (Q .normal) fr h
 | _,_,_,_,_=>False
/-! ### Functions -/
def GM(P:Program):List ResultVar->Fr->H->(List DV->Prop)->Prop
 | [],_,_,K=>K []
 | .tmp t::r,fr,h,K=>match get fr t with
  | .dv x=>GM P r fr h fun xs=>K (x::xs)
  | _=>False
 | .cell a t::r,fr,h,K=>match get fr a with
  | .dv (.addr p)=>ldT P t h p fun x=>GM P r fr h fun xs=>K (x::xs)
  | _=>False
def KB:Nat->List DV->Fr
 | _,[]=>[]
 | i,x::r=>(i,.dv x)::KB (i+1) r
def M7(P:Program)(T:Tbl)(ann:Ann)(fn:Func)(args:List DV)(Q:List DV->H->Prop)(h:H):Prop:=
 match fn.body,Nat.ble args.length fn.ntmps,fn.body.map fun c=>(asg c).all fun d=>Nat.blt d fn.ntmps with
 | some c,true,some true=>D P T ann c 1 (fun e fr h'=>match e with
  | .normal=>GM P fn.results.toList fr h' fun xs=>Q xs h'
  | .ret=>GM P fn.results.toList fr h' fun xs=>Q xs h'
  | _=>False) (KB 0 args) h
 | _,_,_=>False
end Go.Vc
end
section
namespace Go.Vc
variable {P:Program}
theorem Rest.refl(w:World):Rest w w:=⟨rfl,rfl,rfl⟩
theorem Rest.trans{a b c:World}(h:Rest a b)(k:Rest b c):Rest a c:=⟨k.1.trans h.1,k.2.1.trans h.2.1,k.2.2.trans h.2.2⟩
theorem T4(a:Addr)(n m:Nat):(a.add n).add m=a.add (n+m):=by
 unfold Addr.add
 by_cases hm:m=0
 ·subst hm;simp
 ·by_cases hn:n=0
  ·subst hn;simp[hm]
  ·simp[hm,hn,Nat.add_assoc]
theorem add_zero(a:Addr):a.add 0=a:=by simp[Addr.add]
/-! ### Chunks -/
theorem W6{c:Ch}(h:c.ok):c.flat.length=c.size:=by
 cases c with
 | c v=>rfl
 | row k n ns=>simp only[Ch.ok]at h;simp[Ch.flat,AA,Ch.size,h]
theorem EH{c:Ch}{r:List Ch}(h:oks (c::r)):c.ok/\oks r:=⟨h c (by simp),fun x hx=>h x (by simp[hx])⟩
theorem MT{c:Ch}{r:List Ch}(h:c.ok)(hr:oks r):oks (c::r):=fun x hx=>by
 rcases List.mem_cons.1 hx with rfl | hx
 ·exact h
 ·exact hr x hx
theorem IW:oks []:=fun _ h=>by cases h
theorem HO{cs:List Ch}(h:oks cs):(AM cs).length=B7 cs:=by
 induction cs with
 | nil=>rfl
 | cons c r ih=>obtain⟨h1,h2⟩:=EH h;simp[AM,B7,W6 h1,ih h2]
theorem UO(a b:List Ch):AM (a++b)=AM a++AM b:=by
 induction a with
 | nil=>rfl
 | cons c r ih=>simp[AM,ih]
theorem AeO(a b:List Ch):B7 (a++b)=B7 a+B7 b:=by
 induction a with
 | nil=>simp[B7]
 | cons c r ih=>simp[B7,ih,Nat.add_assoc]
theorem jY{a b:List Ch}(ha:oks a)(hb:oks b):oks (a++b):=fun x hx=>by
 rcases List.mem_append.1 hx with h | h
 ·exact ha x h
 ·exact hb x h
theorem AfY{c:Ch}(h:c.ok):∀v,v∈c.flat->v.oneCell'=true:=by
 cases c with
 | c v=>intro u hu;simp[Ch.flat]at hu;subst hu;exact h
 | row k n ns=>intro u hu;simp[Ch.flat,AA]at hu;obtain⟨x,_,rfl⟩:=hu;rfl
theorem AfZ{cs:List Ch}(h:oks cs):∀v,v∈AM cs->v.oneCell'=true:=by
 induction cs with
 | nil=>intro v hv;cases hv
 | cons c r ih=>
  obtain⟨h1,h2⟩:=EH h
  intro v hv
  rcases List.mem_append.1 hv with hv | hv
  ·exact AfY h1 v hv
  ·exact ih h2 v hv
theorem DV.chs_oks{d:DV}(h:d.ok):oks d.chs:=by
 cases d with
 | one v=>exact MT h IW
 | addr p=>exact MT (by simp[Ch.ok,Value.oneCell']) IW
 | fnv v=>exact MT h IW
 | agg cs=>exact h
theorem DV.cells_flat{d:DV}(h:d.ok):d.flat.cells=(AM d.chs).toArray:=by
 cases d with
 | one v=>simp only[DV.ok]at h;cases v <;> first | rfl | (simp[Value.oneCell']at h)
 | addr p=>rfl
 | fnv v=>simp only[DV.ok]at h;cases v <;> first | rfl | (simp[Value.oneCell']at h)
 | agg cs=>rfl
/-! ### Frames -/
theorem W9(fr:Fr)(d:Option Nat)(v:SV)(i:Nat):get (putO d v fr) i=if d=some i then v else get fr i:=by
 cases d with
 | none=>simp[putO]
 | some d=>
  simp only[putO,get,Option.some.injEq]
  cases h:Nat.beq i d with
  | true=>have:=Nat.eq_of_beq_eq_true h;simp[this]
  | false=>have:=Nat.ne_of_beq_eq_false h;simp[Ne.symm this]
theorem FR.put{fr:Fr}{a:Act}(h:FR fr a.tmps)(d:Option Nat)(hd:∀i,d=some i->i<a.tmps.size){x:SV}{v:Value}(hx:x.rel v):FR (putO d x fr) (a.put d v).tmps:=by
 intro i
 rw[W9]
 cases d with
 | none=>simpa[Act.put]using h i
 | some d=>
  have hs:=hd d rfl
  by_cases hd:d=i
  ·subst hd
   simpa[Act.put,hs]using hx
  ·have:¬some d=some i:=by simpa using hd
   rw[if_neg this]
   have h2:=h i
   simp only[Act.put]
   simpa[Array.getElem?_setIfInBounds,hd]using h2
theorem AlM(a:Act)(d:Option Nat)(v:Value):(a.put d v).tmps.size=a.tmps.size:=by cases d <;> simp[Act.put]
theorem Af6(a:Act)(d:Option Nat)(v:Value):(a.put d v).defers=a.defers:=by cases d <;> rfl
theorem AeQ(v:Value):(iO v).rel v:=by
 cases v <;> simp[iO,SV.rel,DV.ok,DV.flat,Value.oneCell']
theorem CX{fr:Fr}{a:Act}(h:FR fr a.tmps)(x:Operand):(ev fr x).rel (a.eval x):=by
 cases x with
 | tmp t=>exact h t
 | const v=>exact AeQ v
 | global g=>simp[ev,SV.rel,DV.ok,DV.flat,Act.eval]
 | func f=>simp[ev,SV.rel,DV.ok,DV.flat,Act.eval,Value.oneCell']
theorem B0{fr:Fr}{a:Act}(h:FR fr a.tmps){x:Operand}{d:DV}(he:ev fr x=.dv d):d.ok/\a.eval x=d.flat:=by
 have:=CX h x
 rw[he]at this
 exact this
/-! ### Types -/
theorem AmA{t:TypeId}{s:Sh}(h:tsh P t=some (.sc s)):∃d,P.underlying t=some d/\(∀fs,d≠.struct fs)/\(∀n e,d≠.array n e)/\VM d=some s:=by
 unfold tsh at h
 split at h
 ·split at h
  ·split at h <;> simp at h
  ·simp at h
 ·split at h
  ·split at h <;> simp at h
  ·simp at h
 ·rename_i d h1 h2 hd
  refine⟨d,hd,fun fs e=>h1 fs e,fun n e e'=>h2 n e e',?_⟩
  ·cases hs:VM d with
   | none=>simp[hs]at h
   | some s'=>simp[hs]at h;rw[h]
 ·simp at h
theorem v7{t:TypeId}{l:List Sh}(h:tsh P t=some (.ag l)):(∃d,P.underlying t=some d/\((∃fs,d=.struct fs)∨∃n e,d=.array n e))/\∃i,P.info? t=some i/\i.size=TA l:=by
 unfold tsh at h
 split at h
 ·rename_i fs hd
  refine⟨⟨_,hd,.inl ⟨fs,rfl⟩⟩,?_⟩
  split at h
  ·rename_i i hi
   split at h
   ·rename_i hb
    simp at h
    exact⟨i,hi,by rw[←h];exact Nat.eq_of_beq_eq_true hb⟩
   ·simp at h
  ·simp at h
 ·rename_i n e hd
  refine⟨⟨_,hd,.inr ⟨n,e,rfl⟩⟩,?_⟩
  split at h
  ·rename_i i hi
   split at h
   ·rename_i hb
    simp at h
    exact⟨i,hi,by rw[←h];exact Nat.eq_of_beq_eq_true hb⟩
   ·simp at h
  ·simp at h
 ·rename_i d _ _ _
  cases hs:VM d <;> simp[hs]at h
 ·simp at h
theorem uZ{t:TypeId}{s:Sh}(h:tsh P t=some (.sc s))(w:World):(isAgg t).run P w=.ok false w:=by
 obtain⟨d,hd,h1,h2,_⟩:=AmA h
 unfold isAgg
 simp only[Sem.run_bind,run_underlying hd,Result.andThen_ok]
 cases d <;> first | rfl | exact absurd rfl (h1 _) | exact absurd rfl (h2 _ _)
theorem uY{t:TypeId}{l:List Sh}(h:tsh P t=some (.ag l))(w:World):(isAgg t).run P w=.ok true w:=by
 obtain⟨⟨d,hd,h1⟩,_⟩:=v7 h
 unfold isAgg
 simp only[Sem.run_bind,run_underlying hd,Result.andThen_ok]
 rcases h1 with⟨fs,rfl⟩ | ⟨n,e,rfl⟩ <;> rfl
theorem YL{t:TypeId}{i:TypeInfo}(h:P.info? t=some i)(w:World):(typeInfo t).run P w=.ok i w:=by
 unfold typeInfo
 simp[h]
theorem E0{t:TypeId}{n:Nat}(h:C5 P t=some n)(w:World):(sizeOf t).run P w=.ok n w:=by
 unfold C5 at h
 cases hi:P.info? t with
 | none=>simp[hi]at h
 | some i=>simp[hi]at h;unfold sizeOf;simp[YL hi,h]
/-! ### Loads -/
theorem tC{h:H}{a:Addr}{s:Sh}{K:DV->Prop}(hh:ld1 h a s K):∃x,x.ok/\hc h a=some x.flat/\x.chs=[.c x.flat]/\K x:=by
 cases s with
 | int k=>obtain⟨n,h1,h2⟩:=hh;exact⟨(.one (.int k n)),rfl,h1,rfl,h2⟩
 | bool=>obtain⟨n,h1,h2⟩:=hh;exact⟨(.one (.bool n)),rfl,h1,rfl,h2⟩
 | str=>obtain⟨n,h1,h2⟩:=hh;exact⟨(.one (.string n)),rfl,h1,rfl,h2⟩
 | ptr=>obtain⟨n,h1,h2⟩:=hh;exact⟨(.one (.pointer n)),rfl,h1,rfl,h2⟩
 | slc=>obtain⟨p,l,c,h1,h2⟩:=hh;exact⟨.one (.slice p l c),rfl,h1,rfl,h2⟩
 | mp=>obtain⟨n,h1,h2⟩:=hh;exact⟨(.one (.map n)),rfl,h1,rfl,h2⟩
 | fn=>obtain⟨v,h1,h3,h2⟩:=hh;exact⟨.fnv v,h3,h1,rfl,h2⟩
 | ifc=>obtain⟨v,h1,h3,h2⟩:=hh;exact⟨.fnv v,h3,h1,rfl,h2⟩
 | row k n=>exact hh.elim
theorem rH(h:H)(a:Addr):hcs h a []:=fun i v hv=>by simp at hv
theorem rG{h:H}{a:Addr}{x y:List Value}(hx:hcs h a x)(hy:hcs h (a.add x.length) y):hcs h a (x++y):=by
 intro i v hv
 by_cases hi:i<x.length
 ·rw[List.getElem?_append_left hi]at hv;exact hx i v hv
 ·rw[List.getElem?_append_right (by omega)]at hv
  have:=hy _ v hv
  rw[T4]at this
  rwa [show x.length+(i-x.length)=i by omega]at this
theorem AH{h:H}{a:Addr}{v:Value}(hv:hc h a=some v):hcs h a [v]:=by
 intro i u hu
 match i,hu with
 | 0,hu=>simp at hu;subst hu;rw[add_zero];exact hv
theorem Ai6{h:H}{a:Addr}:∀(l:List Sh) (o:Nat) (K:List Ch->Prop),U3 h a o l K->
  ∃cs,oks cs/\B7 cs=TA l/\hcs h (a.add o) (AM cs)/\K cs:=by
 intro l
 induction l with
 | nil=>intro o K hh;exact⟨[],IW,rfl,rH _ _,hh⟩
 | cons s r ih=>
  intro o K hh
  by_cases hs:∃k n,s=.row k n
  ·obtain⟨k,n,rfl⟩:=hs
   obtain⟨ns,hn,hr,h2⟩:=hh
   obtain⟨cs,h3,h4,h5,h6⟩:=ih _ _ h2
   refine⟨.row k n ns::cs,MT hn h3,by simp[B7,TA,Ch.size,Sh.size,h4],?_,h6⟩
   refine rG hr ?_
   rw[T4];simpa[Ch.flat,AA,hn]using h5
  ·have hh':ld1 h (a.add o) s fun x=>U3 h a (o+1) r fun cs=>K (x.chs++cs):=by
    cases s <;> first | exact hh | exact absurd ⟨_,_,rfl⟩ hs
   obtain⟨x,hx,hc1,hxc,h2⟩:=tC hh'
   obtain⟨cs,h3,h4,h5,h6⟩:=ih _ _ h2
   have hok:oks (x.chs++cs):=jY (DV.chs_oks hx) h3
   refine⟨x.chs++cs,hok,?_,?_,h6⟩
   ·rw[AeO,hxc]
    have:s.size=1:=by cases s <;> first | rfl | exact absurd ⟨_,_,rfl⟩ hs
    simp[B7,TA,Ch.size,h4,this]
   ·rw[hxc]
    exact rG (AH hc1) (by rw[T4];simpa[Ch.flat]using h5)
theorem u3{w:World}{a:Addr}{v:Value}(h:hc w.heap a=some v):(load a).run P w=.ok v w:=by
 have:w.cell? a=some v:=h
 simp[this]
theorem u0{w:World}{a:Addr}:∀(vs:List Value) (i:Nat) (acc:Array Value),hcs w.heap (a.add i) vs->
  (loadCellsFrom a i vs.length acc).run P w=.ok (acc++vs.toArray) w:=by
 intro vs
 induction vs with
 | nil=>intro i acc _;simp[loadCellsFrom]
 | cons v r ih=>
  intro i acc h
  have h0:=h 0 v rfl
  rw[add_zero]at h0
  have hr:hcs w.heap (a.add (i+1)) r:=fun j u hu=>by
   have:=h (j+1) u (by simpa using hu)
   rw[T4]at this ⊢
   rwa [show i+1+j=i+(j+1) by omega]
  simp only[List.length_cons,loadCellsFrom,Sem.run_bind,u3 h0,Result.andThen_ok]
  rw[ih (i+1) _ hr]
  simp
theorem jJ{t:TypeId}{h:H}{a:Addr}{K:DV->Prop}(hh:ldT P t h a K):∃x,x.ok/\hcs h a (AM x.chs)/\K x/\
  ∀w:World,hcs w.heap a (AM x.chs)->(loadVar t a).run P w=.ok x.flat w:=by
 unfold ldT at hh
 split at hh
 ·rename_i s hs
  obtain⟨x,hx,hc1,hxc,hK⟩:=tC hh
  refine⟨x,hx,by rw[hxc];exact AH hc1,hK,fun w hw=>?_⟩
  rw[hxc]at hw
  have:=hw 0 x.flat rfl
  rw[add_zero]at this
  unfold loadVar
  simp only[Sem.run_bind,uZ hs,Result.andThen_ok]
  exact u3 this
 ·rename_i l hl
  obtain⟨cs,hok,hsz,hcell,hK⟩:=Ai6 _ _ _ hh
  rw[add_zero]at hcell
  refine⟨.agg cs,hok,hcell,hK,fun w hw=>?_⟩
  obtain⟨_,i,hi,his⟩:=v7 hl
  have hlen:(AM cs).length=i.size:=by rw[HO hok,hsz,his]
  unfold loadVar
  simp only[Sem.run_bind,uY hl,Result.andThen_ok,if_true]
  have hz:(sizeOf t).run P w=.ok i.size w:=E0 (by simp[C5,hi]) w
  rw[hz]
  simp only[Result.andThen_ok,loadCells]
  have:=u0 (P:=P) (w:=w) (a:=a) (AM cs) 0 #[] (by rw[add_zero];exact hw)
  rw[hlen]at this
  rw[this]
  simp[DV.flat]
 ·exact hh.elim
/-! ### Stores -/
theorem AgU(h:H)(a b:Addr)(v:Value):(hc (hs h a v) b).isSome=(hc h b).isSome:=by
 unfold hc hs
 by_cases hb:a.block=b.block
 ·rw[←hb]
  simp only[Array.getElem?_modify]
  cases h1:h[a.block]? with
  | none=>rfl
  | some o=>
   cases o with
   | cells c e fz=>by_cases hs:a.spot.isSome=true <;> by_cases hs':b.spot.isSome=true <;> simp[hs,hs'] <;>
     (by_cases hi:b.off<c.size <;> simp[hi])
   | _=>rfl
 ·simp[Array.getElem?_modify,hb]
theorem Ah2(h:H)(a b:Addr)(v:Value):hf (hs h a v) b=hf h b:=by
 unfold hf hs
 by_cases hb:a.block=b.block
 ·rw[←hb]
  simp only[Array.getElem?_modify]
  cases h1:h[a.block]? with
  | none=>rfl
  | some o=>cases o <;> rfl
 ·simp[Array.getElem?_modify,hb]
theorem AkX{w:World}{a:Addr}{v:Value}(hv:v.oneCell'=true)(h1:(hc w.heap a).isSome=true)(h2:hf w.heap a=false):
  (store a v).run P w=.ok () (w.setCell a v):=by
 obtain⟨u,hu⟩:=Option.isSome_iff_exists.1 h1
 rw[run_store P w a v .plain hv]
 have e1:w.cell? a=some u:=hu
 have e2:w.frozen? a=false:=h2
 simp[e1,e2]
theorem AkV{a:Addr}:∀(vs:List Value) (i:Nat) (w:World),(∀v,v∈vs->v.oneCell'=true)->
  (∀j,j<vs.length->(hc w.heap (a.add (i+j))).isSome=true/\hf w.heap (a.add (i+j))=false)->
  ∃w',(storeCells a vs i).run P w=.ok () w'/\w'.heap=IS w.heap a i vs/\Rest w w'/\w'.drawn=w.drawn:=by
 intro vs
 induction vs with
 | nil=>intro i w _ _;exact⟨w,by simp[storeCells],rfl,Rest.refl w,rfl⟩
 | cons v r ih=>
  intro i w hv AC
  have h0:=AC 0 (by simp)
  rw[Nat.add_zero]at h0
  obtain⟨w',h1,h2,h3,h4⟩:=ih (i+1) (w.setCell (a.add i) v) (fun u hu=>hv u (by simp[hu])) (fun j hj=>by
   have:=AC (j+1) (by simpa using hj)
   rw[Ah1,AgU,Ah2,show i+1+j=i+(j+1) by omega]
   exact this)
  refine⟨w',?_,?_,Rest.trans ⟨rfl,rfl,rfl⟩ h3,h4⟩
  ·simp only[storeCells,Sem.run_bind,AkX (hv v (by simp)) h0.1 h0.2,Result.andThen_ok]
   exact h1
  ·rw[h2];rfl
theorem u5{a:Addr}{vs:List Value}{w:World}(hv:∀v,v∈vs->v.oneCell'=true)(hcn:AC w.heap a vs.length):
  ∃w',(storeCells a vs).run P w=.ok () w'/\w'.heap=hwr w.heap a vs/\Rest w w':=by
 obtain⟨w',h1,h2,h3,_⟩:=AkV (P:=P) (a:=a) vs 0 w hv (fun j hj=>by rw[Nat.zero_add];exact hcn j hj)
 exact⟨w',h1,h2,h3⟩
theorem AkW{t:TypeId}{a:Addr}{d:DV}{sz:Nat}(hd:d.ok)(hsz:C5 P t=some sz)(hn:B7 d.chs=sz){w:World}(hcn:AC w.heap a sz):
  ∃w',(storeVar t a d.flat).run P w=.ok () w'/\w'.heap=hwr w.heap a (AM d.chs)/\Rest w w':=by
 have hoks:=DV.chs_oks hd
 have hlen:(AM d.chs).length=sz:=by rw[HO hoks,hn]
 obtain⟨w',h1,h2,h3⟩:=u5 (P:=P) (a:=a) (vs:=AM d.chs) (w:=w) (AfZ hoks) (by rw[hlen];exact hcn)
 refine⟨w',?_,h2,h3⟩
 unfold storeVar
 simp only[Sem.run_bind,E0 hsz,Result.andThen_ok,DV.cells_flat hd]
 simp only[List.size_toArray,hlen,ne_eq,not_true_eq_false,if_false]
 exact h1
end Go.Vc
end
section
namespace Go.Vc
variable {P:Program}
def PureOk(P:Program)(s:Sem Value)(K:SV->Prop):Prop:=∃x v,SV.rel x v/\K x/\∀w,s.run P w=.ok v w
theorem PureOk.one{s:Sem Value}{K:SV->Prop}{v:Value}(h1:v.oneCell'=true)(hK:K (.dv (.one v)))(hr:∀w,s.run P w=.ok v w):PureOk P s K:=
 ⟨.dv (.one v),v,⟨h1,rfl⟩,hK,hr⟩
theorem PureOk.addr{s:Sem Value}{K:SV->Prop}{p:Addr}(hK:K (.dv (.addr p)))(hr:∀w,s.run P w=.ok (.pointer (some p)) w):PureOk P s K:=
 ⟨.dv (.addr p),_,⟨trivial,rfl⟩,hK,hr⟩
/-! ### Equality of aggregates -/
theorem AfK(w:World){e:TypeId}{k:IntKind}(he:P.underlying e=some (.int k)){j j':IntKind}(hj:j'=j)(a b:List Int)(d:Nat)(n:Nat)(ha:a.length=n)(hb:b.length=n):
  (Op.eqItems (d+1) e 1 (a.map (Value.int j)).toArray (b.map (Value.int j')).toArray (List.range n)).run P w=.ok (a == b) w:=by
 subst hj
 have hag:∀w,(isAgg e).run P w=.ok false w:=fun w=>by unfold isAgg;simp[run_underlying he]
 have gen:∀(m i:Nat),i+m=n->(Op.eqItems (d+1) e 1 (a.map (Value.int j')).toArray (b.map (Value.int j')).toArray (List.range' i m)).run P w=.ok (a.drop i == b.drop i) w:=by
  intro m
  induction m with
  | zero=>
   intro i hi
   rw[List.drop_eq_nil_of_le (by omega),List.drop_eq_nil_of_le (by omega)]
   simp[Op.eqItems]
  | succ m ih=>
   intro i hi
   have h1:i<a.length:=by omega
   have h2:i<b.length:=by omega
   have p1:∀w,(part e (a.map (Value.int j')).toArray (i*1)).run P w=.ok (.int j' a[i]) w:=fun w=>by
    unfold part;simp[hag,h1]
   have p2:∀w,(part e (b.map (Value.int j')).toArray (i*1)).run P w=.ok (.int j' b[i]) w:=fun w=>by
    unfold part;simp[hag,h2]
   rw[List.range'_succ]
   simp only[Op.eqItems,Sem.run_bind,p1,p2,Result.andThen_ok,run_equalIn_int w d e j' k _ _ he]
   have:=ih (i+1) (by omega)
   rw[List.drop_eq_getElem_cons h1,List.drop_eq_getElem_cons h2,List.cons_beq_cons]
   cases hab:a[i]==b[i]
   ·simp only[Bool.not_false,if_true,Sem.run_pure,Bool.false_and]
   ·simp only[Bool.not_true,Bool.false_eq_true,if_false,this,Bool.true_and]
 have:=gen n 0 (by omega)
 simpa[List.range_eq_range']using this
theorem Am1{t:TypeId}{n:Nat}(h:C5 P t=some n):P.cellsOf t=n/\∃i,P.info? t=some i:=by
 unfold C5 at h
 cases hi:P.info? t with
 | none=>simp[hi]at h
 | some i=>simp[hi]at h;exact⟨by simp[Program.cellsOf,hi,h],i,rfl⟩
theorem pX(w:World){t e:TypeId}{n:Nat}{k j j':IntKind}(hu:P.underlying t=some (.array n e))(he:P.underlying e=some (.int k))(hz:C5 P e=some 1)
  (hj:j'=j) (a b:List Int) (ha:a.length=n) (hb:b.length=n) (d:Nat):
  (Op.equalIn (d+2) t (.agg (a.map (Value.int j)).toArray) (.agg (b.map (Value.int j')).toArray)).run P w=.ok (a == b) w:=by
 obtain⟨hc1,i,hi⟩:=Am1 hz
 rw[run_equalIn_array (P:=P) w (d+1) _ _ hu hi,hc1]
 exact AfK w he hj a b d n ha hb
theorem t5{w:World}{t e:TypeId}{n:Nat}(hu:P.underlying t=some (.array n e))(hz:C5 P t=some n){pre xs post:List Value}(hx:xs.length=n):
  (part t (pre++xs++post).toArray pre.length).run P w=.ok (.agg xs.toArray) w:=by
 unfold part
 have hag:∀w,(isAgg t).run P w=.ok true w:=fun w=>by unfold isAgg;simp[run_underlying hu]
 simp only[Sem.run_bind,hag,Result.andThen_ok,if_true,E0 hz,Sem.run_pure]
 congr 2
 apply Array.toList_inj.1
 simp[←hx]
theorem MV{w:World}{t:TypeId}(hag:∀w,(isAgg t).run P w=.ok false w){pre post:List Value}{v:Value}:
  (part t (pre++[v]++post).toArray pre.length).run P w=.ok v w:=by
 unfold part
 simp[hag]
theorem qG{t:TypeId}{x y:Ch}{b:Bool}(h:UL P t x y=some b)(hx:x.ok)(hy:y.ok):x.size=y.size/\∃u v,
  (∀(pre post:List Value) (w:World),(part t (pre++x.flat++post).toArray pre.length).run P w=.ok u w)/\
  (∀(pre post:List Value) (w:World),(part t (pre++y.flat++post).toArray pre.length).run P w=.ok v w)/\
  ∀(d:Nat) (w:World),(Op.equalIn (d+2) t u v).run P w=.ok b w:=by
 unfold UL at h
 split at h
 ·rename_i k a k' a'
  split at h
  ·rename_i k'' hk hu
   simp only[Option.some.injEq]at h
   have hk':k=k':=by simpa using hk
   subst hk'
   have hag:∀w,(isAgg t).run P w=.ok false w:=fun w=>by unfold isAgg;simp[run_underlying hu]
   exact⟨rfl,_,_,fun _ _ _=>MV hag,fun _ _ _=>MV hag,fun d w=>by rw[←h];exact run_equalIn_int w (d+1) t _ _ _ _ hu⟩
  ·simp at h
 ·split at h
  ·rename_i hu
   simp only[Option.some.injEq]at h
   have hag:∀w,(isAgg t).run P w=.ok false w:=fun w=>by unfold isAgg;simp[run_underlying hu]
   exact⟨rfl,_,_,fun _ _ _=>MV hag,fun _ _ _=>MV hag,fun d w=>by rw[←h];exact run_equalIn_bool' w (d+1) t _ _ hu⟩
  ·simp at h
 ·split at h
  ·rename_i hu
   simp only[Option.some.injEq]at h
   have hag:∀w,(isAgg t).run P w=.ok false w:=fun w=>by unfold isAgg;simp[run_underlying hu]
   exact⟨rfl,_,_,fun _ _ _=>MV hag,fun _ _ _=>MV hag,fun d w=>by rw[←h];exact run_equalIn_string w (d+1) t _ _ hu⟩
  ·simp at h
 ·rename_i k n a k' n' a'
  split at h
  ·rename_i m e sz hu hsz
   split at h
   ·rename_i q he hz hk hn
    simp only[Option.some.injEq]at h
    have hk':k=k':=by simpa using hk
    subst hk'
    simp only[Bool.and_eq_true]at hn
    have e1:n=m:=Nat.eq_of_beq_eq_true hn.1.1
    have e2:n'=m:=Nat.eq_of_beq_eq_true hn.1.2
    have e3:sz=m:=Nat.eq_of_beq_eq_true hn.2
    simp only[Ch.ok]at hx hy
    refine⟨by simp[Ch.size,e1,e2],_,_,fun pre post w=>t5 hu (by rw[hsz,e3]) (by simp[Ch.flat,AA,hx,e1]),
     fun pre post w=>t5 hu (by rw[hsz,e3]) (by simp[Ch.flat,AA,hy,e2]),fun d w=>?_⟩
    rw[←h]
    exact pX w hu he hz rfl _ _ (by rw[hx,e1]) (by rw[hy,e2]) d
   ·simp at h
  ·simp at h
 ·simp at h
theorem AlY(w:World)(d:Nat):∀(fs:List Field) (xs ys:List Ch) (off:Nat) (preX preY:List Value) (r:Bool),preX.length=off->preY.length=off->
  oks xs->oks ys->LO P off fs xs ys=some r->
  (Op.eqFields (d+2) (preX++AM xs).toArray (preY++AM ys).toArray fs).run P w=.ok r w:=by
 intro fs
 induction fs with
 | nil=>
  intro xs ys off preX preY r hX hY hox hoy he
  cases xs <;> cases ys <;> simp[LO]at he
  subst he;simp[Op.eqFields]
 | cons f fs ih=>
  intro xs ys off preX preY r hX hY hox hoy he
  cases xs with
  | nil=>simp[LO]at he
  | cons x xs=>
  cases ys with
  | nil=>simp[LO]at he
  | cons y ys=>
  obtain⟨hx1,hx2⟩:=EH hox
  obtain⟨hy1,hy2⟩:=EH hoy
  simp only[LO]at he
  split at he
  ·rename_i b hn hof hfe
   have hoff:f.offset=off:=Nat.eq_of_beq_eq_true hof
   obtain⟨hsz,u,v,pu,pv,hq⟩:=qG hfe hx1 hy1
   cases hrec:LO P (off+x.size) fs xs ys with
   | none=>simp[hrec]at he
   | some s=>
    simp only[hrec,Option.map_some,Option.some.injEq]at he
    have hn' : f.name ≠ "_" := by simpa using hn
    have h1:=pu preX (AM xs) w
    have h2:=pv preY (AM ys) w
    rw[hX]at h1;rw[hY]at h2
    have h4:=ih xs ys _ (preX++x.flat) (preY++y.flat) s (by simp[hX,W6 hx1]) (by simp[hY,W6 hy1,hsz]) hx2 hy2 hrec
    simp only[AM,←List.append_assoc]at *
    simp only[Op.eqFields,if_pos hn',Sem.run_bind,hoff,h1,h2,hq,Result.andThen_ok]
    cases b
    ·simp[←he]
    ·simp only[Bool.not_true,Bool.false_eq_true,if_false,h4,←he,Bool.true_and]
  ·simp at he
theorem oT{t:TypeId}{xs ys:List Ch}{b:Bool}(hx:oks xs)(hy:oks ys)(h:WF P t xs ys=some b)(op:BinOp)(x y:Operand)(w:World):
  (eqGuard op t x y (.agg (AM xs).toArray) (.agg (AM ys).toArray)).run P w=.ok () w/\
  (Op.equalIn 10000 t (.agg (AM xs).toArray) (.agg (AM ys).toArray)).run P w=.ok b w:=by
 unfold WF at h
 split at h
 ·rename_i n e hg hu
  refine⟨run_eqGuard_agg w op t x y _ _ hg,?_⟩
  split at h
  ·rename_i cx cy
   obtain⟨hsz,u,v,pu,pv,hq⟩:=qG h (EH hx).1 (EH hy).1
   have h1:=pu [] [] w
   have h2:=pv [] [] w
   have hag:∀w,(isAgg t).run P w=.ok true w:=fun w=>by unfold isAgg;simp[run_underlying hu]
   -- the parts are the whole
   unfold UL at h
   split at h <;> try (first | (simp at h;done) | (split at h <;> simp_all;done))
   rename_i k n1 a k' n' a'
   split at h
   ·rename_i m e' sz hu' hsz'
    rw[hu]at hu'
    simp only[Option.some.injEq,TypeDesc.array.injEq]at hu'
    obtain⟨rfl,rfl⟩:=hu'
    split at h
    ·rename_i q he hz hk hn
     simp only[Option.some.injEq]at h
     have hk':k=k':=by simpa using hk
     subst hk'
     simp only[Bool.and_eq_true]at hn
     have e1:=Nat.eq_of_beq_eq_true hn.1.1
     have e2:=Nat.eq_of_beq_eq_true hn.1.2
     have o1:a.length=n1:=(EH hx).1
     have o2:a'.length=n':=(EH hy).1
     simp only[AM,Ch.flat,AA,List.append_nil]
     rw[←h]
     exact pX w hu he hz rfl _ _ (by omega) (by omega) 9998
    ·simp at h
   ·simp at h
  ·simp at h
 ·rename_i fs hg hu
  refine⟨run_eqGuard_agg w op t x y _ _ hg,?_⟩
  split at h
  ·rename_i hst
   have hf:P.fieldsOf t=fs:=by simp[Program.fieldsOf,hu]
   have:=run_equalIn_struct (P:=P) w 9999 t (AM xs).toArray (AM ys).toArray (by rw[hf];exact hu) hst
   rw[hf]at this
   rw[show (10000:Nat)=9999+1 from rfl,this]
   exact AlY w 9997 fs.toList xs ys 0 [] [] b rfl rfl hx hy h
  ·simp at h
 ·simp at h
/-! ### Binary operations -/
theorem YJ{t:TypeId}{x y:Value}{b:Bool}(hb:binOp .eql t x y=(do pure (.bool (←Op.equal t x y))))(he:∀w,(Op.equalIn (9999+1) t x y).run P w=.ok b w)(w:World):(binOp .eql t x y).run P w=.ok (.bool b) w:=by
 rw[hb]
 simp only[Op.equal,Sem.run_bind]
 rw[show Op.maxDepth=9999+1 from rfl,he w]
 rfl
theorem YK{t:TypeId}{x y:Value}{b:Bool}(hb:binOp .neq t x y=(do pure (.bool (!(←Op.equal t x y)))))(he:∀w,(Op.equalIn (9999+1) t x y).run P w=.ok b w)(w:World):(binOp .neq t x y).run P w=.ok (.bool (!b)) w:=by
 rw[hb]
 simp only[Op.equal,Sem.run_bind]
 rw[show Op.maxDepth=9999+1 from rfl,he w]
 rfl
theorem WZ{t e:TypeId}(hu:P.underlying t=some (.pointer e))(a:Option Addr)(d:Nat)(w:World):(Op.equalIn (d+1) t (.pointer a) (.pointer none)).run P w=.ok a.isNone w:=by
 cases a <;> simp only[Op.equalIn,Sem.run_bind,run_underlying hu,Result.andThen_ok] <;> rfl
theorem pW{t e:TypeId}(hu:P.underlying t=some (.slice e))(a:Option Addr)(l c:Nat)(d:Nat)(w:World):(Op.equalIn (d+1) t (.slice a l c) (.slice none 0 0)).run P w=.ok a.isNone w:=by
 cases a <;> simp only[Op.equalIn,Sem.run_bind,run_underlying hu,Result.andThen_ok] <;> rfl
theorem pV{t:TypeId}{ms:Array (String×TypeId)}(hu:P.underlying t=some (.interface ms))(v:Value)(hv:HS v=true)(d:Nat)(w:World):(Op.equalIn (d+1) t v .nilIface).run P w=.ok (P3 v) w:=by
 cases v <;> simp only[HS]at hv <;> try (simp at hv;done)
 all_goals simp only[Op.equalIn,Sem.run_bind,run_underlying hu,Result.andThen_ok] <;> rfl
theorem xQ{op:BinOp}{t:TypeId}{dx dy:DV}{K:SV->Prop}(hx:dx.ok)(hy:dy.ok)(X Y:Operand)(h:ZF P op t dx dy (MN Y) K):
  PureOk P (do eqGuard op t X Y dx.flat dy.flat;binOp op t dx.flat dy.flat) K:=by
 unfold ZF at h
 split at h
 ·rename_i k a k' b
  simp only[DV.flat,eqGuard_at_int]
  by_cases hk:k=k'
  case neg=>
   have hk':(k == k')=false:=by simpa using hk
   cases op <;> simp only[hk']at h <;> try exact h.elim
   ·exact .one rfl h.2 fun w=>by simp[binOp,Op.shift,Int.not_lt.2 h.1]
   ·exact .one rfl h.2 fun w=>by simp[binOp,Op.shift,Int.not_lt.2 h.1]
  subst hk
  cases op <;> simp only[beq_self_eq_true]at h
  case shl=>exact .one rfl h.2 fun w=>by simp[binOp,Op.shift,Int.not_lt.2 h.1]
  case shr=>exact .one rfl h.2 fun w=>by simp[binOp,Op.shift,Int.not_lt.2 h.1]
  case quo=>exact .one rfl h.2 fun w=>by simp[binOp,Op.intDiv,h.1]
  case rem=>exact .one rfl h.2 fun w=>by simp[binOp,Op.intDiv,h.1]
  case add=>exact .one rfl h fun w=>by simp[binOp,Op.intArith]
  case sub=>exact .one rfl h fun w=>by simp[binOp,Op.intArith]
  case mul=>exact .one rfl h fun w=>by simp[binOp,Op.intArith]
  case and=>exact .one rfl h fun w=>by simp[binOp,intBits_and]
  case or=>exact .one rfl h fun w=>by simp[binOp,intBits_or]
  case xor=>exact .one rfl h fun w=>by simp[binOp,intBits_xor]
  case andNot=>exact .one rfl h fun w=>by simp[binOp,intBits_andNot]
  case eql=>exact .one rfl h fun w=>by simp[binOp,Op.intCmp]
  case neq=>exact .one rfl h fun w=>by simp[binOp,Op.intCmp]
  case lss=>exact .one rfl h fun w=>by simp[binOp,Op.intCmp,AD,BQ]
  case leq=>exact .one rfl h fun w=>by simp[binOp,Op.intCmp,AD,BQ]
  case gtr=>exact .one rfl h fun w=>by simp[binOp,Op.intCmp,AD,BQ]
  case geq=>exact .one rfl h fun w=>by simp[binOp,Op.intCmp,AD,BQ]
 ·rename_i a b
  simp only[DV.flat,eqGuard_at_bool]
  split at h
  ·have hu:P.underlying t=some .bool:=by assumption
   exact .one rfl h fun w=>by simp[binOp,Op.equal,Op.maxDepth,run_equalIn_bool' w 9999 t a b hu]
  ·have hu:P.underlying t=some .bool:=by assumption
   exact .one rfl h fun w=>by simp[binOp,Op.equal,Op.maxDepth,run_equalIn_bool' w 9999 t a b hu]
  ·exact h.elim
 ·rename_i a b
  simp only[DV.flat,eqGuard_at_string]
  cases op <;> simp only at h <;> try exact h.elim
  case eql=>exact .one rfl h fun w=>by simp[binOp,Op.stringOp]
  case neq=>exact .one rfl h fun w=>by simp[binOp,Op.stringOp]
  case add=>exact .one rfl h.2 fun w=>by have:=Int.not_lt.2 h.1;simp only[binOp,Op.stringOp,gt_iff_lt,if_neg this,pure_bind,Sem.run_pure]
 ·rename_i a
  simp only[DV.flat,eqGuard_at_pointer]
  split at h
  ·rename_i hu;exact .one rfl h (YJ rfl (WZ hu a 9999))
  ·rename_i hu;exact .one rfl h (YK rfl (WZ hu a 9999))
  ·exact h.elim
 ·rename_i a
  simp only[DV.flat,eqGuard_at_pointer]
  split at h
  ·rename_i hu;exact .one rfl h (YJ rfl (WZ hu (some a) 9999))
  ·rename_i hu;exact .one rfl h (YK rfl (WZ hu (some a) 9999))
  ·exact h.elim
 ·rename_i a l c
  simp only[DV.flat,eqGuard_at_slice]
  split at h
  ·rename_i hu;exact .one rfl h (YJ rfl (pW hu a l c 9999))
  ·rename_i hu;exact .one rfl h (YK rfl (pW hu a l c 9999))
  ·exact h.elim
 ·rename_i v
  have hc:MN Y=true->∃c,Y=.const c:=fun h=>by cases Y <;> simp[MN]at h;exact⟨_,rfl⟩
  have hg:∀op,HS v=true->MN Y=true->eqGuard op t X Y v .nilIface=pure ():=fun op hi hy=>by
   obtain⟨c,rfl⟩:=hc hy
   cases v <;> simp only[HS]at hi <;> try (simp at hi;done)
   ·exact eqGuard_at_iface ..
   ·exact eqGuard_nil_constR ..
  split at h
  ·rename_i hy hu
   simp only[DV.flat,hg _ h.1 hy]
   refine .one rfl h.2 (YJ ?_ (pV hu v h.1 9999))
   have:=h.1
   cases v <;> simp only[HS]at this <;> first | rfl | (simp at this;done)
  ·rename_i hy hu
   simp only[DV.flat,hg _ h.1 hy]
   refine .one rfl h.2 (YK ?_ (pV hu v h.1 9999))
   have:=h.1
   cases v <;> simp only[HS]at this <;> first | rfl | (simp at this;done)
  ·exact h.elim
 ·rename_i xs ys
  cases op <;> simp only at h <;> try exact h.elim
  ·split at h
   ·rename_i b hb
    refine .one rfl h fun w=>?_
    obtain⟨h1,h2⟩:=oT (P:=P) hx hy hb .eql X Y w
    simp only[DV.flat,Sem.run_bind,h1,Result.andThen_ok,run_eql_struct,h2]
   ·exact h.elim
  ·split at h
   ·rename_i b hb
    refine .one rfl h fun w=>?_
    obtain⟨h1,h2⟩:=oT (P:=P) hx hy hb .neq X Y w
    simp only[DV.flat,Sem.run_bind,h1,Result.andThen_ok,run_neq_struct,h2]
   ·exact h.elim
 ·exact h.elim
theorem yF{op:UnOp}{dx:DV}{K:SV->Prop}(h:Dun op dx K):PureOk P (Op.unary op dx.flat) K:=by
 unfold Dun at h
 split at h
 ·exact .one rfl h fun w=>by simp[DV.flat,Op.unary]
 ·exact .one rfl h fun w=>by simp[DV.flat,Op.unary,Op.intArith]
 ·exact .one rfl h fun w=>by simp[DV.flat,Op.unary,intBits_xor]
 ·exact h.elim
/-! ### Parts -/
theorem pR:∀(cs:List Ch) (n:Nat) (r:List Ch),J4 cs n=some r->oks cs->oks r/\∃pre,AM cs=pre++AM r/\pre.length=n:=by
 intro cs
 induction cs with
 | nil=>
  intro n r h _
  simp only[J4]at h
  cases hb:Nat.beq n 0 with
  | false=>simp[hb]at h
  | true=>simp[hb]at h;subst h;have:=Nat.eq_of_beq_eq_true hb;exact⟨IW,[],rfl,by simp[this]⟩
 | cons c r ih=>
  intro n q h hok
  simp only[J4]at h
  cases hb:Nat.beq n 0 with
  | true=>simp[hb]at h;subst h;have:=Nat.eq_of_beq_eq_true hb;exact⟨hok,[],rfl,by simp[this]⟩
  | false=>
   simp only[hb,cond_false]at h
   cases hl:Nat.ble c.size n with
   | false=>simp[hl]at h
   | true=>
    simp only[hl,cond_true]at h
    have hle:=Nat.le_of_ble_eq_true hl
    obtain⟨h1,pre,h2,h3⟩:=ih _ _ h (EH hok).2
    exact⟨h1,c.flat++pre,by simp[AM,h2],by simp[W6 (EH hok).1,h3];omega⟩
theorem vS:∀(cs:List Ch) (n:Nat) (l:List Ch),LQ cs n=some l->oks cs->oks l/\B7 l=n/\∃post,AM cs=AM l++post:=by
 intro cs
 induction cs with
 | nil=>
  intro n r h _
  simp only[LQ]at h
  cases hb:Nat.beq n 0 with
  | false=>simp[hb]at h
  | true=>simp[hb]at h;subst h;have:=Nat.eq_of_beq_eq_true hb;exact⟨IW,by simp[this,B7],[],rfl⟩
 | cons c r ih=>
  intro n q h hok
  simp only[LQ]at h
  cases hb:Nat.beq n 0 with
  | true=>simp[hb]at h;subst h;have:=Nat.eq_of_beq_eq_true hb;exact⟨IW,by simp[this,B7],AM (c::r),by simp[AM]⟩
  | false=>
   simp only[hb,cond_false]at h
   cases hl:Nat.ble c.size n with
   | false=>simp[hl]at h
   | true=>
    simp only[hl,cond_true]at h
    have hle:=Nat.le_of_ble_eq_true hl
    cases hr:LQ r (n-c.size) with
    | none=>simp[hr]at h
    | some l=>
     simp[hr]at h;subst h
     obtain⟨h1,h2,post,h3⟩:=ih _ _ hr (EH hok).2
     exact⟨MT (EH hok).1 h1,by simp[B7,h2];omega,post,by simp[AM,h3]⟩
theorem AjJ{cs l:List Ch}{off n:Nat}(h:X7 cs off n=some l)(hok:oks cs):oks l/\B7 l=n/\∃pre post,AM cs=pre++AM l++post/\pre.length=off:=by
 unfold X7 at h
 cases hd:J4 cs off with
 | none=>simp[hd]at h
 | some r=>
  simp[hd]at h
  obtain⟨h1,pre,h2,h3⟩:=pR _ _ _ hd hok
  obtain⟨h4,h5,post,h6⟩:=vS _ _ _ h h1
  exact⟨h4,h5,pre,post,by rw[h2,h6];simp,h3⟩
theorem AjT{cs xs l:List Ch}{off:Nat}(h:YB cs off xs=some l)(hok:oks cs)(hx:oks xs):
  oks l/\AM l=(AM cs).take off++AM xs++(AM cs).drop (off+B7 xs)/\off+B7 xs≤(AM cs).length:=by
 unfold YB at h
 cases ha:LQ cs off with
 | none=>simp[ha]at h
 | some a=>
  cases hb:J4 cs (off+B7 xs) with
  | none=>simp[ha,hb]at h
  | some b=>
   simp[ha,hb]at h
   obtain⟨h1,h2,post,h3⟩:=vS _ _ _ ha hok
   obtain⟨h4,pre,h5,h6⟩:=pR _ _ _ hb hok
   have ho:oks (a++(xs++b)):=jY h1 (jY hx h4)
   subst h
   refine⟨ho,?_,by rw[h5];simp[h6]⟩
   have e1:(AM cs).take off=AM a:=by rw[h3,List.take_left' (by rw[HO h1,h2])]
   have e2:(AM cs).drop (off+B7 xs)=AM b:=by rw[h5,List.drop_left' h6]
   rw[e1,e2];simp[UO]
/-! ### Composite literals -/
theorem Ag4(off:Nat):∀(l:List Value) (i:Nat) (cells:Array Value),off+i+l.length≤cells.size->
  ((l.zipIdx i).foldl (fun cs (x:Value×Nat)=>cs.setIfInBounds (off+x.2) x.1) cells).toList =
   cells.toList.take (off+i)++l++cells.toList.drop (off+i+l.length):=by
 intro l
 induction l with
 | nil=>intro i cells _;simp
 | cons c r ih=>
  intro i cells hle
  simp only[List.length_cons]at hle
  simp only[List.zipIdx_cons,List.foldl_cons]
  rw[ih (i+1) _ (by simp;omega)]
  simp only[Array.toList_setIfInBounds,List.length_cons]
  rw[show off+(i+1)=off+i+1 by omega]
  have hlt:off+i<cells.toList.length:=by simp;omega
  rw[List.take_succ_eq_append_getElem (by simpa using hlt),List.take_set_of_le (by omega),List.getElem_set_self,List.drop_set_of_lt (by omega)]
  simp[show off+i+1+r.length=off+i+(r.length+1) by omega]
theorem qI{place:Nat->Option (Nat×Nat)}{cells:Array Value}{i off sz:Nat}{v:Value}{rest:List (Nat×Value)}(hp:place i=some (off,sz))(hv:v.cells.size=sz)(hle:off+sz≤cells.size):
  ∃cells':Array Value,cells'.toList=cells.toList.take off++v.cells.toList++cells.toList.drop (off+sz)/\Instr.fill place cells ((i,v)::rest)=Instr.fill place cells' rest:=by
 refine⟨v.cells.zipIdx.foldl (fun cs (x:Value×Nat)=>cs.setIfInBounds (off+x.2) x.1) cells,?_,?_⟩
 ·rw[←Array.foldl_toList,Array.toList_zipIdx,Ag4 off v.cells.toList 0 cells (by simp;omega)]
  simp[hv]
 ·simp only[Instr.fill,hp]
  rw[if_neg (by simp;omega)]
theorem qH{place:Nat->Option (Nat×Nat)}{isRow:Bool}:∀(parts:List (Nat×SV)) (vals:List (Nat×Value)) (cs l:List Ch) (cells:Array Value),
  parts.length=vals.length->(∀(i:Nat) (p:Nat×SV) (q:Nat×Value),parts[i]?=some p->vals[i]?=some q->p.1=q.1/\p.2.rel q.2)->
  GZ place isRow parts cs=some l->oks cs->cells.toList=AM cs->oks l/\∃cells':Array Value,Instr.fill place cells vals=some cells'/\cells'.toList=AM l:=by
 intro parts
 induction parts with
 | nil=>
  intro vals cs l cells hlen _ h hok hc
  cases vals with
  | nil=>simp[GZ]at h;subst h;exact⟨hok,cells,rfl,hc⟩
  | cons _ _=>simp at hlen
 | cons p parts ih=>
  intro vals cs l cells hlen hrel h hok hc
  cases vals with
  | nil=>simp at hlen
  | cons q vals=>
  obtain⟨i,sv⟩:=p
  obtain⟨i',v⟩:=q
  obtain⟨he,hr⟩:=hrel 0 _ _ rfl rfl
  simp only at he hr
  subst he
  cases sv with
  | un=>simp[GZ]at h
  | nd=>simp[GZ]at h
  | tup _=>simp[GZ]at h
  | dv x=>
   obtain⟨hx,rfl⟩:=hr
   simp only[GZ]at h
   cases hp:place i with
   | none=>simp[hp]at h
   | some os=>
    obtain⟨off,sz⟩:=os
    simp only[hp]at h
    have hxs:=DV.chs_oks hx
    have hcl:=DV.cells_flat hx
    have next:∀cs',oks cs'->AM cs'=(AM cs).take off++AM x.chs++(AM cs).drop (off+sz)->B7 x.chs=sz->off+sz≤(AM cs).length->GZ place isRow parts cs'=some l->
      oks l/\∃cells':Array Value,Instr.fill place cells ((i,x.flat)::vals)=some cells'/\cells'.toList=AM l:=by
     intro cs' hok' hfl hsz hle hf
     have hcs:x.flat.cells.size=sz:=by rw[hcl];simp[HO hxs,hsz]
     obtain⟨cells',h1,h2⟩:=qI (rest:=vals) hp hcs (cells:=cells) (by rw[←Array.length_toList,hc];exact hle)
     rw[h2]
     refine ih vals cs' l cells' (by simpa using hlen) (fun j p q h3 h4=>hrel (j+1) p q (by simpa using h3) (by simpa using h4)) hf hok' ?_
     rw[h1,hfl,hc,hcl]
    split at h
    ·rename_i hsz
     have hsz:=Nat.eq_of_beq_eq_true hsz
     split at h
     ·rename_i h1
      have h1:=Nat.eq_of_beq_eq_true h1
      cases A3:j9 cs off x.chs with
      | none=>simp[A3]at h
      | some cs'=>
       simp only[A3,Option.bind_some]at h
       unfold j9 at A3
       split at A3
       ·rename_i k n ns k' m hxc
        split at A3
        ·rename_i hk hlt
         simp only[Option.some.injEq]at A3
         have hk:k=k':=by simpa using hk
         have hlt:off<n:=Nat.le_of_ble_eq_true hlt
         subst hk
         have hn:ns.length=n:=(EH hok).1
         subst A3
         refine next _ (MT (by simp[Ch.ok,hn]) IW) ?_ hsz (by simp[AM,Ch.flat,AA,hn];omega) h
         rw[hxc]
         simp only[AM,Ch.flat,AA,List.append_nil,h1]
         rw[List.map_set]
         have hlt':off<(ns.map (Value.int k)).length:=by simp[hn,hlt]
         rw[List.set_eq_take_append_cons_drop,if_pos hlt']
         simp
        ·simp at A3
       ·simp at A3
     ·simp at h
    ·rename_i hsz
     have hsz:=Nat.eq_of_beq_eq_true hsz
     cases A3:YB cs off x.chs with
     | none=>simp[A3]at h
     | some cs'=>
      simp only[A3,Option.bind_some]at h
      obtain⟨h1,h2,h3⟩:=AjT A3 hok hxs
      rw[hsz]at h2 h3
      exact next cs' h1 h2 hsz h3 h
    ·simp at h
/-! ### Zero values -/
theorem AmL{a b:Value}(h:veq a b=true):a=b:=by
 unfold veq at h
 split at h <;> try (first | rfl | (simp at h;done))
 ·split at h
  ·rename_i hk
   simp at h hk
   rw[hk,h]
  ·simp at h
 ·simp at h;rw[h]
 ·rename_i a b
  split at h
  ·rename_i ha hb
   congr 1
   cases a;cases b
   simp only at ha hb
   congr 1
   exact Array.toList_inj.1 (by rw[ha,hb])
  ·simp at h
theorem Y8:∀{a b:List Value},LR a b=true->a=b
 | [],[],_=>rfl
 | [],_::_,h=>by simp[LR]at h
 | _::_,[],h=>by simp[LR]at h
 | x::a,y::b,h=>by
  simp only[LR]at h
  split at h
  ·rename_i hv;rw[AmL hv,Y8 h]
  ·simp at h
theorem lE(s:Sh):s.zero.ok:=by cases s <;> simp[Sh.zero,Ch.ok,AB,Value.oneCell']
theorem TH{t:TypeId}{cs:List Ch}(h:II P t=some cs):oks cs/\∃i z,P.info? t=some i/\i.zero=some z/\z.cells.toList=AM cs:=by
 unfold II at h
 cases hi:P.info? t with
 | none=>simp[hi]at h
 | some i=>
  simp only[hi,Option.bind_some]at h
  split at h
  ·rename_i z l hz _
   split at h
   ·rename_i hv
    simp at h;subst h
    refine⟨fun c hc=>?_,i,z,rfl,hz,(Y8 hv).symm⟩
    obtain⟨s,_,rfl⟩:=List.mem_map.1 hc
    exact lE s
   ·simp at h
  ·rename_i z s hz _
   split at h
   ·rename_i hv
    simp at h;subst h
    refine⟨MT (lE s) IW,i,z,rfl,hz,?_⟩
    rw[←Y8 hv];simp[AM]
   ·simp at h
  ·simp at h
theorem MZ{t:TypeId}{i:TypeInfo}{z:Value}(h:P.info? t=some i)(hz:i.zero=some z)(w:World):(zeroValue t).run P w=.ok z w:=by
 unfold zeroValue
 simp[YL h,hz]
theorem xS{t:TypeId}{parts:List (Nat×SV)}{vals:Array (Nat×Value)}{K:SV->Prop}(hlen:parts.length=vals.toList.length)
  (hrel:∀(i:Nat) (p:Nat×SV) (q:Nat×Value),parts[i]?=some p->vals.toList[i]?=some q->p.1=q.1/\p.2.rel q.2) (h:VZ P t parts K):PureOk P (Instr.build t vals) K:=by
 unfold VZ at h
 split at h
 ·rename_i fs z hu hz
  obtain⟨hok,i,zv,hi,hzv,hzc⟩:=TH hz
  split at h
  ·rename_i pl hpl
   split at h
   ·rename_i cs hf
    obtain⟨h1,cells',h2,h3⟩:=qH parts vals.toList z cs zv.cells hlen hrel hf hok hzc
    refine⟨.dv (.agg cs),.agg cells',⟨h1,?_⟩,h,fun w=>run_build w t vals cells' ?_⟩
    ·simp only[DV.flat];congr 1;exact Array.toList_inj.1 (by rw[h3])
    ·have h2':Instr.fill (fun x=>pl.toArray[x]?) zv.cells vals.toList=some cells':=by simpa using h2
     simp only[Program.built,hi,hu,hzv,hpl,h2']
   ·exact h.elim
  ·exact h.elim
 ·rename_i n e z hu hz
  obtain⟨hok,i,zv,hi,hzv,hzc⟩:=TH hz
  split at h
  ·rename_i ie hie
   split at h
   ·rename_i cs hf
    obtain⟨h1,cells',h2,h3⟩:=qH parts vals.toList z cs zv.cells hlen hrel hf hok hzc
    refine⟨.dv (.agg cs),.agg cells',⟨h1,?_⟩,h,fun w=>run_build w t vals cells' ?_⟩
    ·simp only[DV.flat];congr 1;exact Array.toList_inj.1 (by rw[h3])
    ·simp only[Program.built,hi,hu,hzv,hie,h2]
   ·exact h.elim
  ·exact h.elim
 ·exact h.elim
/-! ### Bounds,indexes,fields -/
def IV:Option Int->Option Value->Prop
 | none,none=>True
 | some i,some v=>∃k,v=.int k i
 | _,_=>False
theorem IZ{k:IntKind}{i:Int}{y:Nat}(code:BoundsCode)(h0:0≤i)(h1:i≤y)(w:World):(Instr.sliceBound (.int k i) y code).run P w=.ok i.toNat w:=by
 unfold Instr.sliceBound
 simp[asIntOf,h0,h1]
theorem ZG{lo hi mx:Option Int}{lo' hi' mx':Option Value}{len cap:Nat}{K:Nat->Nat->Nat->Prop}(hl:IV lo lo')(hh:IV hi hi')(hm:IV mx mx')(h:TI lo hi mx len cap K):
  ∃a b m,K a b m/\∀(s:Bool) (w:World),(Instr.sliceBounds s len cap lo' hi' mx').run P w=.ok (a,b,m) w:=by
 unfold TI at h
 split at h
 ·cases lo' <;> cases hi' <;> cases mx' <;> simp only[IV]at hl hh hm
  exact⟨_,_,_,h,fun s w=>by simp[Instr.sliceBounds]⟩
 ·rename_i l
  cases lo' <;> cases hi' <;> cases mx' <;> simp only[IV]at hl hh hm
  obtain⟨k,rfl⟩:=hl
  exact⟨_,_,_,h.2.2,fun s w=>by simp[Instr.sliceBounds,IZ _ h.1 h.2.1]⟩
 ·rename_i x
  cases lo' <;> cases hi' <;> cases mx' <;> simp only[IV]at hl hh hm
  obtain⟨k,rfl⟩:=hh
  exact⟨_,_,_,h.2.2,fun s w=>by simp[Instr.sliceBounds,IZ _ h.1 h.2.1]⟩
 ·rename_i l x
  cases lo' <;> cases hi' <;> cases mx' <;> simp only[IV]at hl hh hm
  obtain⟨k,rfl⟩:=hl
  obtain⟨k',rfl⟩:=hh
  obtain⟨h1,h2,h3,h4⟩:=h
  have e:l≤(x.toNat:Int):=by omega
  have e0:0≤x:=by omega
  exact⟨_,_,_,h4,fun s w=>by simp[Instr.sliceBounds,IZ _ h1 e,IZ _ e0 h3]⟩
 ·rename_i l x m
  cases lo' <;> cases hi' <;> cases mx' <;> simp only[IV]at hl hh hm
  obtain⟨k,rfl⟩:=hl
  obtain⟨k',rfl⟩:=hh
  obtain⟨k'',rfl⟩:=hm
  obtain⟨h1,h2,h3,h3',h4⟩:=h
  have e:l≤(x.toNat:Int):=by omega
  have e0:0≤x:=by omega
  have e1:x≤(m.toNat:Int):=by omega
  have e2:0≤m:=by omega
  exact⟨_,_,_,h4,fun s w=>by simp[Instr.sliceBounds,IZ _ h1 e,IZ _ e0 e1,IZ _ e2 h3']⟩
 ·rename_i x m
  cases lo' <;> cases hi' <;> cases mx' <;> simp only[IV]at hl hh hm
  obtain⟨k',rfl⟩:=hh
  obtain⟨k'',rfl⟩:=hm
  obtain⟨h2,h3,h3',h4⟩:=h
  have e1:x≤(m.toNat:Int):=by omega
  have e2:0≤m:=by omega
  exact⟨_,_,_,h4,fun s w=>by simp[Instr.sliceBounds,IZ _ h2 e1,IZ _ e2 h3']⟩
 ·exact h.elim
theorem yE{t:TypeId}{x:SV}{xv:Value}{lo hi mx:Option Int}{lo' hi' mx':Option Value}{K:SV->Prop}(hx:x.rel xv)(hl:IV lo lo')(hh:IV hi hi')(hm:IV mx mx')
  (h:ZQ P t x lo hi mx K):PureOk P (Instr.sliceAt t xv lo' hi' mx') K:=by
 unfold ZQ at h
 split at h
 ·rename_i e p l c hu
  obtain⟨_,rfl⟩:=hx
  split at h
  ·rename_i sz hsz
   obtain⟨a,b,m,hK,hr⟩:=ZG (P:=P) hl hh hm h
   exact .one rfl hK fun w=>by simp[DV.flat,Instr.sliceAt,Instr.slice,run_underlying hu,hr,E0 hsz,AK]
  ·exact h.elim
 ·rename_i n e p hu
  obtain⟨_,rfl⟩:=hx
  split at h
  ·rename_i sz hsz
   obtain⟨a,b,m,hK,hr⟩:=ZG (P:=P) hl hh hm h
   refine .one rfl hK fun w=>?_
   simp only[DV.flat,Instr.sliceAt,run_underlying hu,Instr.sureAddr,Sem.run_bind,Sem.run_pure,Result.andThen_ok,hr,E0 hsz,AK,Option.map_some]
   split <;> rfl
  ·exact h.elim
 ·rename_i s hu
  obtain⟨_,rfl⟩:=hx
  split at h
  ·obtain⟨a,b,m,hK,hr⟩:=ZG (P:=P) hl hh hm h
   cases mx' with
   | none=>exact .one rfl hK fun w=>by simp[DV.flat,Instr.sliceAt,Instr.slice,run_underlying hu,hr]
   | some _=>exact hm.elim
  ·exact h.elim
 ·exact h.elim
theorem xZ{t:TypeId}{x:SV}{xv iv:Value}{i:Option Int}{K:SV->Prop}(hx:x.rel xv)(hi:∀j,i=some j->∃k,iv=.int k j)(h:ZN P t x i K):
  PureOk P (Instr.indexAt t xv iv) K:=by
 unfold ZN at h
 split at h
 ·rename_i e p l c j hu
  obtain⟨_,rfl⟩:=hx
  obtain⟨k,rfl⟩:=hi j rfl
  split at h
  ·rename_i sz hsz
   obtain⟨q,rfl,h0,h1,hK⟩:=h
   exact .addr hK fun w=>by simp[DV.flat,Instr.indexAt,asIntOf,run_underlying hu,h0,h1,E0 hsz]
  ·exact h.elim
 ·rename_i n e q j hu
  obtain⟨_,rfl⟩:=hx
  obtain⟨k,rfl⟩:=hi j rfl
  split at h
  ·rename_i sz hsz
   obtain⟨h0,h1,hK⟩:=h
   exact .addr hK fun w=>by simp[DV.flat,Instr.indexAt,asIntOf,Instr.sureAddr,run_underlying hu,h0,h1,E0 hsz]
  ·exact h.elim
 ·exact h.elim
theorem xN{t:TypeId}{x:SV}{xv:Value}{K:SV->Prop}(hx:x.rel xv)(h:ZE P t x K):PureOk P (Instr.arrayAt t xv) K:=by
 unfold ZE at h
 split at h
 ·rename_i n e p l c hu
  obtain⟨_,rfl⟩:=hx
  obtain⟨q,rfl,h0,hK⟩:=h
  exact .addr hK fun w=>by simp[DV.flat,Instr.arrayAt,run_underlying hu,show ¬l<n by omega]
 ·exact h.elim
theorem x7{t:TypeId}{x:SV}{xv iv:Value}{i:Option Int}{K:SV->Prop}(hx:x.rel xv)(hi:∀j,i=some j->∃k,iv=.int k j)(h:ZM P t x i K):
  PureOk P (Instr.index t xv iv) K:=by
 unfold ZM at h
 split at h
 ·rename_i n e k m ns j hu
  obtain⟨hok,rfl⟩:=hx
  obtain⟨k',rfl⟩:=hi j rfl
  split at h
  ·rename_i q he hsz hn
   have hn:=Nat.eq_of_beq_eq_true hn
   obtain⟨h0,h1,hK⟩:=h
   have hlen:ns.length=m:=(EH hok).1
   have hlt:j.toNat<ns.length:=by omega
   have hag:∀w,(isAgg e).run P w=.ok false w:=fun w=>by unfold isAgg;simp[run_underlying he]
   refine .one rfl hK fun w=>?_
   simp[DV.flat,Instr.index,asIntOf,run_underlying hu,h0,h1,E0 hsz,part,hag,AM,Ch.flat,AA,hlt]
  ·exact h.elim
 ·rename_i s j hu
  obtain⟨hok,rfl⟩:=hx
  obtain⟨k',rfl⟩:=hi j rfl
  obtain⟨h0,h1,hK⟩:=h
  have hlt:j.toNat<s.size:=by omega
  have hlt':j.toNat<s.data.toList.length:=by simpa using hlt
  refine .one rfl hK fun w=>?_
  have e:s[j.toNat]?=some (s.data.toList.getD j.toNat 0):=by
   rw[getElem?_pos s j.toNat hlt,List.getD_eq_getElem?_getD,List.getElem?_eq_getElem hlt']
   rfl
  simp only[DV.flat,Instr.index,asIntOf,run_underlying hu,Sem.run_bind,Sem.run_pure,Result.andThen_ok,if_pos h0,e]
 ·exact h.elim
theorem Aj1{t:TypeId}{l:List Ch}{d:DV}{n:Nat}(h:jW P t l=some d)(hok:oks l)(hn:C5 P t=some n)(hl:B7 l=n):
  d.ok/\∀(pre post:List Value) (w:World),(part t (pre++AM l++post).toArray pre.length).run P w=.ok d.flat w:=by
 have scalar:∀(s:Sh) (v:Value),tsh P t=some (.sc s)->∀(pre post:List Value) (w:World),(part t (pre++AM [.c v]++post).toArray pre.length).run P w=.ok v w:=by
  intro s v hs pre post w
  exact MV (uZ hs)
 unfold jW at h
 split at h
 ·rename_i sl hs
  simp at h;subst h
  refine⟨hok,fun pre post w=>?_⟩
  unfold part
  simp only[Sem.run_bind,uY hs,Result.andThen_ok,if_true,E0 hn,Sem.run_pure,DV.flat]
  congr 2
  apply Array.toList_inj.1
  have:=HO hok
  rw[hl]at this
  simp[←this]
 ·rename_i v hs
  simp at h;subst h
  exact⟨(EH hok).1,scalar _ _ hs⟩
 ·rename_i v hs
  simp at h;subst h
  exact⟨(EH hok).1,scalar _ _ hs⟩
 ·simp at h
 ·rename_i s v _ _ _ hs
  simp at h;subst h
  exact⟨(EH hok).1,scalar _ _ hs⟩
 ·simp at h
theorem xY{t:TypeId}{x:SV}{xv:Value}{f:Nat}{K:SV->Prop}(hx:x.rel xv)(h:ZK P t x f K):PureOk P (Instr.field t xv f) K:=by
 unfold ZK at h
 split at h
 ·rename_i fs cs hu
  obtain⟨hok,rfl⟩:=hx
  split at h
  ·rename_i fd hf
   split at h
   ·rename_i n hn
    split at h
    ·rename_i d hd
     cases hp:X7 cs fd.offset n with
     | none=>simp[hp]at hd
     | some l=>
      simp[hp]at hd
      obtain⟨h1,h2,pre,post,h3,h4⟩:=AjJ hp hok
      obtain⟨h5,h6⟩:=Aj1 hd h1 hn h2
      refine⟨.dv d,d.flat,⟨h5,rfl⟩,h,fun w=>?_⟩
      have:=h6 pre post w
      rw[h4,←h3]at this
      simp only[DV.flat,Instr.field,run_underlying hu,Sem.run_bind,Result.andThen_ok,hf,asAgg,Sem.run_pure]
      exact this
    ·exact h.elim
   ·exact h.elim
  ·exact h.elim
 ·exact h.elim
theorem xX{t:TypeId}{x:SV}{xv:Value}{f:Nat}{K:SV->Prop}(hx:x.rel xv)(h:ZL P t x f K):PureOk P (Instr.fieldAt t xv f) K:=by
 unfold ZL at h
 split at h
 ·rename_i fs p hu
  obtain⟨_,rfl⟩:=hx
  split at h
  ·rename_i fd hf
   split at h
   ·rename_i n hn
    exact .addr h fun w=>by simp[DV.flat,Instr.fieldAt,run_underlying hu,hf,Instr.sureAddr,fieldPlace,E0 hn]
   ·exact h.elim
  ·exact h.elim
 ·exact h.elim
end Go.Vc
end
