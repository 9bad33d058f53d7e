/- LoaderWhole and its parts, laid together by a program of ours: Vcf Vcr -/
import Derived.RangeFuncCalls
import Derived.RangeFuncIn
import Derived.RangeFuncLeaves
import Derived.RangeFuncRecord
import Derived.TacticsIn
import Derived.Test.YteedolonhdbieaaGreatDoorK1
set_option autoImplicit false
set_option linter.all false
section
namespace Go.Vc
inductive Ty where
 | int (k:IntKind) | bool | str | addr | ptr | slc | mp | fn
 | ag (l:List Sh)
abbrev FE:List Sh->Type->Type
 | [],R=>R
 | .int _::r,R=>Int->FE r R
 | .bool::r,R=>Bool->FE r R
 | .str::r,R=>ByteArray->FE r R
 | .ptr::r,R=>Option Addr->FE r R
 | .slc::r,R=>Option Addr->Nat->Nat->FE r R
 | .mp::r,R=>Option Nat->FE r R
 | .fn::r,R=>Value->FE r R
 | .ifc::r,R=>Value->FE r R
 | .row _ _::r,R=>List Int->FE r R
abbrev Cur:List Ty->Type->Type
 | [],R=>R
 | .int _::r,R=>Int->Cur r R
 | .bool::r,R=>Bool->Cur r R
 | .str::r,R=>ByteArray->Cur r R
 | .addr::r,R=>Addr->Cur r R
 | .ptr::r,R=>Option Addr->Cur r R
 | .slc::r,R=>Option Addr->Nat->Nat->Cur r R
 | .mp::r,R=>Option Nat->Cur r R
 | .fn::r,R=>Value->Cur r R
 | .ag l::r,R=>FE l (Cur r R)
def apS:(l:List Sh)->{R:Type}->FE l R->List Ch->(R->Prop)->Prop
 | [],_,F,[],K=>K F
 | .int k::r,_,F,.c (.int k' n)::cs,K=>match k == k' with | true=>apS r (F n) cs K | false=>False
 | .bool::r,_,F,.c (.bool b)::cs,K=>apS r (F b) cs K
 | .str::r,_,F,.c (.string b)::cs,K=>apS r (F b) cs K
 | .ptr::r,_,F,.c (.pointer b)::cs,K=>apS r (F b) cs K
 | .slc::r,_,F,.c (.slice p l c)::cs,K=>apS r (F p l c) cs K
 | .mp::r,_,F,.c (.map b)::cs,K=>apS r (F b) cs K
 | .fn::r,_,F,.c v::cs,K=>apS r (F v) cs K
 | .ifc::r,_,F,.c v::cs,K=>apS r (F v) cs K
 | .row k n::r,_,F,.row k' n' ns::cs,K=>match k == k',Nat.beq n n' with | true,true=>apS r (F ns) cs K | _,_=>False
 | _,_,_,_,_=>False
def apP:(l:List Ty)->{R:Type}->Cur l R->List DV->(R->Prop)->Prop
 | [],_,F,[],K=>K F
 | .int k::r,_,F,.one (.int k' n)::xs,K=>match k == k' with | true=>apP r (F n) xs K | false=>False
 | .bool::r,_,F,.one (.bool b)::xs,K=>apP r (F b) xs K
 | .str::r,_,F,.one (.string b)::xs,K=>apP r (F b) xs K
 | .addr::r,_,F,.addr p::xs,K=>apP r (F p) xs K
 | .addr::r,_,F,.one (.pointer a)::xs,K=>∃p,a=some p/\apP r (F p) xs K
 | .ptr::r,_,F,.addr p::xs,K=>apP r (F (some p)) xs K
 | .ptr::r,_,F,.one (.pointer a)::xs,K=>apP r (F a) xs K
 | .slc::r,_,F,.one (.slice p l c)::xs,K=>apP r (F p l c) xs K
 | .mp::r,_,F,.one (.map b)::xs,K=>apP r (F b) xs K
 | .fn::r,_,F,.one v::xs,K=>apP r (F v) xs K
 | .fn::r,_,F,.fnv v::xs,K=>apP r (F v) xs K
 | .ag l::r,_,F,.agg cs::xs,K=>apS l F cs fun f=>apP r f xs K
 | _,_,_,_,_=>False
def alS:(l:List Sh)->{R:Type}->FE l R->(List Ch->R->Prop)->Prop
 | [],_,F,K=>K [] F
 | .int k::r,_,F,K=>∀n:Int,alS r (F n) fun cs=>K (.c (.int k n)::cs)
 | .bool::r,_,F,K=>∀b:Bool,alS r (F b) fun cs=>K (.c (.bool b)::cs)
 | .str::r,_,F,K=>∀b:ByteArray,alS r (F b) fun cs=>K (.c (.string b)::cs)
 | .ptr::r,_,F,K=>∀b:Option Addr,alS r (F b) fun cs=>K (.c (.pointer b)::cs)
 | .slc::r,_,F,K=>∀(p:Option Addr) (l c:Nat),alS r (F p l c) fun cs=>K (.c (.slice p l c)::cs)
 | .mp::r,_,F,K=>∀b:Option Nat,alS r (F b) fun cs=>K (.c (.map b)::cs)
 | .fn::r,_,F,K=>∀v:Value,alS r (F v) fun cs=>K (.c v::cs)
 | .ifc::r,_,F,K=>∀v:Value,alS r (F v) fun cs=>K (.c v::cs)
 | .row k n::r,_,F,K=>∀ns:List Int,alS r (F ns) fun cs=>K (.row k n ns::cs)
def alP:(l:List Ty)->{R:Type}->Cur l R->(List DV->R->Prop)->Prop
 | [],_,F,K=>K [] F
 | .int k::r,_,F,K=>∀n:Int,alP r (F n) fun xs=>K (.one (.int k n)::xs)
 | .bool::r,_,F,K=>∀b:Bool,alP r (F b) fun xs=>K (.one (.bool b)::xs)
 | .str::r,_,F,K=>∀b:ByteArray,alP r (F b) fun xs=>K (.one (.string b)::xs)
 | .addr::r,_,F,K=>∀p:Addr,alP r (F p) fun xs=>K (.addr p::xs)
 | .ptr::r,_,F,K=>∀b:Option Addr,alP r (F b) fun xs=>K (.one (.pointer b)::xs)
 | .slc::r,_,F,K=>∀(p:Option Addr) (l c:Nat),alP r (F p l c) fun xs=>K (.one (.slice p l c)::xs)
 | .mp::r,_,F,K=>∀b:Option Nat,alP r (F b) fun xs=>K (.one (.map b)::xs)
 | .fn::r,_,F,K=>∀v:Value,alP r (F v) fun xs=>K (.fnv v::xs)
 | .ag l::r,_,F,K=>alS l F fun cs f=>alP r f fun xs=>K (.agg cs::xs)
def enS:(l:List Sh)->{R:Type}->(List Ch->R)->FE l R
 | [],_,Q=>Q []
 | .int k::r,_,Q=>fun n=>enS r fun cs=>Q (.c (.int k n)::cs)
 | .bool::r,_,Q=>fun n=>enS r fun cs=>Q (.c (.bool n)::cs)
 | .str::r,_,Q=>fun n=>enS r fun cs=>Q (.c (.string n)::cs)
 | .ptr::r,_,Q=>fun n=>enS r fun cs=>Q (.c (.pointer n)::cs)
 | .slc::r,_,Q=>fun p l c=>enS r fun cs=>Q (.c (.slice p l c)::cs)
 | .mp::r,_,Q=>fun n=>enS r fun cs=>Q (.c (.map n)::cs)
 | .fn::r,_,Q=>fun n=>enS r fun cs=>Q (.c n::cs)
 | .ifc::r,_,Q=>fun n=>enS r fun cs=>Q (.c n::cs)
 | .row k m::r,_,Q=>fun ns=>enS r fun cs=>Q (.row k m ns::cs)
def enR:(l:List Ty)->{R:Type}->(List DV->R)->Cur l R
 | [],_,Q=>Q []
 | .int k::r,_,Q=>fun n=>enR r fun xs=>Q (.one (.int k n)::xs)
 | .bool::r,_,Q=>fun n=>enR r fun xs=>Q (.one (.bool n)::xs)
 | .str::r,_,Q=>fun n=>enR r fun xs=>Q (.one (.string n)::xs)
 | .addr::r,_,Q=>fun n=>enR r fun xs=>Q (.addr n::xs)
 | .ptr::r,_,Q=>fun n=>enR r fun xs=>Q (.one (.pointer n)::xs)
 | .slc::r,_,Q=>fun p l c=>enR r fun xs=>Q (.one (.slice p l c)::xs)
 | .mp::r,_,Q=>fun n=>enR r fun xs=>Q (.one (.map n)::xs)
 | .fn::r,_,Q=>fun n=>enR r fun xs=>Q (.fnv n::xs)
 | .ag l::r,_,Q=>enS l fun cs=>enR r fun xs=>Q (.agg cs::xs)
def PU(l:List Ty)(Q:Cur l (H->Prop))(xs:List DV)(h:H):Prop:=apP l Q xs fun f=>f h
def W(ps rs:List Ty)(F:Cur ps (Cur rs (H->Prop)->H->Prop)):Run:=fun args Q h=>apP ps F args fun f=>f (enR rs Q) h
theorem AdA:∀(l:List Sh) {R:Type} (F:FE l R) (cs:List Ch) (K:R->Prop) (K':List Ch->R->Prop),apS l F cs K->alS l F K'->oks cs->∃f,K f/\K' cs f:=by
 intro l
 induction l with
 | nil=>
  intro R F cs K K' h h' hok
  cases cs with
  | nil=>exact⟨F,h,h'⟩
  | cons _ _=>simp[apS]at h
 | cons s r ih=>
  intro R F cs K K' h h' hok
  cases cs with
  | nil=>cases s <;> simp[apS]at h
  | cons c cs=>
  have hok':=(EH hok).2
  cases s
  case int k=>
   cases c with
   | row _ _ _=>simp[apS]at h
   | c v=>
    cases v <;> simp only[apS]at h
    rename_i k' n
    by_cases hk:k=k'
    ·subst hk
     simp only[beq_self_eq_true]at h
     exact ih (F n) cs K _ h (h' n) hok'
    ·have:(k == k')=false:=by simpa using hk
     simp[this]at h
  case bool=>cases c with | row _ _ _=>simp[apS]at h | c v=>cases v <;> simp only[apS]at h;rename_i n;exact ih (F n) cs K _ h (h' n) hok'
  case str=>cases c with | row _ _ _=>simp[apS]at h | c v=>cases v <;> simp only[apS]at h;rename_i n;exact ih (F n) cs K _ h (h' n) hok'
  case ptr=>cases c with | row _ _ _=>simp[apS]at h | c v=>cases v <;> simp only[apS]at h;rename_i n;exact ih (F n) cs K _ h (h' n) hok'
  case slc=>cases c with | row _ _ _=>simp[apS]at h | c v=>cases v <;> simp only[apS]at h;rename_i p l c;exact ih (F p l c) cs K _ h (h' p l c) hok'
  case mp=>cases c with | row _ _ _=>simp[apS]at h | c v=>cases v <;> simp only[apS]at h;rename_i n;exact ih (F n) cs K _ h (h' n) hok'
  case fn=>cases c with | row _ _ _=>simp[apS]at h | c v=>simp only[apS]at h;exact ih (F v) cs K _ h (h' v) hok'
  case ifc=>cases c with | row _ _ _=>simp[apS]at h | c v=>simp only[apS]at h;exact ih (F v) cs K _ h (h' v) hok'
  case row k n=>
   cases c with
   | c v=>simp[apS]at h
   | row k' n' ns=>
    simp only[apS]at h
    split at h
    ·rename_i h1 h2
     have h1:k=k':=by simpa using h1
     have h2:=Nat.eq_of_beq_eq_true h2
     subst h1;subst h2
     exact ih (F ns) cs K _ h (h' ns) hok'
    ·exact h.elim
theorem WI:∀(l:List Ty) {R:Type} (F:Cur l R) (xs:List DV) (K:R->Prop) (K':List DV->R->Prop),apP l F xs K->alP l F K'->(∀x,x∈xs->x.ok)->
  ∃ys f,K f/\K' ys f/\(∀y,y∈ys->y.ok)/\ys.map DV.flat=xs.map DV.flat:=by
 intro l
 induction l with
 | nil=>
  intro R F xs K K' h h' hok
  cases xs with
  | nil=>exact⟨[],F,h,h',hok,rfl⟩
  | cons _ _=>simp[apP]at h
 | cons s r ih=>
  intro R F xs K K' h h' hok
  cases xs with
  | nil=>cases s <;> simp[apP]at h
  | cons x xs=>
  have hx:=hok x (by simp)
  have hok':∀y,y∈xs->y.ok:=fun y hy=>hok y (by simp[hy])
  have fin:∀(y:DV),y.ok->y.flat=x.flat->(∃ys f,K f/\K' (y::ys) f/\(∀y,y∈ys->y.ok)/\ys.map DV.flat=xs.map DV.flat)->
    ∃ys f,K f/\K' ys f/\(∀y,y∈ys->y.ok)/\ys.map DV.flat=(x::xs).map DV.flat:=by
   rintro y hy hf ⟨ys,f,h1,h2,h3,h4⟩
   exact⟨y::ys,f,h1,h2,fun z hz=>by rcases List.mem_cons.1 hz with rfl | hz;exact hy;exact h3 z hz,by simp[hf,h4]⟩
  cases s
  case int k=>
   cases x <;> try (simp[apP]at h;done)
   rename_i v
   cases v <;> simp only[apP]at h
   rename_i k' n
   by_cases hk:k=k'
   ·subst hk
    simp only[beq_self_eq_true]at h
    exact fin _ hx rfl (ih (F n) xs K _ h (h' n) hok')
   ·have:(k == k')=false:=by simpa using hk
    simp[this]at h
  case bool=>
   cases x <;> try (simp[apP]at h;done)
   rename_i v;cases v <;> simp only[apP]at h;rename_i n;exact fin _ hx rfl (ih (F n) xs K _ h (h' n) hok')
  case str=>
   cases x <;> try (simp[apP]at h;done)
   rename_i v;cases v <;> simp only[apP]at h;rename_i n;exact fin _ hx rfl (ih (F n) xs K _ h (h' n) hok')
  case addr=>
   cases x <;> try (simp[apP]at h;done)
   ·rename_i v;cases v <;> simp only[apP]at h;obtain⟨p,rfl,h⟩:=h;exact fin (.addr p) trivial rfl (ih (F p) xs K _ h (h' p) hok')
   ·rename_i p;simp only[apP]at h;exact fin _ hx rfl (ih (F p) xs K _ h (h' p) hok')
  case ptr=>
   cases x <;> try (simp[apP]at h;done)
   ·rename_i v;cases v <;> simp only[apP]at h;rename_i n;exact fin _ hx rfl (ih (F n) xs K _ h (h' n) hok')
   ·rename_i p;simp only[apP]at h;exact fin (.one (.pointer (some p))) rfl rfl (ih (F (some p)) xs K _ h (h' (some p)) hok')
  case slc=>
   cases x <;> try (simp[apP]at h;done)
   rename_i v;cases v <;> simp only[apP]at h;rename_i p l c;exact fin _ hx rfl (ih (F p l c) xs K _ h (h' p l c) hok')
  case mp=>
   cases x <;> try (simp[apP]at h;done)
   rename_i v;cases v <;> simp only[apP]at h;rename_i n;exact fin _ hx rfl (ih (F n) xs K _ h (h' n) hok')
  case fn=>
   cases x <;> try (simp[apP]at h;done)
   ·rename_i v;simp only[apP]at h;exact fin (.fnv v) hx rfl (ih (F v) xs K _ h (h' v) hok')
   ·rename_i v;simp only[apP]at h;exact fin _ hx rfl (ih (F v) xs K _ h (h' v) hok')
  case ag l=>
   cases x <;> try (simp[apP]at h;done)
   rename_i cs
   simp only[apP]at h
   obtain⟨f,h1,h2⟩:=AdA l F cs _ _ h h' hx
   exact fin _ hx rfl (ih f xs K _ h1 h2 hok')
theorem Ad6:∀(l:List Sh) {R:Type} (Q:List Ch->R) (K:List Ch->R->Prop),(∀cs,K cs (Q cs))->alS l (enS l Q) K:=by
 intro l
 induction l with
 | nil=>intro R Q K h;exact h []
 | cons s r ih=>intro R Q K h;cases s <;> simp only[alS,enS] <;> intros <;> exact ih _ _ fun cs=>h _
theorem oU:∀(l:List Ty) {R:Type} (Q:List DV->R) (K:List DV->R->Prop),(∀xs,K xs (Q xs))->alP l (enR l Q) K:=by
 intro l
 induction l with
 | nil=>intro R Q K h;exact h []
 | cons s r ih=>
  intro R Q K h
  cases s with
  | ag l=>simp only[alP,enR];exact Ad6 l _ _ fun cs=>ih _ _ fun xs=>h _
  | _=>simp only[alP,enR];intros;exact ih _ _ fun xs=>h _
theorem uT(xs:List DV):HZ xs=(match xs.map DV.flat with | [v]=>v | vs=>.tuple vs.toArray):=by
 match xs with
 | []=>rfl
 | [x]=>rfl
 | x::y::r=>rfl
theorem Ak9{xs ys:List DV}(h:xs.map DV.flat=ys.map DV.flat):HZ xs=HZ ys:=by
 rw[uT,uT,h]
variable {P:Program}
theorem callsV.mono{f:FuncId}{args:List Value}{Q Q':List DV->H->Prop}{h:H}(hc:callsV P f args Q h)
  (hq:∀xs h',(∀x,x∈xs->x.ok)->Q xs h'->∃ys,(∀y,y∈ys->y.ok)/\ys.map DV.flat=xs.map DV.flat/\Q' ys h'):callsV P f args Q' h:=by
 refine⟨hc.1,fun w hw=>(hc.2 w hw).mono fun e w' he=>?_⟩
 obtain⟨xs,h1,rfl,h2,h3⟩:=he
 obtain⟨ys,h4,h5,h6⟩:=hq xs _ h1 h3
 exact⟨ys,h4,by rw[Ak9 h5],h2,h6⟩
theorem uX{T:Tbl}(hT:TblOk P T){f:FuncId}{fn:Func}{ann:Ann}{ps rs:List Ty}{F:Cur ps (Cur rs (H->Prop)->H->Prop)}(hf:P.funcs[f]?=some fn)(hc:L8 P f=true)
  (hann:(fn.body.map fun c=>CV ann c 1)=some true) (hE:alP ps F fun xs g=>∀Q h,g Q h=M7 P T ann fn xs (PU rs Q) h):AE P f (W ps rs F):=by
 intro args Q h hok hrun
 obtain⟨ys,g,h1,h2,h3,h4⟩:=WI ps F args _ _ hrun hE hok
 rw[h2]at h1
 have:=xR hT hf hc hann h3 h1
 rw[h4]at this
 refine this.mono fun xs h' hxs hd=>?_
 obtain⟨zs,g',h5,h6,h7,h8⟩:=WI rs (enR rs Q) xs (fun f=>f h') (fun ys f=>f=Q ys) hd (oU rs Q _ fun _=>rfl) hxs
 exact⟨zs,h7,h8,by rw[←h6];exact h5⟩
theorem TblOk.nil:TblOk P []:=fun _ _ h=>by cases h
theorem TblOk.cons{T:Tbl}{f:FuncId}{r:Run}(h:AE P f r)(hT:TblOk P T):TblOk P ((f,r)::T):=fun g r' hm=>by
 rcases List.mem_cons.1 hm with h' | h'
 ·injection h' with h1 h2;subst h1;subst h2;exact h
 ·exact hT g r' h'
theorem WP{f:FuncId}{run:Run}(hr:AE P f run){a c:Array Value}{args:List DV}{Q:List DV->H->Prop}{h:H}(ha:∀v,v∈a.toList->v.oneCell'=true)(hc:∀v,v∈c.toList->v.oneCell'=true)
  (hok:∀x,x∈args->x.ok) (hrun:run (a.toList.map GL++args++c.toList.map GL) Q h):HM P (.func (.func f) a c) args Q h:=by
 refine⟨f,a,c,rfl,?_⟩
 have:=hr _ _ _ (by
  intro x hx
  simp only[List.mem_append,List.mem_map]at hx
  rcases hx with (⟨v,hv,rfl⟩ | hx) | ⟨v,hv,rfl⟩
  ·exact Y6 (ha v hv)
  ·exact hok x hx
  ·exact Y6 (hc v hv)) hrun
 have e:∀l:List Value,l.map (DV.flat ∘ GL)=l:=fun l=>by
  have:(DV.flat ∘ GL)=id:=funext vX
  rw[this];simp
 simpa[e]using this
end Go.Vc
end
section
namespace Go.Vc
variable {P:Program}
def EX(h:H)(o:Obj):H:=h.push o
def A3(h:H)(k:Nat)(o:Obj):H:=h.setIfInBounds k o
def C2(h:H)(k:Nat)(o:Obj):Prop:=h[k]?=some o
def BE(h:H):Nat:=h.size
def opR(o:Oper):Bool:=match o.op with | .defer _=>false | _=>true
def okR:Code->Bool
 | .skip | .ret=>true
 | .region _ ops false=>ops.toList.all opR
 | .seq a b | .cond _ a b=>okR a&&okR b
 | .block _ b=>okR b
 | _=>false
theorem Aj7{o:Oper}(h:opR o=true):∀c,o.op≠.defer c:=by
 intro c hc
 unfold opR at h
 rw[hc]at h
 cases h
theorem AmV{l n:Nat}{o:Oper}{a:Act}{w:World}{K:SV->H->Prop}{next:Act->World->Prop}{Q:Exit->Act->World->Prop}(ho:opR o=true)(h:JW P K w ((execOp a.eval o).run P w))
  (hn:∀x v w',Rest w w'->SV.rel x v->K x w'.heap->next (a.put o.dst v) w'):o.wpIn (Fence.wide.inRound l) n P a w next Q:=by
 unfold Oper.wpIn
 refine⟨fun _ _=>trivial,?_⟩
 rw[show (Fence.wide.inRound l).round=some l from rfl,Oper.semAt_some _ _ _ (Aj7 ho)]
 generalize (execOp a.eval o).run P w=r at h
 cases r with
 | halt x w'=>exact h.elim
 | ok nx w'=>
  cases nx <;> try exact h.elim
  ·obtain⟨h1,x,h2,h3⟩:=h;exact hn x _ _ h1 h2 h3
  ·obtain⟨h1,h3⟩:=h;exact hn .nd _ _ h1 rfl h3
  ·obtain⟨rfl,h⟩:=h
   refine⟨fun y=>(by cases y),CallsIn.inRound l (callsIn_wide.2 ?_)⟩
   exact h.mono fun e w'' he=>by
    obtain⟨v,x,rfl,h1,h2,h3⟩:=he
    exact hn x _ _ h1 h2 h3
theorem yB{l m:Nat}{T:Tbl}(hT:TblOk P T){ops:Array Oper}{Q:Exit->Act->World->Prop}{K:Fr->H->Prop}{fr0:Fr}{n:Nat}{df:List Deferred}{w0:World}(hs:∀d,d∈B4 ops.toList->d<n)(hR:ops.toList.all opR=true)
  (hQ:∀fr a w,On (B4 ops.toList) fr0 n df w0 fr a w->K fr w.heap->Q .normal a w):
  ∀(ll:List Oper) (fr:Fr) (a:Act) (w:World),(∀o,o∈ll->o∈ops.toList)->On (B4 ops.toList) fr0 n df w0 fr a w->LS P T ops.toList ll K fr w.heap->wpListIn (Fence.wide.inRound l) m P ops Q ll a w:=by
 intro ll
 induction ll with
 | nil=>intro fr a w _ hon h;exact hQ fr a w hon h
 | cons o r ih=>
  intro fr a w hmem hon h
  have hd:∀i,o.dst=some i->i∈B4 ops.toList:=fun i hi=>U7 (hmem o (by simp)) hi
  have hmem':∀o,o∈r->o∈ops.toList:=fun o ho=>hmem o (by simp[ho])
  have hop:opR o=true:=List.all_eq_true.1 hR o (hmem o (by simp))
  simp only[LS]at h
  refine XA hon.hfr h (fun fr' hF hA hw hy=>?_) (fun fr' hF hA hw hn=>?_)
  ·have hon':On (B4 ops.toList) fr0 n df w0 fr' a w:=⟨hF,hon.ag.trans hA,hon.sz,hon.df,hon.rest⟩
   unfold wpListIn
   rw[if_pos hw]
   refine AmV hop (ZP hT hF hy) fun x v w' h1 h2 h3=>?_
   exact ih _ _ _ hmem' (hon'.put hs hd h2 h1) h3
  ·have hon':On (B4 ops.toList) fr0 n df w0 fr' a w:=⟨hF,hon.ag.trans hA,hon.sz,hon.df,hon.rest⟩
   unfold wpListIn
   rw[if_neg (by rw[hw];simp)]
   exact⟨fun _ _=>trivial,ih _ _ _ hmem' (hon'.put hs hd (x:=.nd) rfl (Rest.refl w)) hn⟩
theorem lN{l m:Nat}{T:Tbl}(hT:TblOk P T)(ann:Ann):∀(c:Code) (p:Nat) (Q:F0) (fr:Fr) (a:Act) (w:World),okR c=true->CV ann c p=true->(∀d,d∈asg c->d<a.tmps.size)->FR fr a.tmps->D P T ann c p Q fr w.heap->
  c.wpIn (Fence.wide.inRound l) m P (F8 (asg c) fr a.tmps.size a.defers w Q) a w:=by
 intro c
 induction c with
 | skip=>intro p Q fr a w _ _ _ hF h;exact wpIn_skip ⟨fr,On.refl hF,h⟩
 | ret=>intro p Q fr a w _ _ _ hF h;exact wpIn_ret ⟨fr,On.refl hF,h⟩
 | region id ops draw=>
  intro p Q fr a w hr _ hs hF h
  have hQ:∀fr' a' w',On (B4 ops.toList) fr a.tmps.size a.defers w fr' a' w'->Q .normal fr' w'.heap->F8 (asg (.region id ops draw)) fr a.tmps.size a.defers w Q .normal a' w':=fun fr' a' w' hon hq=>⟨fr',hon,hq⟩
  cases draw with
  | false=>
   simp only[D]at h
   exact wpIn_region_list (yB hT hs hr hQ ops.toList fr a w (fun _ h=>h) (On.refl hF) h)
  | true=>cases hr
 | seq x y ihx ihy=>
  intro p Q fr a w hr hann hs hF h
  simp only[okR,Bool.and_eq_true]at hr
  simp only[CV,Bool.and_eq_true]at hann
  simp only[D]at h
  obtain⟨K',hb,hK⟩:=XL hann.1.1 h
  have hsx:∀d,d∈asg x->d<a.tmps.size:=fun d hd=>hs d (by simp[asg,hd])
  have hsy:∀d,d∈asg y->d<a.tmps.size:=fun d hd=>hs d (by simp[asg,hd])
  refine wpIn_seq (wpIn_mono (ihx (2*p) _ fr a w hr.1 hann.1.2 hsx hF hb) fun e a1 w1 hp=>?_)
  cases e with
  | normal=>
   obtain⟨fr1,hon,hq⟩:=hp
   obtain⟨fr2,hk,h1,h2⟩:=hK fr1 _ hq
   have hF2:=h1 _ hon.hfr hon.ag
   have hA2:=h2 hon.ag
   have hon2:On (asg x) fr a.tmps.size a.defers w fr2 a1 w1:=⟨hF2,hA2,hon.sz,hon.df,hon.rest⟩
   refine wpIn_mono (ihy (2*p+1) Q fr2 a1 w1 hr.2 hann.2 (fun d hd=>by rw[hon.sz];exact hsy d hd) hF2 hk) fun e a2 w2 hp2=>?_
   have sub1:∀i,i∈asg x->i∈asg (.seq x y):=fun i hi=>by simp[asg,hi]
   have sub2:∀i,i∈asg y->i∈asg (.seq x y):=fun i hi=>by simp[asg,hi]
   cases e <;> first | exact hp2.elim | (obtain⟨fr3,hon3,hq3⟩:=hp2;exact⟨fr3,(hon2.sub sub1).trans (hon3.sub sub2),hq3⟩)
  | panic c=>exact hp.elim
  | outgrown=>exact hp.elim
  | _=>obtain⟨fr1,hon,hq⟩:=hp;exact⟨fr1,hon.sub (fun i hi=>by simp[asg,hi]),hq⟩
 | cond c x y ihx ihy=>
  intro p Q fr a w hr hann hs hF h
  simp only[okR,Bool.and_eq_true]at hr
  simp only[CV,Bool.and_eq_true]at hann
  simp only[D]at h
  split at h
  ·rename_i t hc
   obtain⟨_,hv⟩:=B0 hF hc
   have post:∀s,(∀i,i∈s->i∈asg (.cond c x y))->∀e a' w',F8 s fr a.tmps.size a.defers w Q e a' w'->F8 (asg (.cond c x y)) fr a.tmps.size a.defers w Q e a' w':=by
    intro s hsub e a' w' hp
    cases e <;> first | exact hp.elim | (obtain⟨fr1,hon,hq⟩:=hp;exact⟨fr1,hon.sub hsub,hq⟩)
   cases t with
   | true=>
    refine wpIn_cond (t:=true) hv ?_
    exact wpIn_mono (ihx (2*p) Q fr a w hr.1 hann.1 (fun d hd=>hs d (by simp[asg,hd])) hF h) (post _ (fun i hi=>by simp[asg,hi]))
   | false=>
    simp only[Bool.false_eq_true,if_false]at h
    refine wpIn_cond (t:=false) hv ?_
    exact wpIn_mono (ihy (2*p+1) Q fr a w hr.2 hann.2 (fun d hd=>hs d (by simp[asg,hd])) hF h) (post _ (fun i hi=>by simp[asg,hi]))
  ·exact h.elim
 | block id b ih=>
  intro p Q fr a w hr hann hs hF h
  simp only[CV,Bool.and_eq_true]at hann
  simp only[D]at h
  obtain⟨K',hb,hK⟩:=XL hann.1 h
  refine wpIn_block (wpIn_mono (ih (2*p) _ fr a w hr hann.2 hs hF hb) fun e a1 w1 hp=>?_)
  have norm:∀fr1,On (asg b) fr a.tmps.size a.defers w fr1 a1 w1->K' fr1 w1.heap->F8 (asg (.block id b)) fr a.tmps.size a.defers w Q .normal a1 w1:=by
   intro fr1 hon hq
   obtain⟨fr2,hk,h1,h2⟩:=hK fr1 _ hq
   exact⟨fr2,⟨h1 _ hon.hfr hon.ag,h2 hon.ag,hon.sz,hon.df,hon.rest⟩,hk⟩
  cases e with
  | normal=>obtain⟨fr1,hon,hq⟩:=hp;exact norm fr1 hon hq
  | exit j=>
   obtain⟨fr1,hon,hq⟩:=hp
   simp only[iG]at hq
   show Exit.inBlock id _ (.exit j) a1 w1
   simp only[Exit.inBlock]
   cases hb:Nat.beq j id with
   | true=>
    rw[hb]at hq
    rw[if_pos (Nat.eq_of_beq_eq_true hb)]
    exact norm fr1 hon hq
   | false=>
    rw[hb]at hq
    rw[if_neg (Nat.ne_of_beq_eq_false hb)]
    exact⟨fr1,hon,hq⟩
  | panic c=>exact hp.elim
  | outgrown=>exact hp.elim
  | _=>obtain⟨fr1,hon,hq⟩:=hp;exact⟨fr1,hon,hq⟩
 | _=>intro p Q fr a w hr;cases hr
theorem VQ{T:Tbl}(hT:TblOk P T){c d:Code}{fr:Fr}{a:Act}{w:World}{n sz:Nat}{df:List Deferred}{Qc:F0}{Qf:Exit->Act->World->Prop}(hann:CV [] c 1=true)(hs:((asg c).all fun d=>Nat.blt d sz)=true)(hsz:a.tmps.size=sz)(hF:FR fr a.tmps)(hdf:a.defers=df)(hD:D P T [] c 1 Qc fr w.heap)
  (hN:∀fr' a' w',FR fr' a'.tmps->Agree (asg c) fr fr'->a'.tmps.size=sz->a'.defers=df->Rest w w'->Qc .normal fr' w'.heap->d.wpIn Fence.wide n P Qf a' w')
  (hR:∀fr' a' w',FR fr' a'.tmps->a'.defers=df->Rest w w'->Qc .ret fr' w'.heap->Qf .ret a' w')
  (hE:∀id fr' h',¬Qc (.exit id) fr' h') (hG:∀l fr' h',¬Qc (.goto l) fr' h'):(Code.seq c d).wpIn Fence.wide n P Qf a w:=by
 rw[List.all_eq_true]at hs
 refine wpIn_seq (wpIn_wide.2 (wp_mono (lO hT [] c 1 Qc fr a w hann (fun x hx=>by rw[hsz];exact Nat.le_of_ble_eq_true (hs x hx)) hF hD) fun e a' w' hp=>?_))
 cases e with
 | normal=>obtain⟨fr',hon,hq⟩:=hp;exact hN fr' a' w' hon.hfr hon.ag (hon.sz.trans hsz) (hon.df.trans hdf) hon.rest hq
 | ret=>obtain⟨fr',hon,hq⟩:=hp;exact hR fr' a' w' hon.hfr (hon.df.trans hdf) hon.rest hq
 | exit id=>obtain⟨fr',hon,hq⟩:=hp;exact (hE _ _ _ hq).elim
 | goto l=>obtain⟨fr',hon,hq⟩:=hp;exact (hG _ _ _ hq).elim
 | panic _=>exact hp.elim
 | outgrown=>exact hp.elim
theorem lX{fr gr:Fr}{tmps:Array Value}(h:FR fr tmps)(hs:∀i,get gr i=.un∨get gr i=get fr i):FR gr tmps:=fun i=>by
 rcases hs i with e | e
 ·rw[e];trivial
 ·rw[e];exact h i
theorem AkR{f:FuncId}{ps rs:List Ty}{F:Cur ps (Cur rs (H->Prop)->H->Prop)}{DD:List DV->(List DV->H->Prop)->H->Prop}(hDD:∀args Q h,(∀x,x∈args->x.ok)->DD args Q h->callsV P f (args.map DV.flat) Q h)
  (hE:alP ps F fun xs g=>∀Q h,g Q h=DD xs (PU rs Q) h):AE P f (W ps rs F):=by
 intro args Q h hok hrun
 obtain⟨ys,g,h1,h2,h3,h4⟩:=WI ps F args _ _ hrun hE hok
 rw[h2]at h1
 have:=hDD _ _ _ h3 h1
 rw[h4]at this
 refine this.mono fun xs h' hxs hd=>?_
 obtain⟨zs,g',h5,h6,h7,h8⟩:=WI rs (enR rs Q) xs (fun f=>f h') (fun ys f=>f=Q ys) hd (oU rs Q _ fun _=>rfl) hxs
 exact⟨zs,h7,h8,by rw[←h6];exact h5⟩
end Go.Vc
end
