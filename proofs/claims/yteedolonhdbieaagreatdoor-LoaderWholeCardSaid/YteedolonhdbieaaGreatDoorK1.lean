/- LoaderWhole and its parts, laid together by a program of ours: Vcq Vcm Vcd Vce -/
import Derived.Laws.AppendOwn
import Derived.Laws.BytesString
import Derived.Test.YteedolonhdbieaaGreatDoorK0
set_option autoImplicit false
set_option linter.all false
section
namespace Go.Vc
variable {P:Program}
theorem T7{s:SV}{v:Value}(h:s.rel v){i:Int}(hi:asI s=some i):∃k,v=.int k i:=by
 unfold asI at hi
 split at hi
 ·simp at hi;subst hi;exact⟨_,h.2⟩
 ·simp at hi
theorem jZ{fr:Fr}{a:Act}(hFR:FR fr a.tmps){x:Option Operand}{y:Option Int}(h:opI fr x=some y):IV y (x.map a.eval):=by
 cases x with
 | none=>simp[opI]at h;subst h;trivial
 | some x=>
  simp only[opI]at h
  cases hi:asI (ev fr x) with
  | none=>simp[hi]at h
  | some i=>simp[hi]at h;subst h;exact T7 (CX hFR x) hi
theorem UJ{fr:Fr}{a:Act}(hFR:FR fr a.tmps):∀(xs:List Operand) (ds:List DV),dvs (xs.map (ev fr))=some ds->(∀d,d∈ds->d.ok)/\xs.map a.eval=ds.map DV.flat:=by
 intro xs
 induction xs with
 | nil=>intro ds h;simp[dvs]at h;subst h;exact⟨fun _ h=>(by cases h),rfl⟩
 | cons x xs ih=>
  intro ds h
  simp only[List.map_cons]at h
  cases hx:ev fr x with
  | dv d=>
   simp only[hx,dvs]at h
   obtain⟨hok,hv⟩:=B0 hFR hx
   cases h2:dvs (xs.map (ev fr)) with
   | none=>simp[h2]at h
   | some r=>
    simp[h2]at h
    subst h
    obtain⟨h3,h4⟩:=ih r h2
    exact⟨fun y hy=>by rcases List.mem_cons.1 hy with rfl | hy;exact hok;exact h3 y hy,by simp[h4,hv]⟩
  | un=>simp[hx,dvs]at h
  | nd=>simp[hx,dvs]at h
  | tup _=>simp[hx,dvs]at h
theorem xV{s d:TypeId}{x:SV}{xv:Value}{K:SV->Prop}(hx:x.rel xv)(h:ZI P s d x K):PureOk P (convert s d xv) K:=by
 unfold ZI at h
 split at h
 ·rename_i ds k j n hs hd
  obtain⟨_,rfl⟩:=hx
  exact .one rfl h fun w=>by cases ds <;> simp[DV.flat,convert,run_underlying hs,run_underlying hd,Conv.intToInt]
 ·rename_i ds st hs hd
  obtain⟨_,rfl⟩:=hx
  exact .one rfl h fun w=>by cases ds <;> simp[DV.flat,convert,run_underlying hs,run_underlying hd]
 ·exact h.elim
theorem XV{α β:Type}{f:α->β}{l:List α}{x:β}(h:l.map f=[x]):∃y,l=[y]/\f y=x:=by
 cases l with
 | nil=>simp at h
 | cons y r=>
  cases r with
  | nil=>simp at h;exact⟨y,rfl,h⟩
  | cons _ _=>simp at h
theorem XW{α β:Type}{f:α->β}{l:List α}{x y:β}(h:l.map f=[x,y]):∃u v,l=[u,v]/\f u=x/\f v=y:=by
 cases l with
 | nil=>simp at h
 | cons u r=>
  cases r with
  | nil=>simp at h
  | cons v r=>
   cases r with
   | nil=>simp at h;exact⟨u,v,rfl,h⟩
   | cons _ _=>simp at h
theorem xP{b:Builtin}{ats:Array TypeId}{args:List Operand}{fr:Fr}{a:Act}(hFR:FR fr a.tmps){ty:TypeId}{cs:Array Bool}{K:SV->Prop}
  (h:Dbi P b ats.toList (args.map (ev fr)) K):∃x v,SV.rel x v/\K x/\∀w,(builtin b ats ty cs (args.map a.eval).toArray).run P w=.ok (.value v) w:=by
 have lift:∀{s:Sem Value},PureOk P s K->(∀w v,s.run P w=.ok v w->(builtin b ats ty cs (args.map a.eval).toArray).run P w=.ok (.value v) w)->
   ∃x v,SV.rel x v/\K x/\∀w,(builtin b ats ty cs (args.map a.eval).toArray).run P w=.ok (.value v) w:=by
  rintro s ⟨x,v,h1,h2,h3⟩ h4
  exact⟨x,v,h1,h2,fun w=>h4 w v (h3 w)⟩
 obtain⟨ats⟩:=ats
 simp only at h
 unfold Dbi at h
 split at h
 ·rename_i t p l c hargs
  obtain⟨x,rfl,hx⟩:∃x,args=[x]/\ev fr x=.dv (.one (.slice p l c)):=XV hargs
  obtain⟨_,hv⟩:=B0 hFR hx
  split at h
  ·rename_i e hu
   refine lift (s:=Builtin.len_ #[t] ty #[a.eval x]) (.one rfl h fun w=>?_) fun w v hr=>?_
   ·simp[hv,DV.flat,Builtin.len_,run_underlying hu,goInt]
   ·simp[builtin,hr]
  ·exact h.elim
 ·rename_i t s hargs
  obtain⟨x,rfl,hx⟩:∃x,args=[x]/\ev fr x=.dv (.one (.string s)):=XV hargs
  obtain⟨_,hv⟩:=B0 hFR hx
  split at h
  ·rename_i hu
   refine lift (s:=Builtin.len_ #[t] ty #[a.eval x]) (.one rfl h fun w=>?_) fun w v hr=>?_
   ·simp[hv,DV.flat,Builtin.len_,run_underlying hu,goInt]
   ·simp[builtin,hr]
  ·exact h.elim
 ·rename_i t q _ _ hargs
  obtain⟨x,rfl,_⟩:=XV hargs
  split at h
  ·rename_i n e hu
   refine lift (s:=Builtin.len_ #[t] ty #[a.eval x]) (.one rfl h fun w=>?_) fun w v hr=>?_
   ·simp[Builtin.len_,run_underlying hu,goInt]
   ·simp[builtin,hr]
  ·exact h.elim
 ·rename_i t p l c hargs
  obtain⟨x,rfl,hx⟩:∃x,args=[x]/\ev fr x=.dv (.one (.slice p l c)):=XV hargs
  obtain⟨_,hv⟩:=B0 hFR hx
  split at h
  ·rename_i e hu
   refine lift (s:=Builtin.cap_ #[t] ty #[a.eval x]) (.one rfl h fun w=>?_) fun w v hr=>?_
   ·simp[hv,DV.flat,Builtin.cap_,run_underlying hu,goInt]
   ·simp[builtin,hr]
  ·exact h.elim
 ·rename_i k x k' y hargs
  obtain⟨o1,o2,rfl,h1,h2⟩:∃o1 o2,args=[o1,o2]/\ev fr o1=.dv (.one (.int k x))/\ev fr o2=.dv (.one (.int k' y)):=XW hargs
  obtain⟨_,hv1⟩:=B0 hFR h1
  obtain⟨_,hv2⟩:=B0 hFR h2
  refine lift (s:=Builtin.max_ #[] ty #[a.eval o1,a.eval o2]) (.one rfl h fun w=>?_) fun w v hr=>?_
  ·simp[hv1,hv2,DV.flat,Builtin.max_,Builtin.max2]
  ·show (do pure (Next.value (←Builtin.max_ #[] ty #[a.eval o1,a.eval o2])):Sem Next).run P w=_
   simp[hr]
 ·rename_i k x k' y hargs
  obtain⟨o1,o2,rfl,h1,h2⟩:∃o1 o2,args=[o1,o2]/\ev fr o1=.dv (.one (.int k x))/\ev fr o2=.dv (.one (.int k' y)):=XW hargs
  obtain⟨_,hv1⟩:=B0 hFR h1
  obtain⟨_,hv2⟩:=B0 hFR h2
  refine lift (s:=Builtin.min_ #[] ty #[a.eval o1,a.eval o2]) (.one rfl h fun w=>?_) fun w v hr=>?_
  ·simp[hv1,hv2,DV.flat,Builtin.min_,Builtin.min2]
  ·show (do pure (Next.value (←Builtin.min_ #[] ty #[a.eval o1,a.eval o2])):Sem Next).run P w=_
   simp[hr]
 ·exact h.elim
theorem PureOk.next{s:Sem Value}{K:SV->Prop}(h:PureOk P s K):∃x v,SV.rel x v/\K x/\∀w,(do pure (Next.value (←s)):Sem Next).run P w=.ok (.value v) w:=by
 obtain⟨x,v,h1,h2,h3⟩:=h
 exact⟨x,v,h1,h2,fun w=>by simp[h3]⟩
theorem qD:∀{s:Sh} {K:DV->Prop},ex1 s K->∃d:DV,d.ok/\oks d.chs/\K d:=by
 intro s K h
 cases s with
 | int k=>obtain⟨n,h⟩:=h;exact⟨.one (.int k n),rfl,by intro c hc;simp[DV.chs]at hc;subst hc;rfl,h⟩
 | bool=>obtain⟨n,h⟩:=h;exact⟨.one (.bool n),rfl,by intro c hc;simp[DV.chs]at hc;subst hc;rfl,h⟩
 | str=>obtain⟨n,h⟩:=h;exact⟨.one (.string n),rfl,by intro c hc;simp[DV.chs]at hc;subst hc;rfl,h⟩
 | ptr=>obtain⟨n,h⟩:=h;exact⟨.one (.pointer n),rfl,by intro c hc;simp[DV.chs]at hc;subst hc;rfl,h⟩
 | slc=>obtain⟨a,b,n,h⟩:=h;exact⟨.one (.slice a b n),rfl,by intro c hc;simp[DV.chs]at hc;subst hc;rfl,h⟩
 | mp=>obtain⟨n,h⟩:=h;exact⟨.one (.map n),rfl,by intro c hc;simp[DV.chs]at hc;subst hc;rfl,h⟩
 | fn=>obtain⟨n,hn,h⟩:=h;exact⟨.fnv n,hn,by intro c hc;simp[DV.chs]at hc;subst hc;exact hn,h⟩
 | ifc=>obtain⟨n,hn,h⟩:=h;exact⟨.fnv n,hn,by intro c hc;simp[DV.chs]at hc;subst hc;exact hn,h⟩
 | row _ _=>exact h.elim
theorem AfR:∀{l:List Sh} {K:List Ch->Prop},UK l K->∃cs:List Ch,oks cs/\K cs:=by
 intro l
 induction l with
 | nil=>intro K h;exact⟨[],by intro c hc;simp at hc,h⟩
 | cons s r ih=>
  intro K h
  have scal:ex1 s (fun x=>UK r fun cs=>K (x.chs++cs))->∃cs:List Ch,oks cs/\K cs:=by
   intro h
   obtain⟨d,_,d2,h⟩:=qD h
   obtain⟨cs,h1,h2⟩:=ih h
   refine⟨d.chs++cs,?_,h2⟩
   intro c hc
   rcases List.mem_append.1 hc with hc | hc
   ·exact d2 c hc
   ·exact h1 c hc
  cases s with
  | row k n=>
   obtain⟨ns,hn,h⟩:=h
   obtain⟨cs,h1,h2⟩:=ih h
   refine⟨_,?_,h2⟩
   intro c hc
   rcases List.mem_cons.1 hc with rfl | hc
   ·exact hn
   ·exact h1 c hc
  | _=>exact scal h
theorem AfS{t:TypeId}{K:DV->Prop}(h:exT P t K):∃d:DV,d.ok/\K d:=by
 unfold exT at h
 split at h
 ·obtain⟨d,h1,_,h2⟩:=qD h;exact⟨d,h1,h2⟩
 ·obtain⟨cs,h1,h2⟩:=AfR h;exact⟨.agg cs,h1,h2⟩
 ·exact h.elim
theorem An4{t:TypeId}{d:DV}(h:lD P t=some d):d.ok/\∃i,P.info? t=some i/\i.zero=some d.flat:=by
 unfold lD at h
 cases hi:P.info? t with
 | none=>simp[hi]at h
 | some i=>
  simp only[hi,Option.bind_some]at h
  split at h
  ·rename_i arr hz
   split at h
   ·rename_i l _
    split at h
    ·rename_i hv
     injection h with h
     subst h
     refine⟨?_,i,rfl,?_⟩
     ·intro c hc
      obtain⟨s,_,rfl⟩:=List.mem_map.1 hc
      exact lE s
     ·rw[hz]
      have:=Y8 hv
      simp only[DV.flat]
      rw[this]
    ·cases h
   ·cases h
  all_goals first | (injection h with h;subst h;rename_i hz;exact⟨by first | rfl | trivial,i,rfl,hz⟩) | cases h
theorem xO{t xt:TypeId}{x:SV}{xv:Value}{K:SV->Prop}(hx:x.rel xv)(h:VX P t x K):PureOk P (Instr.typeAssert xv xt t true) K:=by
 unfold VX at h
 split at h
 ·exact h.elim
 ·rename_i desc v z hni hu hz
  obtain⟨hv,rfl⟩:=hx
  obtain⟨zok,i,hi,hzz⟩:=An4 hz
  have rz:∀w,(zeroValue t).run P w=.ok z.flat w:=fun w=>MZ hi hzz w
  rcases h with⟨h1,hK⟩ | h
  ·refine⟨.tup [z,.one (.bool false)],_,⟨?_,rfl⟩,hK,fun w=>?_⟩
   ·intro y hy
    simp only[List.mem_cons,List.not_mem_nil,or_false]at hy
    rcases hy with rfl | rfl
    ·exact zok
    ·rfl
   ·rcases h1 with rfl | ⟨t',u,rfl,hne⟩
    ·cases desc <;> first | (exfalso;first | exact hni _ rfl | exact hni _ hu | exact hni _ _ rfl) | simp[Instr.typeAssert,run_underlying hu,DV.flat,rz w]
    ·cases desc <;> first | (exfalso;first | exact hni _ rfl | exact hni _ hu | exact hni _ _ rfl) | simp[Instr.typeAssert,run_underlying hu,DV.flat,rz w,hne]
  ·obtain⟨d,dok,rfl,hK⟩:=AfS h
   refine⟨.tup [d,.one (.bool true)],_,⟨?_,rfl⟩,hK,fun w=>?_⟩
   ·intro y hy
    simp only[List.mem_cons,List.not_mem_nil,or_false]at hy
    rcases hy with rfl | rfl
    ·exact dok
    ·rfl
   ·cases desc <;> first | (exfalso;first | exact hni _ rfl | exact hni _ hu | exact hni _ _ rfl) | simp[Instr.typeAssert,run_underlying hu,DV.flat]
 ·exact h.elim
theorem lT{o:Oper}{fr:Fr}{a:Act}{K:SV->Prop}(hFR:FR fr a.tmps)(h:F4 P o.op fr K):
  ∃x v,SV.rel x v/\K x/\∀w,(execOp a.eval o).run P w=.ok (.value v) w:=by
 unfold execOp
 cases hop:o.op with
 | move x=>rw[hop]at h;exact⟨_,_,CX hFR x,h,fun w=>rfl⟩
 | assign x=>rw[hop]at h;exact⟨_,_,CX hFR x,h,fun w=>rfl⟩
 | pick c x y=>
  rw[hop]at h
  simp only[F4]at h
  split at h
  ·rename_i t hc
   obtain⟨_,hv⟩:=B0 hFR hc
   cases t with
   | true=>exact⟨_,_,CX hFR _,h,fun w=>by simp[hv,DV.flat,asBool]⟩
   | false=>exact⟨_,_,CX hFR _,by simpa using h,fun w=>by simp[hv,DV.flat,asBool]⟩
  ·exact h.elim
 | nilCheck x=>
  rw[hop]at h
  simp only[F4]at h
  split at h
  ·rename_i p hx
   obtain⟨_,hv⟩:=B0 hFR hx
   exact⟨.dv (.addr p),_,⟨trivial,rfl⟩,h,fun w=>by simp[hv,DV.flat]⟩
  ·rename_i p hx
   obtain⟨q,rfl,hK⟩:=h
   obtain⟨_,hv⟩:=B0 hFR hx
   exact⟨.dv (.addr q),_,⟨trivial,rfl⟩,hK,fun w=>by simp[hv,DV.flat]⟩
  ·rename_i f fs cs hx
   obtain⟨_,hv⟩:=B0 hFR hx
   exact⟨.dv (.one (.func (.func f) fs cs)),_,⟨rfl,rfl⟩,h,fun w=>by simp[hv,DV.flat]⟩
  ·exact h.elim
 | binOp op t x y yt=>
  rw[hop]at h
  simp only[F4]at h
  have h:=qC (K:=fun y'=>VY P op t (ev fr x) y' (MN y) K) (qC (K:=fun x'=>evB fr y fun y'=>VY P op t x' y' (MN y) K) h)
  simp only[VY]at h
  split at h
  ·rename_i dx dy hx hy
   obtain⟨h1,e1⟩:=B0 hFR hx
   obtain⟨h2,e2⟩:=B0 hFR hy
   have:=xQ (P:=P) h1 h2 x y h
   simp only[e1,e2]
   exact PureOk.next this
  ·exact h.elim
 | unOp op t x=>
  rw[hop]at h
  simp only[F4]at h
  split at h
  ·rename_i dx hx
   obtain⟨h1,e1⟩:=B0 hFR hx
   simp only[e1]
   exact PureOk.next (yF h)
  ·exact h.elim
 | convert s d x=>rw[hop]at h;exact PureOk.next (xV (CX hFR x) h)
 | fieldAddr t x f=>rw[hop]at h;exact PureOk.next (xX (CX hFR x) h)
 | field t x f=>rw[hop]at h;exact PureOk.next (xY (CX hFR x) h)
 | indexAddr t x i=>rw[hop]at h;exact PureOk.next (xZ (CX hFR x) (fun j hj=>T7 (CX hFR i) hj) h)
 | sliceToArrayPointer t x=>rw[hop]at h;exact PureOk.next (xN (CX hFR x) h)
 | index t x i=>rw[hop]at h;exact PureOk.next (x7 (CX hFR x) (fun j hj=>T7 (CX hFR i) hj) h)
 | extract x i=>
  rw[hop]at h
  simp only[F4]at h
  split at h
  ·rename_i xs hx
   split at h
   ·rename_i d hd
    have hr:=CX hFR x
    rw[hx]at hr
    obtain⟨hok,hv⟩:=hr
    refine PureOk.next ⟨.dv d,d.flat,⟨hok d (List.mem_of_getElem? hd),rfl⟩,h,fun w=>?_⟩
    rw[hv]
    simp[Instr.extract,hd]
   ·exact h.elim
  ·exact h.elim
 | slice t x lo hi mx=>
  rw[hop]at h
  simp only[F4]at h
  split at h
  ·rename_i hlo hhi hmx
   exact PureOk.next (yE (CX hFR x) (jZ hFR hlo) (jZ hFR hhi) (jZ hFR hmx) h)
  ·exact h.elim
 | build t parts=>
  rw[hop]at h
  have h:VZ P t (parts.toList.map fun(i,x)=>(i,ev fr x)) K:=h
  refine PureOk.next (xS (by simp) ?_ h)
  intro i p q h1 h2
  simp only[List.getElem?_map,Array.toList_map,Option.map_eq_some_iff]at h1 h2
  obtain⟨x,hx,rfl⟩:=h1
  obtain⟨y,hy,rfl⟩:=h2
  rw[hx]at hy
  injection hy with hy
  subst hy
  exact⟨rfl,CX hFR _⟩
 | makeFunc fn first cap=>
  rw[hop]at h
  simp only[F4]at h
  split at h
  ·rename_i u c h1 h2
   have e1:=(UJ hFR _ _ h1).2
   have e2:=(UJ hFR _ _ h2).2
   refine PureOk.next (.one rfl h fun w=>?_)
   have e1':first.map a.eval=(u.map DV.flat).toArray:=by apply Array.toList_inj.1;simpa using e1
   have e2':cap.map a.eval=(c.map DV.flat).toArray:=by apply Array.toList_inj.1;simpa using e2
   simp[Instr.makeFunc,e1',e2']
  ·exact h.elim
 | makeInterface t x=>
  rw[hop]at h
  simp only[F4]at h
  split at h
  ·exact h.elim
  ·rename_i d dv hni hd hx
   obtain⟨h1,e1⟩:=B0 hFR hx
   refine PureOk.next ⟨.dv (.fnv (.iface t dv.flat)),_,⟨rfl,rfl⟩,h,fun w=>?_⟩
   cases d <;> first | (exfalso;exact hni _ rfl) | simp[e1,Instr.makeInterface,run_underlying hd,DV.flat]
  ·exact h.elim
 | typeAssert x xt t ok=>
  rw[hop]at h
  cases ok with
  | false=>exact h.elim
  | true=>
   have h:VX P t (ev fr x) K:=h
   exact PureOk.next (xO (CX hFR x) h)
 | call c=>
  obtain⟨callee,args,ats⟩:=c
  rw[hop]at h
  cases callee with
  | value _=>exact h.elim
  | invoke _ _=>exact h.elim
  | builtin b=>
   have h:Dbi P b ats.toList (args.toList.map (ev fr)) K:=h
   obtain⟨x,v,h1,h2,h3⟩:=xP (P:=P) hFR (ty:=o.type) (cs:=args.map fun | .const _=>true | _=>false) h
   refine⟨x,v,h1,h2,fun w=>?_⟩
   have:=h3 w
   simp only[resolve,Sem.run_bind,Sem.run_pure,Result.andThen_ok,invoke]
   have e:args.map a.eval=(args.toList.map a.eval).toArray:=by apply Array.toList_inj.1;simp
   rw[e]
   exact this
 | _=>rw[hop]at h;simp only[F4]at h
end Go.Vc
end
section
namespace Go.Vc
variable {P:Program}
def JW(P:Program)(K:SV->H->Prop)(w:World):Result Next->Prop
 | .ok (.value v) w'=>Rest w w'/\∃x,SV.rel x v/\K x w'.heap
 | .ok .skip w'=>Rest w w'/\K .nd w'.heap
 | .ok (.enter f args) w'=>w'=w/\Calls P f args w fun e w''=>∃v x,e=.returned v/\Rest w w''/\SV.rel x v/\K x w''.heap
 | _=>False
def MemOk(P:Program)(s:Sem Value)(K:SV->H->Prop)(w:World):Prop:=∃x v w',s.run P w=.ok v w'/\Rest w w'/\SV.rel x v/\K x w'.heap
theorem MemOk.next{s:Sem Value}{K:SV->H->Prop}{w:World}(h:MemOk P s K w):JW P K w ((do pure (Next.value (←s)):Sem Next).run P w):=by
 obtain⟨x,v,w',h1,h2,h3,h4⟩:=h
 simp only[Sem.run_bind,h1,Result.andThen_ok,Sem.run_pure]
 exact⟨h2,x,h3,h4⟩
/-! ### Rows of AB -/
theorem kA(z:Array Value):∀m:Nat,((List.range (m*z.size)).map fun i=>z[i % z.size]!)=(List.replicate m z.toList).flatten:=by
 intro m
 induction m with
 | zero=>simp
 | succ m ih=>
  rw[Nat.succ_mul,List.range_add,List.map_append,ih,List.replicate_succ',List.flatten_append]
  congr 1
  simp only[List.map_map,List.flatten_cons,List.flatten_nil,List.append_nil]
  apply List.ext_getElem
  ·simp
  ·intro i h1 h2
   simp at h1
   have:(m*z.size+i) % z.size=i:=by rw[Nat.add_comm,Nat.add_mul_mod_self_right,Nat.mod_eq_of_lt h1]
   simp[this,h1]
/-! ### What a slice holds -/
theorem W5{w:World}{p:Option Addr}{sz l:Nat}{vs:List Value}(h:hsv w.heap p sz l vs)(x y:Nat):(Builtin.firstCells sz l (.slice p x y)).run P w=.ok vs.toArray w:=by
 obtain⟨hl,_,h⟩:=h
 cases p with
 | none=>
  rcases h with rfl | ⟨q,hq,_⟩
  ·rfl
  ·cases hq
 | some a=>
  have hcs':hcs w.heap a vs:=by
   rcases h with rfl | ⟨q,hq,h⟩
   ·exact rH _ _
   ·cases hq;exact h
  have:=u0 (P:=P) (w:=w) (a:=a) vs 0 #[] (by rw[add_zero];exact hcs')
  rw[hl]at this
  simpa[Builtin.firstCells,loadCells]using this
theorem AfW{w:World}(s:ByteArray):(Builtin.firstCells 1 s.size (.string s)).run P w=.ok (s.data.toList.map fun b=>Value.int .u8 b.toNat).toArray w:=by
 simp only[Builtin.firstCells,Sem.run_pure]
 congr 1
 apply Array.toList_inj.1
 have:s.extract 0 s.size=s:=by
  obtain⟨⟨l⟩⟩:=s
  apply ByteArray.ext
  simp[ByteArray.size]
 rw[this]
 simp
theorem US{w:World}{c:List Value}{t:TypeId}:hnew w.heap w.heap.size c (w.heap.push (.cells c.toArray t)):=
 ⟨rfl,t,0,0,fun i _=>by omega,rfl⟩
theorem MY(t:TypeId)(c:List Value)(w:World):(newRow t c.toArray).run P w=.ok ⟨w.heap.size,0,none⟩ { w with heap:=w.heap.push (.cells c.toArray t) }:=by
 simp[newRow]
theorem vP{w:World}{p:Option Addr}{vs:List Value}(h1:∀v,v∈vs->v.oneCell'=true)(h2:vs=[]∨∃a,p=some a/\AC w.heap a vs.length):
  ∃w',(match p with | some a=>storeCells a vs | none=>pure ():Sem Unit).run P w=.ok () w'/\w'.heap=E8 w.heap p vs/\Rest w w':=by
 cases p with
 | none=>exact⟨w,rfl,rfl,Rest.refl w⟩
 | some a=>
  have hcn:AC w.heap a vs.length:=by
   rcases h2 with rfl | ⟨q,hq,h⟩
   ·intro i hi;simp at hi
   ·cases hq;exact h
  obtain⟨w',r1,r2,r3⟩:=u5 (P:=P) h1 hcn
  exact⟨w',r1,r2,r3⟩
theorem o3{st xt e:TypeId}{ty:TypeId}{sz bytes:Nat}{z:List Ch}{p:Option Addr}{l c n:Nat}{xv:Value}{vs:List Value}{w:World}{K:SV->H->Prop}
  (hu:P.underlying st=some (.slice e)) (hxt:jE P xt=true) (hsz:C5 P e=some sz) (hb:(P.info? e).map TypeInfo.bytes=some (bytes+1)) (hz:II P e=some z)
  (hlen:∀w:World,(Builtin.lenOf xv).run P w=.ok n w) (hcells:∀w',w'.heap=w.heap->(Builtin.firstCells sz n xv).run P w'=.ok vs.toArray w') (hvn:vs.length=n*sz) (hv1:∀v,v∈vs->v.oneCell'=true)
  (h:AZ w.heap sz (AM z) (bytes+1) p l c n vs fun p' l' c' h'=>K (.dv (.one (.slice p' l' c'))) h'):
  MemOk P (Builtin.append_ #[st,xt] ty #[.slice p l c,xv]) K w:=by
 obtain⟨hzok,i,zv,hi,hzv,hzc⟩:=TH hz
 have hib:i.bytes=bytes+1:=by simp[hi]at hb;exact hb
 have hdx:(∃e',P.underlying xt=some (.slice e'))∨P.underlying xt=some .string:=by
  unfold jE at hxt
  split at hxt
  ·rename_i h';exact .inl ⟨_,h'⟩
  ·rename_i h';exact .inr h'
  ·simp at hxt
 unfold AZ at h
 by_cases hroom:l+n≤c
 ·rw[if_pos hroom]at h
  obtain⟨hcn,hK⟩:=h
  obtain⟨w',r1,r2,r3⟩:=vP (P:=P) (w:=w) (p:=p.map (·.add (l*sz))) hv1 (by
   rcases hcn with rfl | ⟨a,rfl,hcn⟩
   ·exact .inl rfl
   ·exact .inr ⟨_,rfl,by rw[hvn];exact hcn⟩)
  refine⟨.dv (.one (.slice p (l+n) c)),.slice p (l+n) c,w',?_,r3,⟨rfl,rfl⟩,hK _ r2⟩
  rcases hdx with⟨e',hdx⟩ | hdx
  all_goals
   simp only[Builtin.append_,List.getElem?_toArray,List.getElem?_cons_zero,List.getElem?_cons_succ,Sem.run_bind,run_underlying hu,Result.andThen_ok,E0 hsz,run_underlying hdx,Sem.run_pure,
    Bool.false_eq_true,if_false,hlen,hroom,if_true,Bool.not_false,hcells w rfl]
   cases p with
   | none=>simp only[Option.map_none]at r1;simp only[Sem.run_pure];cases r1;rfl
   | some a=>simp only[Option.map_some]at r1;simp only[r1,Result.andThen_ok,Sem.run_bind,Sem.run_pure]
 ·rw[if_neg hroom]at h
  obtain⟨hfit,old,hold,hK⟩:=h
  have hneed:c<l+n:=by omega
  have h48:=growslice_fits (bytes:=i.bytes) hneed (by rw[hib];exact hfit)
  let q:=Question.appendCap (l+n) c e
  let cap:=q.cut (w.tape w.drawn q)
  have hcap:l+n≤cap:=by show l+n≤(l+n)+_;omega
  let w1:World:={ w with drawn:=w.drawn+1 }
  have hrest:Builtin.zeroCells zv.cells (cap-(l+n))=(List.replicate (cap-(l+n)) (AM z)).flatten.toArray:=by
   apply Array.toList_inj.1
   simp only[Builtin.zeroCells,Array.toList_map,Array.toList_range]
   rw[kA,hzc]
  refine⟨.dv (.one (.slice (some ⟨w.heap.size,0,none⟩) (l+n) cap)),_,{ w1 with heap:=w1.heap.push (.cells (old++vs++(List.replicate (cap-(l+n)) (AM z)).flatten).toArray e) },
   ?_,⟨rfl,rfl,rfl⟩,⟨rfl,rfl⟩,hK cap _ _ hcap US⟩
  have hold':(Builtin.firstCells sz l (.slice p l c)).run P w1=.ok old.toArray w1:=W5 (w:=w1) (show hsv w1.heap p sz l old from hold) l c
  have hne:¬(i.bytes=0):=by omega
  have hbig:¬(281474976710656<Builtin.nextslicecap (l+n) c*i.bytes):=by omega
  have hc1:=hcells w1 rfl
  have hrest':Builtin.zeroCells zv.cells (cap-(l+n))=_:=hrest
  simp only[cap,q]at hrest'
  simp only[w1]at hold' hc1 ⊢
  have happ:old.toArray++vs.toArray++(List.replicate (Question.cut (Question.appendCap (l+n) c e) (w.tape w.drawn (Question.appendCap (l+n) c e))-(l+n)) (AM z)).flatten.toArray =
    (old++vs++(List.replicate (Question.cut (Question.appendCap (l+n) c e) (w.tape w.drawn (Question.appendCap (l+n) c e))-(l+n)) (AM z)).flatten).toArray:=by simp
  rcases hdx with⟨e',hdx⟩ | hdx
  all_goals
   simp only[Builtin.append_,List.getElem?_toArray,List.getElem?_cons_zero,List.getElem?_cons_succ,Sem.run_bind,run_underlying hu,Result.andThen_ok,E0 hsz,run_underlying hdx,Sem.run_pure,
    Bool.false_eq_true,if_false,hlen,hroom,Bool.not_false,YL hi,Nat.reducePow,gt_iff_lt,hbig,hne,or_self,and_false,run_choose,Question.forced,run_askRoom]
   rw[hold']
   simp only[Result.andThen_ok,hc1,if_true,MZ hi hzv]
   rw[hrest',happ,MY]
   rfl
theorem xL{ats:Array TypeId}{args:List Operand}{fr:Fr}{a:Act}{ty:TypeId}{w:World}{K:SV->H->Prop}(hFR:FR fr a.tmps)
  (h:ZD P ats.toList (args.map (ev fr)) K w.heap):MemOk P (Builtin.append_ ats ty (args.map a.eval).toArray) K w:=by
 obtain⟨ats⟩:=ats
 simp only at h
 unfold ZD at h
 split at h
 ·rename_i st xt p l c x hargs
  obtain⟨o1,o2,rfl,h1,h2⟩:=XW hargs
  obtain⟨_,hv1⟩:=B0 hFR h1
  split at h
  ·rename_i e hu hxt
   split at h
   ·rename_i sz bytes z hsz hb hz
    unfold vL at h
    split at h
    ·rename_i q n qc
     obtain⟨_,hv2⟩:=B0 hFR h2
     obtain⟨vs,hvs,h⟩:=h
     simp only[List.map_cons,List.map_nil,hv1,hv2,DV.flat]
     exact o3 hu hxt hsz hb hz (fun w=>rfl) (fun w' hw'=>W5 (by rw[hw'];exact hvs) n qc) hvs.1 hvs.2.1 h
    ·rename_i s
     obtain⟨_,hv2⟩:=B0 hFR h2
     split at h
     ·rename_i hs1
      have hs1:=Nat.eq_of_beq_eq_true hs1
      subst hs1
      simp only[List.map_cons,List.map_nil,hv1,hv2,DV.flat]
      refine o3 hu hxt hsz hb hz (fun w=>rfl) (fun w' _=>AfW s) (by simp) ?_ h
      intro v hv
      simp at hv
      obtain⟨b,_,rfl⟩:=hv
      rfl
     ·exact h.elim
    ·exact h.elim
   ·exact h.elim
  ·exact h.elim
 ·exact h.elim
theorem xW{ats:Array TypeId}{args:List Operand}{fr:Fr}{a:Act}{ty:TypeId}{w:World}{K:SV->H->Prop}(hFR:FR fr a.tmps)
  (h:ZJ P ats.toList (args.map (ev fr)) K w.heap):MemOk P (Builtin.copy_ ats ty (args.map a.eval).toArray) K w:=by
 obtain⟨ats⟩:=ats
 simp only at h
 unfold ZJ at h
 split at h
 ·rename_i st r p l c q n d hargs
  obtain⟨o1,o2,rfl,h1,h2⟩:=XW hargs
  obtain⟨_,hv1⟩:=B0 hFR h1
  obtain⟨_,hv2⟩:=B0 hFR h2
  split at h
  ·rename_i e hu
   split at h
   ·rename_i sz hsz
    obtain⟨vs,hvs,hcn,hK⟩:=h
    obtain⟨w',r1,r2,r3⟩:=vP (P:=P) (w:=w) (p:=p) hvs.2.1 (by rw[hvs.1];exact hcn)
    refine⟨.dv (.one (.int .i64 (Nat.min n l:Nat))),_,w',?_,r3,⟨rfl,rfl⟩,hK _ r2⟩
    simp only[List.map_cons,List.map_nil,hv1,hv2,DV.flat,Builtin.copy_,List.getElem?_toArray,List.getElem?_cons_zero,List.getElem?_cons_succ,Sem.run_bind,run_underlying hu,Result.andThen_ok,Builtin.lenOf,
     Sem.run_pure,E0 hsz,W5 hvs]
    cases p with
    | none=>simp only at r1;simp only[Sem.run_pure];cases r1;rfl
    | some a=>simp only at r1;simp only[Sem.run_bind,r1,Result.andThen_ok,Sem.run_pure,goInt]
   ·exact h.elim
  ·exact h.elim
 ·exact h.elim
theorem AkS{t:TypeId}{cs:List Ch}(hz:II P t=some cs)(w:World):
  (Instr.alloc t true (.tuple #[])).run P w=.ok (.pointer (some ⟨w.heap.size,0,none⟩)) { w with heap:=w.heap.push (.cells (AM cs).toArray t) }:=by
 obtain⟨hzok,i,zv,hi,hzv,hzc⟩:=TH hz
 have e:zv.cells=(AM cs).toArray:=by apply Array.toList_inj.1;simp[hzc]
 simp[Instr.alloc,MZ hi hzv,newVar,e,MY]
theorem AlD{sz:Nat}:∀(parts:List (Nat×SV)) (vals:List (Nat×Value)) (l l':List (List Ch)) (cells:Array Value),
  parts.length=vals.length->(∀(i:Nat) (p:Nat×SV) (q:Nat×Value),parts[i]?=some p->vals[i]?=some q->p.1=q.1/\p.2.rel q.2)->
  LN sz parts l=some l'->(∀x,x∈l->oks x/\B7 x=sz)->cells.toList=AM l.flatten->
  (∀x,x∈l'->oks x/\B7 x=sz)/\∃cells':Array Value,Instr.fill (fun i=>some (i*sz,sz)) cells vals=some cells'/\cells'.toList=AM l'.flatten:=by
 intro parts
 induction parts with
 | nil=>
  intro vals l l' cells hlen _ h hok hc
  cases vals with
  | nil=>simp[LN]at h;subst h;exact⟨hok,cells,rfl,hc⟩
  | cons _ _=>simp at hlen
 | cons p parts ih=>
  intro vals l l' cells hlen hrel h hok hc
  cases vals with
  | nil=>simp at hlen
  | cons q vals=>
  obtain⟨i,sv⟩:=p
  obtain⟨i',v⟩:=q
  obtain⟨he,hr⟩:=hrel 0 _ _ rfl rfl
  simp only at he hr
  subst he
  cases sv with
  | un=>simp[LN]at h
  | nd=>simp[LN]at h
  | tup _=>simp[LN]at h
  | dv x=>
   obtain⟨hx,rfl⟩:=hr
   simp only[LN]at h
   split at h
   ·rename_i hs hlt
    have hs:=Nat.eq_of_beq_eq_true hs
    have hlt:i<l.length:=Nat.le_of_ble_eq_true hlt
    have hxs:=DV.chs_oks hx
    have hcl:=DV.cells_flat hx
    have hcs:x.flat.cells.size=sz:=by rw[hcl];simp[HO hxs,hs]
    -- how the flattened list parts at the i-th element
    have hfl:∀(m:List (List Ch)),(∀x,x∈m->oks x/\B7 x=sz)->(AM m.flatten).length=m.length*sz:=by
     intro m
     induction m with
     | nil=>intro _;simp[AM]
     | cons y m ihm=>
      intro hm
      simp only[List.flatten_cons,UO,List.length_append,List.length_cons]
      rw[ihm (fun x hx=>hm x (by simp[hx])),HO (hm y (by simp)).1,(hm y (by simp)).2,Nat.succ_mul,Nat.add_comm]
    have hsplit:l=l.take i++l[i]::l.drop (i+1):=by rw[List.getElem_cons_drop,List.take_append_drop]
    have htk:∀x,x∈l.take i->oks x/\B7 x=sz:=fun x hx=>hok x (List.mem_of_mem_take hx)
    have hln:(AM (l.take i).flatten).length=i*sz:=by rw[hfl _ htk];simp[Nat.min_eq_left (Nat.le_of_lt hlt)]
    have hli:(AM l[i]).length=sz:=by rw[HO (hok _ (List.getElem_mem hlt)).1,(hok _ (List.getElem_mem hlt)).2]
    have hall:AM l.flatten=AM (l.take i).flatten++(AM l[i]++AM (l.drop (i+1)).flatten):=by
     calc AM l.flatten=AM (l.take i++l[i]::l.drop (i+1)).flatten:=congrArg (fun m=>AM (List.flatten m)) hsplit
      _=_:=by simp only[List.flatten_append,List.flatten_cons,UO]
    obtain⟨cells',h1,h2⟩:=qI (rest:=vals) (place:=fun i=>some (i*sz,sz)) (i:=i) rfl hcs (cells:=cells) (by
     rw[←Array.length_toList,hc,hall];simp only[List.length_append,hln,hli];omega)
    rw[h2]
    refine ih vals (l.set i x.chs) l' cells' (by simpa using hlen) (fun j p q h3 h4=>hrel (j+1) p q (by simpa using h3) (by simpa using h4)) h ?_ ?_
    ·intro y hy
     rcases List.mem_or_eq_of_mem_set hy with hy | rfl
     ·exact hok y hy
     ·exact⟨hxs,hs⟩
    ·rw[h1,hc,hcl,List.set_eq_take_append_cons_drop,if_pos hlt]
     have e1:List.take (i*sz) (AM l.flatten)=AM (l.take i).flatten:=by rw[hall,List.take_left' hln]
     have e2:List.drop (i*sz+sz) (AM l.flatten)=AM (l.drop (i+1)).flatten:=by
      rw[hall,←List.append_assoc,List.drop_left' (by simp[hln,hli])]
     rw[e1,e2]
     simp[UO]
   ·simp at h
theorem Ag0(n:Nat)(z:List Ch):AM (List.replicate n z).flatten=(List.replicate n (AM z)).flatten:=by
 induction n with
 | zero=>rfl
 | succ n ih=>simp[List.replicate_succ,UO,ih]
theorem AiD{T:Tbl}{f:Nat}{r:Run}(h:U4 T f=some r):(f,r)∈T:=by
 induction T with
 | nil=>simp[U4]at h
 | cons x T ih=>
  obtain⟨g,r'⟩:=x
  simp only[U4]at h
  split at h
  ·rename_i hg
   have:=Nat.eq_of_beq_eq_true hg
   simp at h;subst h;subst this;exact List.mem_cons_self
  ·exact List.mem_cons_of_mem _ (ih h)
theorem AkT{f:FuncId}(h:L8 P f=true)(args:Array Value)(w:World):(callFunc f args).run P w=.ok (.enter f args) w:=by
 unfold L8 at h
 cases hf:P.funcs[f]? with
 | none=>simp[hf]at h
 | some fn=>
  simp only[hf,Bool.and_eq_true,Bool.not_eq_true']at h
  have hb:fn.body.isNone=false:=by cases hbb:fn.body <;> simp[hbb]at h ⊢
  simp only[callFunc,Sem.run_bind,run_program,Result.andThen_ok,hf,h.1,Bool.false_eq_true,if_false,hb,Sem.run_pure]
theorem vX(v:Value):(GL v).flat=v:=by
 unfold GL
 split <;> rfl
theorem Y6{v:Value}(h:v.oneCell'=true):(GL v).ok:=by
 unfold GL
 split
 ·trivial
 ·exact h
theorem Am8{xs:List DV}(h:∀x,x∈xs->x.ok):(M3 xs).rel (HZ xs):=by
 unfold M3 HZ
 split
 ·exact⟨h _ (by simp),rfl⟩
 ·exact⟨h,rfl⟩
theorem sQ{s:Sh}{x:DV}{K:DV->Prop}(h:XK s x K):K x:=by
 cases s <;> simp only[XK]at h
 case slc=>obtain⟨p,l,c,rfl,h⟩:=h;exact h
 all_goals obtain⟨n,rfl,h⟩:=h;exact h
theorem wA:∀(shs:List TSh) (rs:List DV) (K:List DV->Prop),Y7 shs rs K->K rs:=by
 intro shs
 induction shs with
 | nil=>intro rs K h;obtain⟨rfl,h⟩:=h;exact h
 | cons s shs ih=>
  intro rs K h
  cases s with
  | sc s=>
   obtain⟨x,rest,rfl,h⟩:=h
   exact ih rest (fun l=>K (x::l)) (sQ h)
  | ag _=>exact h.elim
theorem jR{f:FuncId}{args:List Value}{Q:List DV->H->Prop}{K:SV->H->Prop}{w:World}(h:callsV P f args Q w.heap)(hQ:∀rs h',Q rs h'->K (M3 rs) h')(args':Array Value)(ha:args'=args.toArray):
  JW P K w ((callFunc f args').run P w):=by
 subst ha
 rw[AkT h.1]
 refine⟨rfl,(h.2 w rfl).mono fun e w' he=>?_⟩
 obtain⟨xs,hok,rfl,hr,hq⟩:=he
 exact⟨_,M3 xs,rfl,hr,Am8 hok,hQ _ _ hq⟩
theorem xU{T:Tbl}(hT:TblOk P T){f:Operand}{args:Array Operand}{ats:Array TypeId}{ty:TypeId}{fr:Fr}{a:Act}(hFR:FR fr a.tmps){K:SV->H->Prop}{w:World}
  (h:ZH P T ty (ev fr f) (dvs (args.toList.map (ev fr))) K w.heap):
  JW P K w ((do let d ←resolve a.eval { callee:=.value f,args,argTypes:=ats } ty;invoke d.target d.args:Sem Next).run P w):=by
 unfold ZH at h
 split at h
 ·rename_i g fa fc xs hf hxs
  obtain⟨_,hv⟩:=B0 hFR hf
  obtain⟨hok,hargs⟩:=UJ hFR _ _ hxs
  split at h
  ·rename_i run hrun hone
   have hone':∀v,v∈fa.toList++fc.toList->v.oneCell'=true:=by rw[List.all_eq_true]at hone;exact hone
   have hc:=hT g run (AiD hrun) _ _ _ (by
    intro x hx
    simp only[List.mem_append,List.mem_map]at hx
    rcases hx with (⟨v,hv,rfl⟩ | hx) | ⟨v,hv,rfl⟩
    ·exact Y6 (hone' v (by simp[hv]))
    ·exact hok x hx
    ·exact Y6 (hone' v (by simp[hv]))) h
   have e:((do let d ←resolve a.eval { callee:=.value f,args,argTypes:=ats } ty;invoke d.target d.args:Sem Next).run P w)=(callFunc g (fa++args.map a.eval++fc)).run P w:=by
    simp[resolve,hv,DV.flat,Deferred.ofValue,invoke]
   rw[e]
   refine jR hc (fun rs h' hh=>hh) _ ?_
   apply Array.toList_inj.1
   simp only[Array.toList_append,Array.toList_map,List.map_append,List.map_map]
   rw[hargs]
   have:∀l:List Value,l.map (DV.flat ∘ GL)=l:=fun l=>by
    have:(DV.flat ∘ GL)=id:=funext vX
    rw[this];simp
   rw[this,this]
  ·exact h.elim
 ·rename_i v xs hf hxs
  obtain⟨_,hv⟩:=B0 hFR hf
  obtain⟨hok,hargs⟩:=UJ hFR _ _ hxs
  split at h
  ·rename_i shs hshs
   obtain⟨g,fa,fc,rfl,hc⟩:=h
   have e:((do let d ←resolve a.eval { callee:=.value f,args,argTypes:=ats } ty;invoke d.target d.args:Sem Next).run P w)=(callFunc g (fa++args.map a.eval++fc)).run P w:=by
    simp[resolve,hv,DV.flat,Deferred.ofValue,invoke]
   rw[e]
   refine jR hc (fun rs h' hh=>wA _ _ _ hh) _ ?_
   apply Array.toList_inj.1
   simp only[Array.toList_append,Array.toList_map]
   rw[hargs]
  ·exact h.elim
 ·exact h.elim
theorem x9{x:Operand}{name:String}{args:Array Operand}{ats:Array TypeId}{ty:TypeId}{fr:Fr}{a:Act}(hFR:FR fr a.tmps){K:SV->H->Prop}{w:World}
  (h:ZO P ty (ev fr x) name (dvs (args.toList.map (ev fr))) K w.heap):
  JW P K w ((do let d ←resolve a.eval { callee:=.invoke x name,args,argTypes:=ats } ty;invoke d.target d.args:Sem Next).run P w):=by
 unfold ZO at h
 split at h
 ·rename_i v xs hf hxs
  obtain⟨_,hv⟩:=B0 hFR hf
  obtain⟨hok,hargs⟩:=UJ hFR _ _ hxs
  split at h
  ·rename_i shs hshs
   obtain⟨t,u,f,r,rfl,hm,hc⟩:=h
   have e:((do let d ←resolve a.eval { callee:=.invoke x name,args,argTypes:=ats } ty;invoke d.target d.args:Sem Next).run P w)=(callFunc f (#[r]++args.map a.eval)).run P w:=by
    have hsz:(args.map a.eval).size=args.size:=by simp
    have e2:(#[Value.iface t u]++args.map a.eval).extract 1 (#[Value.iface t u]++args.map a.eval).size=args.map a.eval:=by
     apply Array.toList_inj.1
     simp
     rw[List.take_of_length_le (by simp)]
    simp only[resolve,hv,DV.flat,Sem.run_bind,Sem.run_pure,Result.andThen_ok,invoke]
    have e3:(#[Value.iface t u]++args.map a.eval)[0]?=some (.iface t u):=by rw[Array.getElem?_append_left (by simp)];rfl
    simp only[e3,callMethod,e2,Sem.run_bind,run_program,Result.andThen_ok,hm w]
   rw[e]
   refine jR hc (fun rs h' hh=>wA _ _ _ hh) _ ?_
   apply Array.toList_inj.1
   simp only[Array.toList_append,Array.toList_map]
   rw[hargs]
   rfl
  ·exact h.elim
 ·exact h.elim
/-! ### Maps -/
theorem pK(a b:ByteArray):(a == b)=true↔a=b:=by
 cases a;cases b
 show ByteArray.beq _ _=true↔_
 unfold ByteArray.beq
 simp
theorem sU{kt:TypeId}{key k':Value}{b:Bool}{desc:TypeDesc}(hu:P.underlying kt=some desc)(hk:GG P kt key=true)(h:KD key k'=some b):Instr.sameNow desc key k'=some b:=by
 unfold GG at hk
 rw[hu]at hk
 unfold KD at h
 split at h
 ·split at h
  ·rename_i hkk
   have hkk:=eq_of_beq hkk
   subst hkk
   cases desc <;> simp[Instr.sameNow]at hk h ⊢
   exact h
  ·cases h
 ·cases desc <;> simp[Instr.sameNow]at hk h ⊢
  exact h
 ·cases desc <;> simp[Instr.sameNow]at hk h ⊢
  exact h
 ·cases h
theorem AhP{key k':Value}(h:KD key k'=some true):key=k':=by
 unfold KD at h
 split at h
 ·split at h
  ·rename_i hkk
   have hkk:=eq_of_beq hkk
   subst hkk
   simpa using h
  ·cases h
 ·injection h with h
  rw[(pK _ _).1 h]
 ·simpa using h
 ·cases h
theorem qK{kt:TypeId}{key:Value}{desc:TypeDesc}(hu:P.underlying kt=some desc)(hk:GG P kt key=true)(z d:DV):∀(es:List (Value×DV)) (l:List MapEntry) (i:Nat),l.map (fun e=>(e.key,e.val))=es.map (fun e=>(e.1,e.2.flat))->
  ∀x,D7 key z es=some x->(x=(z,false)/\Instr.findNow desc key l i=some none/\FW key d es=some (es++[(key,d)])) ∨
   (∃j,Instr.findNow desc key l i=some (some (i+j,x.1.flat))/\x.2=true/\j<l.length/\(l[j]?).map (·.key)=some key/\FW key d es=some (es.set j (key,d))/\(key,x.1)∈es):=by
 intro es
 induction es with
 | nil=>
  intro l i hl x hx
  have:l=[]:=by simpa using hl
  subst this
  simp[D7]at hx
  exact Or.inl ⟨hx.symm,rfl,rfl⟩
 | cons e es ih=>
  intro l i hl x hx
  cases l with
  | nil=>simp at hl
  | cons m l=>
   simp only[List.map_cons,List.cons.injEq,Prod.mk.injEq]at hl
   obtain⟨⟨h1,h2⟩,h3⟩:=hl
   unfold D7 at hx
   split at hx
   ·rename_i hq
    injection hx with hx
    subst hx
    have hn:=sU hu hk hq
    have he:=AhP hq
    refine Or.inr ⟨0,?_,rfl,by simp,by simp[h1,he],?_,by rw[he];simp⟩
    ·simp only[Instr.findNow,h1,hn,h2];rfl
    ·simp[FW,hq]
   ·rename_i hq
    have hn:=sU hu hk hq
    rcases ih l (i+1) h3 x hx with⟨g1,g2,g3⟩ | ⟨j,g1,g2,g3,g4,g5,g6⟩
    ·exact Or.inl ⟨g1,by simp only[Instr.findNow,h1,hn,g2],by simp[FW,hq,g3]⟩
    ·refine Or.inr ⟨j+1,?_,g2,by simp;omega,by simpa using g4,?_,List.mem_cons_of_mem _ g6⟩
     ·simp only[Instr.findNow,h1,hn,g1];congr 3;omega
     ·simp[FW,hq,g5]
   ·cases hx
theorem AiP{key:Value}{d z:DV}:∀{es es':List (Value×DV)},FW key d es=some es'->∃x,D7 key z es=some x:=by
 intro es
 induction es with
 | nil=>intro es' _;exact⟨_,rfl⟩
 | cons e es ih=>
  intro es' h
  unfold FW at h
  unfold D7
  split at h
  ·exact⟨_,rfl⟩
  ·cases hi:FW key d es with
   | none=>simp[hi]at h
   | some r=>exact ih hi
  ·cases h
theorem kF{kt:TypeId}{key:Value}(hk:GG P kt key=true)(b:Bool)(w:World):(Instr.checkKey b 10000 kt key).run P w=.ok () w:=by
 unfold GG at hk
 unfold Instr.checkKey
 split at hk <;> first | (rename_i hu;simp only[Sem.run_bind,run_underlying hu,Result.andThen_ok,Sem.run_pure]) | cases hk
theorem Al4{kt:TypeId}{key:Value}(hk:GG P kt key=true):Instr.sameBits 10000 key key=true:=by
 unfold GG at hk
 split at hk
 ·simp[Instr.sameBits]
 ·unfold Instr.sameBits;exact (pK _ _).2 rfl
 ·simp[Instr.sameBits]
 ·cases hk
theorem sW{kt:TypeId}{key:Value}(hk:GG P kt key=true):∃desc,P.underlying kt=some desc:=by
 unfold GG at hk
 cases hu:P.underlying kt with
 | none=>simp[hu]at hk
 | some desc=>exact⟨_,rfl⟩
theorem UM{kt:TypeId}{key:Value}{desc:TypeDesc}{l:List MapEntry}{o:Option (Nat×Value)}(hu:P.underlying kt=some desc)(h:Instr.findNow desc key l 0=some o)(w:World):(Instr.findKey kt key l).run P w=.ok o w:=by
 unfold Instr.findKey
 simp only[Sem.run_bind,run_underlying hu,Result.andThen_ok,h,Sem.run_pure]
theorem kG{w:World}{r:Nat}{a:Array MapEntry}{cl:Nat}(h:w.heap[r]?=some (.map a cl)):(getObj r).run P w=.ok (.map a cl) w:=by simp[getObj,Sem.run,h]
theorem u4{w:World}{r:Nat}{a:Array MapEntry}{cl:Nat}(o:Obj)(h:w.heap[r]?=some (.map a cl)):(setObj r o).run P w=.ok () { w with heap:=w.heap.setIfInBounds r o }:=by simp[setObj,Sem.run,h]
theorem lS{t:TypeId}{m k v:SV}{mv kv vv:Value}{K:H->Prop}{w:World}(hm:m.rel mv)(hk:k.rel kv)(hv:v.rel vv)(h:V0 P t m k v K w.heap):
  ∃w',(Instr.mapUpdate t mv kv vv).run P w=.ok () w'/\Rest w w'/\K w'.heap:=by
 unfold V0 at h
 split at h
 ·rename_i kt et r key d hu
  split at h
  ·rename_i hkt
   obtain⟨q,es,es',rfl,⟨a,cl,hq,he,hok⟩,hins,hK⟩:=h
   obtain⟨_,rfl⟩:=hm
   obtain⟨_,rfl⟩:=hk
   obtain⟨hdok,rfl⟩:=hv
   obtain⟨desc,hud⟩:=sW hkt
   obtain⟨x,hx⟩:=AiP (z:=d) hins
   show ∃w',(Instr.mapUpdate t (.map (some q)) kv d.flat).run P w=_/\_
   unfold Instr.mapUpdate
   simp only[Sem.run_bind,run_underlying hu,Result.andThen_ok,kG hq,kF hkt]
   rcases qK hud hkt d d es a.toList 0 he x hx with⟨g1,g2,g3⟩ | ⟨j,g1,g2,g3,g4,g5,g6⟩
   ·rw[hins]at g3
    injection g3 with g3
    subst g3
    simp only[UM hud g2,Result.andThen_ok,u4 _ hq]
    refine⟨_,rfl,⟨rfl,rfl,rfl⟩,hK _ ⟨_,_,rfl,?_,?_⟩⟩
    ·simp[he]
    ·intro e hm
     rcases List.mem_append.1 hm with y | y
     ·exact hok e y
     ·simp at y;subst y;exact hdok
   ·rw[hins]at g5
    injection g5 with g5
    subst g5
    simp only[UM hud g1,Result.andThen_ok]
    have ek:((a[0+j]?).map (·.key)).getD kv=kv:=by
     have:a[0+j]?=a.toList[j]?:=by simp
     rw[this,g4];rfl
    simp only[Instr.keyThatStays,ek,Al4 hkt,if_true,Sem.run_bind,Sem.run_pure,Result.andThen_ok,u4 _ hq]
    refine⟨_,rfl,⟨rfl,rfl,rfl⟩,hK _ ⟨_,_,rfl,?_,?_⟩⟩
    ·apply List.ext_getElem?
     intro y
     have hey:∀y:Nat,(a.toList[y]?).map (fun e:MapEntry=>(e.key,e.val))=(es[y]?).map (fun e:Value×DV=>(e.1,e.2.flat)):=fun y=>by
      have:=congrArg (·[y]?) he
      simpa using this
     have hje:j<es.length:=by
      have:=congrArg List.length he
      simp at this g3;omega
     rw[List.getElem?_map,List.getElem?_map,Array.getElem?_toList,Array.getElem?_modify]
     by_cases c:j=y
     ·subst c
      rw[List.getElem?_set_self hje]
      simp at g3
      simp[g3]
     ·rw[List.getElem?_set_ne c,if_neg (by omega),←hey y,Array.getElem?_toList]
    ·intro e hm
     rcases List.mem_or_eq_of_mem_set hm with y | y
     ·exact hok e y
     ·subst y;exact hdok
  ·exact h.elim
 ·exact h.elim
theorem AiQ{key:Value}{z:DV}{x:DV×Bool}:∀{es:List (Value×DV)},D7 key z es=some x->x=(z,false)∨∃e,e∈es/\e.2=x.1:=by
 intro es
 induction es with
 | nil=>intro h;simp[D7]at h;exact Or.inl h.symm
 | cons e es ih=>
  intro h
  unfold D7 at h
  split at h
  ·injection h with h;subst h;exact Or.inr ⟨e,by simp,rfl⟩
  ·rcases ih h with y | ⟨e',y1,y2⟩
   ·exact Or.inl y
   ·exact Or.inr ⟨e',List.mem_cons_of_mem _ y1,y2⟩
  ·cases h
theorem An5{t:TypeId}{d:DV}(h:ZA P t=some d):d.ok/\∃i,P.info? t=some i/\i.zero=some d.flat:=by
 unfold ZA at h
 cases hi:P.info? t with
 | none=>simp[hi]at h
 | some i=>
  simp only[hi,Option.bind_some]at h
  split at h <;> first | (injection h with h;subst h;rename_i hz;exact⟨by first | rfl | trivial,i,rfl,hz⟩) | cases h
theorem AhM{t:TypeId}{d:DV}{K:DV->Prop}(h:isT P t d K):K d:=by
 unfold isT at h
 split at h
 ·exact sQ h
 ·exact h.elim
theorem AkU{t kt et:TypeId}{r:Option Nat}{key:Value}{z:DV}{es:List (Value×DV)}{d:DV}{b ok:Bool}{w:World}(hu:P.underlying t=some (.map kt et))(hk:GG P kt key=true)(hz:ZA P et=some z)
  (hm:UR w.heap r es) (hl:D7 key z es=some (d,b)):d.ok/\(Instr.lookup t (.map r) key ok).run P w=.ok (if ok then .tuple #[d.flat,.bool b] else d.flat) w:=by
 obtain⟨desc,hud⟩:=sW hk
 obtain⟨zok,i,hi,hz⟩:=An5 hz
 cases r with
 | none=>
  have:es=[]:=hm
  subst this
  simp[D7]at hl
  obtain⟨rfl,rfl⟩:=hl
  refine⟨zok,?_⟩
  have hf:Instr.findNow desc key [] 0=some none:=rfl
  unfold Instr.lookup
  simp only[Sem.run_bind,run_underlying hu,Result.andThen_ok,Sem.run_pure,kF hk,UM hud hf,MZ hi hz]
 | some q=>
  obtain⟨a,cl,hq,he,hok⟩:=hm
  have hd:d.ok:=by
   rcases AiQ hl with y | ⟨e,y1,y2⟩
   ·injection y with y1 y2;rw[y1];exact zok
   ·have y2:e.2=d:=y2
    rw[←y2];exact hok e y1
  refine⟨hd,?_⟩
  unfold Instr.lookup
  simp only[Sem.run_bind,run_underlying hu,Result.andThen_ok,kG hq,Sem.run_pure,kF hk]
  rcases qK hud hk z z es a.toList 0 he _ hl with⟨g1,g2,_⟩ | ⟨j,g1,g2,_⟩
  ·injection g1 with g1 g3
   subst g1;subst g3
   simp only[UM hud g2,Result.andThen_ok,MZ hi hz,Sem.run_bind,Sem.run_pure]
  ·dsimp only at g2
   subst g2
   simp only[UM hud g1,Result.andThen_ok,Sem.run_bind,Sem.run_pure]
theorem yA{T:Tbl}(hT:TblOk P T){o:Oper}{fr:Fr}{a:Act}(hFR:FR fr a.tmps){K:SV->H->Prop}{w:World}(h:ET P T o fr K w.heap):
  JW P K w ((execOp a.eval o).run P w):=by
 unfold execOp
 cases hop:o.op with
 | alloc t=>
  simp only[ET,hop]at h
  split at h
  ·rename_i cs hz
   refine MemOk.next ⟨.dv (.addr ⟨w.heap.size,0,none⟩),_,_,AkS hz w,⟨rfl,rfl,rfl⟩,⟨trivial,rfl⟩,h _ _ US⟩
  ·exact h.elim
 | box t x=>
  simp only[ET,hop]at h
  split at h
  ·rename_i d hx
   obtain⟨hok,hv⟩:=B0 hFR hx
   refine MemOk.next ⟨.dv (.addr ⟨w.heap.size,0,none⟩),_,{ w with heap:=w.heap.push (.cells (AM d.chs).toArray t) },?_,⟨rfl,rfl,rfl⟩,⟨trivial,rfl⟩,h _ _ US⟩
   simp[Instr.box,newVar,hv,DV.cells_flat hok,MY]
   rfl
  ·exact h.elim
 | buildSlice t n parts=>
  simp only[ET,hop]at h
  split at h
  ·rename_i e hu
   split at h
   ·rename_i sz z hsz hz
    split at h
    ·rename_i l hle hl
     simp only[Bool.and_eq_true]at hle
     have h24:=Nat.le_of_ble_eq_true hle.1
     have hzs:=Nat.eq_of_beq_eq_true hle.2
     obtain⟨hzok,i,zv,hi,hzv,hzc⟩:=TH hz
     have hzl:zv.cells.size=sz:=by rw[←Array.length_toList,hzc,HO hzok,hzs]
     obtain⟨_,cells',h1,h2⟩:=AlD (parts.toList.map fun(i,x)=>(i,ev fr x)) (parts.map fun(i,x)=>(i,a.eval x)).toList (List.replicate n z) l
      ((Array.range (n*sz)).map (zv.cells[· % zv.cells.size]!)) (by simp) (by
       intro i p q h1 h2
       simp only[List.getElem?_map,Array.toList_map,Option.map_eq_some_iff]at h1 h2
       obtain⟨x,hx,rfl⟩:=h1
       obtain⟨y,hy,rfl⟩:=h2
       rw[hx]at hy
       injection hy with hy
       subst hy
       exact⟨rfl,CX hFR _⟩) hl (by intro x hx;rw[List.eq_of_mem_replicate hx];exact⟨hzok,hzs⟩) (by
       simp only[Array.toList_map,Array.toList_range]
       rw[←hzl,kA,hzc,Ag0])
     refine MemOk.next ⟨.dv (.one (.slice (some ⟨w.heap.size,0,none⟩) n n)),_,{ w with heap:=w.heap.push (.cells (AM l.flatten).toArray e) },?_,⟨rfl,rfl,rfl⟩,⟨rfl,rfl⟩,h _ _ US⟩
     have hcells:cells'=(AM l.flatten).toArray:=by apply Array.toList_inj.1;simp[h2]
     subst hcells
     have hng:¬(n*sz > 16777216):=by omega
     by_cases h0:n*sz=0
     ·have hempty:(Array.range (n*sz)).map (zv.cells[· % zv.cells.size]!)=(Array.range (n*sz)).map ((#[]:Array Value)[· % (#[]:Array Value).size]!):=by simp[h0]
      rw[hempty]at h1
      simp only[Instr.buildSlice,Sem.run_bind,run_underlying hu,Result.andThen_ok,E0 hsz,Nat.reducePow,gt_iff_lt,if_neg hng,if_pos h0,Sem.run_pure,h1,MY]
      rfl
     ·simp only[Instr.buildSlice,Sem.run_bind,run_underlying hu,Result.andThen_ok,E0 hsz,Nat.reducePow,gt_iff_lt,if_neg hng,if_neg h0,MZ hi hzv,Sem.run_pure,h1,MY]
      rfl
    ·exact h.elim
   ·exact h.elim
  ·exact h.elim
 | makeSlice t l c=>
  simp only[ET,hop]at h
  split at h
  ·rename_i e l' c' hu hl hc
   obtain⟨kl,hvl⟩:=T7 (CX hFR l) hl
   obtain⟨kc,hvc⟩:=T7 (CX hFR c) hc
   split at h
   ·rename_i bytes z hzs hb hz
    obtain⟨h0,h1,h2,h3,hK⟩:=h
    obtain⟨hzok,i,zv,hi,hzv,hzc⟩:=TH hz
    have hib:i.bytes=bytes:=by simp[hi]at hb;exact hb
    cases hsz:C5 P e with
    | none=>simp[hsz]at hzs
    | some sz=>
    simp[hsz,hz]at hzs
    have hzl:zv.cells.size=sz:=by rw[←Array.length_toList,hzc,HO hzok,hzs]
    refine MemOk.next ⟨.dv (.one (.slice (some ⟨w.heap.size,0,none⟩) l'.toNat c'.toNat)),_,{ w with heap:=w.heap.push (.cells ((List.replicate c'.toNat (AM z)).flatten).toArray e) },?_,⟨rfl,rfl,rfl⟩,⟨rfl,rfl⟩,hK _ _ US⟩
    have wl:IntKind.i64.wrap l'=l':=by
     unfold IntKind.wrap;simp[IntKind.bits,IntKind.signed];omega
    have wc:IntKind.i64.wrap c'=c':=by
     unfold IntKind.wrap;simp[IntKind.bits,IntKind.signed];omega
    have hcells:(Array.range (c'.toNat*sz)).map (zv.cells[· % zv.cells.size]!)=((List.replicate c'.toNat (AM z)).flatten).toArray:=by
     apply Array.toList_inj.1
     simp only[Array.toList_map,Array.toList_range]
     rw[←hzl,kA,hzc]
    have t1:¬((decide (c'<0) || decide ((i.bytes:Int)*c' > 281474976710656) || decide (l'<0) || decide (l' > c'))=true):=by
     rw[hib];simp;omega
    simp only[Instr.makeSlice,Sem.run_bind,run_underlying hu,Result.andThen_ok,hvl,hvc,asInt,asIntOf,Sem.run_pure,YL hi,wl,wc,Int.reducePow]
    rw[if_neg t1]
    simp only[Sem.run_bind,run_askRoom,Result.andThen_ok,E0 hsz]
    by_cases hn0:c'.toNat*sz=0
    ·have hr:Array.range (c'.toNat*sz)=#[]:=by rw[hn0];rfl
     have he:(List.replicate c'.toNat (AM z)).flatten=[]:=by
      have:=congrArg Array.toList hcells
      rw[hr]at this
      simpa using this.symm
     simp only[if_pos hn0,Sem.run_pure,Result.andThen_ok,hr,he,Array.map_empty,Sem.run_bind,newRow,run_newObj]
     rfl
    ·simp only[if_neg hn0,Sem.run_bind,MZ hi hzv,Sem.run_pure,Result.andThen_ok,hcells,MY]
     rfl
   ·exact h.elim
  ·exact h.elim
 | load t x=>
  simp only[ET,hop]at h
  split at h
  ·rename_i p hx
   obtain⟨_,hv⟩:=B0 hFR hx
   obtain⟨d,hok,hcell,hK,hrun⟩:=jJ h
   refine MemOk.next ⟨.dv d,d.flat,w,?_,Rest.refl w,⟨hok,rfl⟩,hK⟩
   simp[hv,DV.flat,Instr.loadAt,Instr.sureAddr,hrun w hcell]
  ·exact h.elim
 | store t x y=>
  simp only[ET,hop]at h
  split at h
  ·rename_i p d hx hy
   obtain⟨_,hv⟩:=B0 hFR hx
   obtain⟨hok,hv2⟩:=B0 hFR hy
   split at h
   ·rename_i sz hsz
    split at h
    ·rename_i hn
     have hn:=Nat.eq_of_beq_eq_true hn
     obtain⟨hcn,hK⟩:=h
     obtain⟨w',r1,r2,r3⟩:=AkW (P:=P) hok hsz hn hcn
     have e:(do Instr.storeAt t (a.eval x) (a.eval y);pure Next.skip:Sem Next).run P w=.ok .skip w':=by
      simp[hv,hv2,Instr.storeAt,Instr.sureAddr,DV.flat]
      have:(storeVar t p d.flat).run P w=.ok () w':=r1
      simp only[DV.flat]at this
      rw[this]
      rfl
     simp only[e]
     exact⟨r3,hK _ r2⟩
    ·exact h.elim
   ·exact h.elim
  ·exact h.elim
 | convert s d x=>
  simp only[ET,hop]at h
  split at h
  ·rename_i e p l c hs hd hx
   obtain⟨_,hv⟩:=B0 hFR hx
   split at h
   ·rename_i he
    obtain⟨ns,hns,hK⟩:=h
    refine MemOk.next ⟨.dv (.one (.string (bytesOf ns))),_,w,?_,Rest.refl w,⟨rfl,rfl⟩,hK⟩
    rw[hv]
    simp only[DV.flat]
    rw[run_convert_bytes_string w s d e p l c hs he hd]
    have hlen:ns.length=l:=by have:=hns.1;simpa[AA]using this
    have hb:bytesOf ns=ns.foldl (fun r n=>r.push (UInt8.ofNat n.toNat)) ByteArray.empty:=by
     have gen:∀(ns:List Int) (b:ByteArray),ns.foldl (fun r n=>r.push (UInt8.ofNat n.toNat)) b=⟨b.data++(ns.map fun n=>UInt8.ofNat n.toNat).toArray⟩:=by
      intro ns
      induction ns with
      | nil=>intro b;simp
      | cons n ns ih=>intro b;simp only[List.foldl_cons,ih,List.map_cons];congr 1;apply Array.toList_inj.1;simp[ByteArray.push]
     rw[gen];simp[bytesOf]
    cases p with
    | none=>
     have:ns=[]:=by
      rcases hns.2.2 with h | ⟨q,hq,_⟩
      ·simpa[AA]using h
      ·cases hq
     subst this
     simp[Conv.bytesToString];rfl
    | some q=>
     have hl:(loadCells q l).run P w=.ok (ns.map (Value.int .u8)).toArray w:=by
      have:=W5 (P:=P) hns l c
      simpa[Builtin.firstCells,AA]using this
     rw[run_bytesToString w q l c ns hl,hb]
   ·exact h.elim
  ·rename_i e s' hs hd hx
   obtain⟨_,hv⟩:=B0 hFR hx
   split at h
   ·rename_i he
    let q:=Question.appendCap s'.size 0 e
    let cap:=q.cut (w.tape w.drawn q)
    have hcap:s'.size≤cap:=by show s'.size≤s'.size+_;omega
    have hcells:(s'.data.map fun b=>Value.int .u8 b.toNat)++Array.replicate (cap-s'.size) (Value.int .u8 0)=((s'.data.toList.map fun b=>Value.int .u8 b.toNat)++AA .u8 (AB (cap-s'.size))).toArray:=by
     apply Array.toList_inj.1
     simp[AA,AB]
    obtain⟨vs,hvs⟩:∃vs,vs=(s'.data.toList.map fun b=>Value.int .u8 b.toNat)++AA .u8 (AB (cap-s'.size)):=⟨_,rfl⟩
    have hK:=h cap w.heap.size (w.heap.push (.cells vs.toArray e (vs.length,vs.length+1))) hcap ⟨rfl,e,vs.length,1,fun i hi=>by rw[←hvs]at hi;omega,by rw[hvs]⟩
    refine MemOk.next ⟨.dv (.one (.slice (some ⟨w.heap.size,0,none⟩) s'.size cap)),_,{ w with drawn:=w.drawn+1,heap:=w.heap.push (.cells vs.toArray e (vs.length,vs.length+1)) },?_,⟨rfl,rfl,rfl⟩,⟨rfl,rfl⟩,hK⟩
    rw[hv]
    simp only[DV.flat,convert,Sem.run_bind,run_underlying hs,run_underlying hd,run_underlying he,Result.andThen_ok,Conv.stringToBytes,run_choose,Question.forced,Bool.false_eq_true,if_false]
    simp only[cap,q]at hcells hvs ⊢
    rw[hcells,←hvs]
    have hsh:∀(ww:World),ww.heap=w.heap.push (.cells vs.toArray e)->(markStringish ⟨w.heap.size,0,none⟩).run P ww=.ok () { ww with heap:=w.heap.push (.cells vs.toArray e (vs.length,vs.length+1)) }:=by
     intro ww hww
     have e1:ww.shape? w.heap.size=some (e,vs.length):=by simp[World.shape?,hww]
     simp only[markStringish,Sem.run_bind,run_shape,Result.andThen_ok,e1,run_freeze,World.freeze]
     simp only[hww,Nat.one_ne_zero,if_false]
     congr 2
     apply Array.ext_getElem?
     intro y
     simp only[Array.getElem?_modify,Array.getElem?_push]
     by_cases c:y=w.heap.size
     ·subst c;simp
     ·have c':¬(w.heap.size=y):=fun z=>c z.symm
      simp[c,c']
    simp only[MY,Result.andThen_ok]
    rw[hsh _ rfl]
    rfl
   ·exact h.elim
  ·rename_i e0 e p l c hs hd hx
   obtain⟨_,hv⟩:=B0 hFR hx
   split at h
   ·rename_i hsd he
    obtain⟨q,rfl,hK⟩:=h
    have hsd:=Nat.eq_of_beq_eq_true hsd
    subst hsd
    rw[hs]at hd
    injection hd with hd
    injection hd with hd
    subst hd
    have hm:(markStringish q).run P w=.ok () { w with heap:=XC w.heap q }:=by
     unfold markStringish XC
     simp only[Sem.run_bind,run_shape,Result.andThen_ok,World.shape?]
     cases hq:w.heap[q.block]? with
     | none=>simp
     | some o=>
      cases o with
      | cells cs t fr=>
       obtain⟨lo,hi⟩:=fr
       simp only[run_freeze,World.freeze,Nat.one_ne_zero,if_false]
       congr 2
       apply Array.ext_getElem?
       intro y
       simp only[Array.getElem?_modify,Array.getElem?_setIfInBounds]
       by_cases c:q.block=y
       ·subst c
        obtain⟨hlt,heq⟩:=Array.getElem?_eq_some_iff.1 hq
        simp[hlt,heq]
       ·simp[c]
      | _=>simp
    refine MemOk.next ⟨.dv (.one (.slice (some q) l c)),_,{ w with heap:=XC w.heap q },?_,⟨rfl,rfl,rfl⟩,⟨rfl,rfl⟩,hK _ rfl⟩
    rw[hv]
    simp only[DV.flat,convert,Sem.run_bind,run_underlying hs,run_underlying he,Result.andThen_ok,beq_self_eq_true,hm]
    rfl
   ·exact h.elim
  ·exact h.elim
 | makeMap t r=>
  cases r with
  | some _=>simp only[ET,hop]at h
  | none=>
  simp only[ET,hop]at h
  split at h
  ·refine MemOk.next ⟨.dv (.one (.map (some w.heap.size))),_,{ w with heap:=w.heap.push (.map #[] 0) },?_,⟨rfl,rfl,rfl⟩,⟨rfl,rfl⟩,h _ _ ⟨rfl,rfl⟩⟩
   simp[Instr.makeMap,DV.flat]
  ·exact h.elim
 | insert t m k v=>
  simp only[ET,hop]at h
  obtain⟨w',r1,r2,r3⟩:=lS (CX hFR m) (CX hFR k) (CX hFR v) h
  have e:(do Instr.mapUpdate t (a.eval m) (a.eval k) (a.eval v);pure Next.skip:Sem Next).run P w=.ok .skip w':=by
   simp only[Sem.run_bind,r1,Result.andThen_ok,Sem.run_pure]
  simp only[e]
  exact⟨r2,r3⟩
 | mapUpdate t m k v=>
  simp only[ET,hop]at h
  obtain⟨w',r1,r2,r3⟩:=lS (CX hFR m) (CX hFR k) (CX hFR v) h
  have e:(do Instr.mapUpdate t (a.eval m) (a.eval k) (a.eval v);pure Next.skip:Sem Next).run P w=.ok .skip w':=by
   simp only[Sem.run_bind,r1,Result.andThen_ok,Sem.run_pure]
  simp only[e]
  exact⟨r2,r3⟩
 | lookup t m k ok=>
  simp only[ET,hop]at h
  split at h
  ·rename_i kt et r key hu hm hk
   obtain⟨_,hv1⟩:=B0 hFR hm
   obtain⟨_,hv2⟩:=B0 hFR hk
   split at h
   ·rename_i z hkt hz
    obtain⟨es,d,b,h1,h2,h3⟩:=h
    have h3:=AhM h3
    obtain⟨hd,hr⟩:=AkU (ok:=ok) hu hkt hz h1 h2
    cases ok with
    | true=>
     refine MemOk.next ⟨.tup [d,.one (.bool b)],_,w,?_,Rest.refl w,⟨?_,rfl⟩,h3⟩
     ·rw[hv1,hv2]
      simp only[DV.flat]
      rw[hr];rfl
     ·intro x hx
      simp at hx
      rcases hx with rfl | rfl
      ·exact hd
      ·rfl
    | false=>
     refine MemOk.next ⟨.dv d,_,w,?_,Rest.refl w,⟨hd,rfl⟩,h3⟩
     rw[hv1,hv2]
     simp only[DV.flat]
     rw[hr];rfl
   ·exact h.elim
  ·exact h.elim
 | call c=>
  obtain⟨callee,args,ats⟩:=c
  simp only[ET,hop]at h
  split at h
  ·rename_i f
   exact xU hT hFR h
  ·rename_i x name
   exact x9 hFR h
  ·obtain⟨x,v,w',h1,h2,h3,h4⟩:=xL (P:=P) (ty:=o.type) hFR h
   have e:args.map a.eval=(args.toList.map a.eval).toArray:=by apply Array.toList_inj.1;simp
   simp only[resolve,Sem.run_bind,Sem.run_pure,Result.andThen_ok,invoke,builtin,e,h1]
   exact⟨h2,x,h3,h4⟩
  ·obtain⟨x,v,w',h1,h2,h3,h4⟩:=xW (P:=P) (ty:=o.type) hFR h
   have e:args.map a.eval=(args.toList.map a.eval).toArray:=by apply Array.toList_inj.1;simp
   simp only[resolve,Sem.run_bind,Sem.run_pure,Result.andThen_ok,invoke,builtin,e,h1]
   exact⟨h2,x,h3,h4⟩
  ·split at h
   ·rename_i t r hats hargs
    split at h
    ·rename_i kt et hu
     obtain⟨es,h1,h2⟩:=h
     have e:args.map a.eval=(args.toList.map a.eval).toArray:=by apply Array.toList_inj.1;simp
     have e2:args.toList.map a.eval=[.map r]:=by
      cases hl:args.toList with
      | nil=>rw[hl]at hargs;simp at hargs
      | cons x l=>
       rw[hl]at hargs
       cases l with
       | nil=>
        simp only[List.map_cons,List.map_nil,List.cons.injEq,and_true]at hargs ⊢
        exact (B0 hFR hargs).2
       | cons y l=>simp at hargs
     have e3:ats=#[t]:=by apply Array.toList_inj.1;simpa using hats
     subst e3
     have hr:(Builtin.len_ #[t] o.type #[.map r]).run P w=.ok (.int .i64 es.length) w:=by
      unfold Builtin.len_
      cases r with
      | none=>
       have:es=[]:=h1
       subst this
       simp[run_underlying hu,goInt]
      | some q=>
       obtain⟨m,cl,hq,he,_⟩:=h1
       have hle:=congrArg List.length he
       simp at hle
       simp[run_underlying hu,kG hq,goInt,hle]
     simp only[resolve,Sem.run_bind,Sem.run_pure,Result.andThen_ok,invoke,builtin,e,e2,hr]
     exact⟨Rest.refl w,.dv (.one (.int .i64 es.length)),⟨rfl,rfl⟩,h2⟩
    ·exact h.elim
   ·exact h.elim
  ·exact h.elim
 | _=>simp only[ET,hop]at h
theorem ZP{T:Tbl}(hT:TblOk P T){o:Oper}{fr:Fr}{a:Act}(hFR:FR fr a.tmps){K:SV->H->Prop}{w:World}(h:Dop P T o fr K w.heap):
  JW P K w ((execOp a.eval o).run P w):=by
 unfold Dop at h
 split at h
 ·obtain⟨x,v,h1,h2,h3⟩:=lT (P:=P) hFR h
  rw[h3 w]
  exact⟨Rest.refl w,x,h1,h2⟩
 ·exact yA hT hFR h
end Go.Vc
end
section
namespace Go.Vc
variable {P:Program}
def Agree(s:List Nat)(fr fr':Fr):Prop:=∀i,i ∉ s->get fr' i=get fr i
theorem Agree.refl(s:List Nat)(fr:Fr):Agree s fr fr:=fun _ _=>rfl
theorem Agree.trans{s:List Nat}{a b c:Fr}(h:Agree s a b)(k:Agree s b c):Agree s a c:=fun i hi=>(k i hi).trans (h i hi)
theorem Agree.mono{s s':List Nat}{a b:Fr}(h:Agree s a b)(hs:∀i,i∈s->i∈s'):Agree s' a b:=fun i hi=>h i fun h=>hi (hs i h)
theorem Agree.putO{s:List Nat}{a b:Fr}(h:Agree s a b){d:Option Nat}(hd:∀i,d=some i->i∈s)(v:SV):Agree s a (putO d v b):=fun i hi=>by
 rw[W9,if_neg]
 ·exact h i hi
 ·intro e;exact hi (hd i e)
theorem U7{ops:List Oper}{o:Oper}(h:o∈ops){d:Nat}(hd:o.dst=some d):d∈B4 ops:=by
 induction ops with
 | nil=>cases h
 | cons x r ih=>
  rcases List.mem_cons.1 h with rfl | h
  ·simp[B4,hd]
  ·have:=ih h
   unfold B4
   split <;> simp[this]
theorem AfE(ops:List Oper):∀j,PX ops j=(ops[j]?).bind (·.dst):=by
 induction ops with
 | nil=>intro j;simp[PX]
 | cons o r ih=>intro j;cases j with
  | zero=>simp[PX]
  | succ j=>simp[PX,ih]
theorem wR{o:Oper}{a:Act}{w:World}{K:SV->H->Prop}{next:Act->World->Prop}{Q:Exit->Act->World->Prop}(h:JW P K w ((execOp a.eval o).run P w))
  (hn:∀x v w',Rest w w'->SV.rel x v->K x w'.heap->next (a.put o.dst v) w'):o.wp P a w next Q:=by
 unfold Oper.wp
 generalize (execOp a.eval o).run P w=r at h
 cases r with
 | halt x w'=>exact h.elim
 | ok n w'=>
  cases n <;> try exact h.elim
  ·obtain⟨h1,x,h2,h3⟩:=h;exact hn x _ _ h1 h2 h3
  ·obtain⟨h1,h3⟩:=h;exact hn .nd _ _ h1 rfl h3
  ·obtain⟨rfl,h⟩:=h
   exact h.mono fun e w'' he=>by
    obtain⟨v,x,rfl,h1,h2,h3⟩:=he
    exact hn x _ _ h1 h2 h3
theorem XA{ops:Array Oper}{o:Oper}{fr:Fr}{tmps:Array Value}{yes no:Fr->Prop}{X:Prop}(hFR:FR fr tmps)(h:UQ ops.toList o.guard fr yes no)
  (hy:∀fr',FR fr' tmps->Agree (B4 ops.toList) fr fr'->Region.wanted o (yielded ops tmps)=true->yes fr'->X)
  (hn:∀fr',FR fr' tmps->Agree (B4 ops.toList) fr fr'->Region.wanted o (yielded ops tmps)=false->no fr'->X):X:=by
 unfold UQ at h
 cases hg:o.guard with
 | none=>
  rw[hg]at h
  exact hy fr hFR (Agree.refl _ _) (by simp[Region.wanted,hg]) h
 | some g=>
  obtain⟨j,want⟩:=g
  rw[hg]at h
  simp only at h
  split at h
  ·exact h.elim
  ·rename_i d hd
   rw[AfE]at hd
   have hd':(ops[j]?).bind (·.dst)=some d:=by simpa using hd
   have hmem:d∈B4 ops.toList:=by
    cases ho:ops.toList[j]? with
    | none=>simp[ho]at hd
    | some o'=>simp[ho]at hd;exact U7 (List.mem_of_getElem? ho) hd
   have hr:=hFR d
   have hyv:∀b,tmps.getD d undef=.bool b->yielded ops tmps j=some b:=by
    intro b hb
    unfold yielded
    rw[hd']
    simp only[Option.bind_some]
    by_cases hlt:d<tmps.size
    ·have:tmps[d]?=some (.bool b):=by rw[←hb];simp[hlt]
     rw[this]
    ·simp only[Array.getD_eq_getD_getElem?,Array.getElem?_eq_none (Nat.le_of_not_lt hlt),Option.getD_none]at hb
     simp[undef]at hb
   have refine':∀b,get fr d=.dv (.one (.bool b))->FR ((d,.dv (.one (.bool b)))::fr) tmps/\Agree (B4 ops.toList) fr ((d,.dv (.one (.bool b)))::fr):=by
    intro b hb
    constructor
    ·intro i
     have:=W9 fr (some d) (.dv (.one (.bool b))) i
     simp only[putO,Option.some.injEq]at this
     rw[this]
     split
     ·rename_i e;subst e;rw[←hb];exact hFR d
     ·exact hFR i
    ·have:=(Agree.refl (B4 ops.toList) fr).putO (d:=some d) (fun i hi=>by injection hi with hi;subst hi;exact hmem) (.dv (.one (.bool b)))
     exact this
   split at h
   ·rename_i hnd
    rw[hnd]at hr
    refine hn fr hFR (Agree.refl _ _) ?_ h
    have hu:tmps.getD d undef=undef:=hr
    have:yielded ops tmps j=none:=by
     unfold yielded
     rw[hd']
     simp only[Option.bind_some]
     by_cases hlt:d<tmps.size
     ·have:tmps[d]?=some undef:=by rw[←hu];simp[hlt]
      rw[this];rfl
     ·rw[Array.getElem?_eq_none (Nat.le_of_not_lt hlt)]
    simp[Region.wanted,hg,this]
   ·rename_i b hb
    rw[hb]at hr
    have hv:tmps.getD d undef=.bool b:=hr.2
    have hyb:=hyv b hv
    cases b with
    | true=>
     obtain⟨r1,r2⟩:=refine' true hb
     simp only[if_true]at h
     cases want with
     | true=>exact hy _ r1 r2 (by simp[Region.wanted,hg,hyb]) h
     | false=>exact hn _ r1 r2 (by simp[Region.wanted,hg,hyb]) h
    | false=>
     obtain⟨r1,r2⟩:=refine' false hb
     simp only[Bool.false_eq_true,if_false]at h
     cases want with
     | true=>exact hn _ r1 r2 (by simp[Region.wanted,hg,hyb]) h
     | false=>exact hy _ r1 r2 (by simp[Region.wanted,hg,hyb]) h
   ·exact h.elim
structure On (s:List Nat) (fr0:Fr) (n:Nat) (df:List Deferred) (w0:World) (fr:Fr) (a:Act) (w:World):Prop where
 hfr:FR fr a.tmps
 ag:Agree s fr0 fr
 sz:a.tmps.size=n
 df:a.defers=df
 rest:Rest w0 w
theorem On.put{s:List Nat}{fr0:Fr}{n:Nat}{df:List Deferred}{w0:World}{fr:Fr}{a:Act}{w w':World}(h:On s fr0 n df w0 fr a w)(hs:∀d,d∈s->d<n){d:Option Nat}(hd:∀i,d=some i->i∈s)
  {x:SV} {v:Value} (hx:x.rel v) (hr:Rest w w'):On s fr0 n df w0 (putO d x fr) (a.put d v) w':=
 ⟨h.hfr.put d (fun i hi=>by rw[h.sz];exact hs i (hd i hi)) hx,h.ag.putO hd x,by rw[AlM,h.sz],by rw[Af6,h.df],h.rest.trans hr⟩
theorem yC{T:Tbl}(hT:TblOk P T){ops:Array Oper}{Q:Exit->Act->World->Prop}{K:Fr->H->Prop}{fr0:Fr}{n:Nat}{df:List Deferred}{w0:World}(hs:∀d,d∈B4 ops.toList->d<n)
  (hQ:∀fr a w,On (B4 ops.toList) fr0 n df w0 fr a w->K fr w.heap->Q .normal a w):
  ∀(l:List Oper) (fr:Fr) (a:Act) (w:World),(∀o,o∈l->o∈ops.toList)->On (B4 ops.toList) fr0 n df w0 fr a w->LS P T ops.toList l K fr w.heap->wpList P ops Q l a w:=by
 intro l
 induction l with
 | nil=>intro fr a w _ hon h;exact hQ fr a w hon h
 | cons o r ih=>
  intro fr a w hmem hon h
  have hd:∀i,o.dst=some i->i∈B4 ops.toList:=fun i hi=>U7 (hmem o (by simp)) hi
  have hmem':∀o,o∈r->o∈ops.toList:=fun o ho=>hmem o (by simp[ho])
  simp only[LS]at h
  refine XA hon.hfr h (fun fr' hF hA hw hy=>?_) (fun fr' hF hA hw hn=>?_)
  ·have hon':On (B4 ops.toList) fr0 n df w0 fr' a w:=⟨hF,hon.ag.trans hA,hon.sz,hon.df,hon.rest⟩
   unfold wpList
   rw[if_pos hw]
   refine .inl (wR (ZP hT hF hy) fun x v w' h1 h2 h3=>?_)
   exact ih _ _ _ hmem' (hon'.put hs hd h2 h1) h3
  ·have hon':On (B4 ops.toList) fr0 n df w0 fr' a w:=⟨hF,hon.ag.trans hA,hon.sz,hon.df,hon.rest⟩
   unfold wpList
   rw[if_neg (by rw[hw];simp)]
   exact ih _ _ _ hmem' (hon'.put hs hd (x:=.nd) rfl (Rest.refl w)) hn
/-! ### A region that draws its order -/
def IG(P:Program)(ops:Array Oper)(Q:Exit->Act->World->Prop)(G:Array Bool->Nat->World->Prop):Nat->Array Bool->Act->World->Prop
 | 0,listed,a,w=>Region.ready .any ops listed=[]/\Q .normal a w
 | fuel+1,listed,a,w=>
  (Region.ready .any ops listed=[]->Q .normal a w)/\
  ∀i,i∈Region.ready .any ops listed->wpOp P ops Q i (fun a' w'=>G listed i w'/\IG P ops Q G fuel (listed.setIfInBounds i true) a' w') a w
section
variable {ops:Array Oper} {Q:Exit->Act->World->Prop}
theorem wQ{G:Array Bool->Nat->World->Prop}:∀(fuel:Nat) (listed:Array Bool) (a:Act) (w:World),IG P ops Q G fuel listed a w->wpAny P .any ops Q fuel listed a w
 | 0,_,_,_,h=>h
 | fuel+1,_,_,_,h=>⟨h.1,fun i hi=>wpOp_mono (fun a' w' h'=>wQ fuel _ a' w' h'.2) (h.2 i hi)⟩
theorem k9{G G':Array Bool->Nat->World->Prop}(L:Array Bool->Prop)(hL:∀l i,L l->L (l.setIfInBounds i true))(hG:∀l i w,L l->i∈Region.ready .any ops l->G l i w->G' l i w):
  ∀(fuel:Nat) (listed:Array Bool) (a:Act) (w:World),L listed->IG P ops Q G fuel listed a w->IG P ops Q G' fuel listed a w
 | 0,_,_,_,_,h=>h
 | fuel+1,_,_,_,hl,h=>⟨h.1,fun i hi=>wpOp_mono (fun a' w' h'=>⟨hG _ _ _ hl hi h'.1,k9 L hL hG fuel _ a' w' (hL _ _ hl) h'.2⟩) (h.2 i hi)⟩
def Closed(ops:Array Oper)(listed:Array Bool):Prop:=
 ∀k o,ops[k]?=some o->listed.getD k false=true->∀e,e∈o.after->Region.binds .any e=true->listed.getD e.on false=true
theorem Closed.step{listed:Array Bool}(h:Closed ops listed){i:Nat}(hi:i∈Region.ready .any ops listed):Closed ops (listed.setIfInBounds i true):=by
 intro k o hk hl e he hb
 obtain⟨hun,oi,hoi,hall⟩:=mem_ready.1 hi
 by_cases hki:i=k
 ·subst hki
  rw[hk]at hoi
  injection hoi with hoi
  subst hoi
  exact getD_set_true (hall e he hb)
 ·rw[getD_set_ne false hki]at hl
  exact getD_set_true (h k o hk hl e he hb)
theorem Ad8{clo:Array Nat}(hc:PT ops clo=true){i:Nat}:∀(j:Nat),j<ops.size->i<ops.size->GQ clo i j=true->
  ∃o e,ops[j]?=some o/\e∈o.after/\Region.binds .any e=true/\e.on<j/\(e.on=i∨GQ clo i e.on=true):=by
 intro j hj hi ha
 unfold PT at hc
 rw[List.all_eq_true]at hc
 have h1:=hc j (by simpa using hj)
 rw[List.all_eq_true]at h1
 have h2:=h1 i (by simpa using hi)
 rw[ha]at h2
 simp only at h2
 cases ho:ops[j]? with
 | none=>simp[ho]at h2
 | some o=>
  simp only[ho]at h2
  obtain⟨k,hk,he⟩:=Array.any_eq_true.1 h2
  simp only[Bool.and_eq_true,Bool.or_eq_true]at he
  exact⟨o,_,rfl,Array.getElem_mem hk,he.1.1,Nat.le_of_ble_eq_true he.1.2,he.2.imp (fun h=>Nat.eq_of_beq_eq_true h) id⟩
theorem AiU{clo:Array Nat}(hc:PT ops clo=true){i:Nat}(hi:i<ops.size){listed:Array Bool}(hcl:Closed ops listed)(hil:listed.getD i false=false):
  ∀(j:Nat),j<ops.size->(listed.getD j false=true∨j∈Region.ready .any ops listed)->GQ clo i j=false:=by
 intro j
 induction j using Nat.strongRecOn with
 | ind j ih=>
  intro hj hl
  cases ha:GQ clo i j with
  | false=>rfl
  | true=>
   obtain⟨o,e,ho,he,hb,hlt,hor⟩:=Ad8 hc j hj hi ha
   have hel:listed.getD e.on false=true:=by
    rcases hl with hl | hl
    ·exact hcl j o ho hl e he hb
    ·obtain⟨_,o',ho',hall⟩:=mem_ready.1 hl
     rw[ho]at ho'
     injection ho' with ho'
     subst ho'
     exact hall e he hb
   rcases hor with h | h
   ·rw[h,hil]at hel;cases hel
   ·rw[ih e.on hlt (by omega) (.inl hel)]at h;cases h
end
section
variable {ops:Array Oper} {Q:Exit->Act->World->Prop}
def Pend(P:Program)(ops:Array Oper)(clo:Array Nat)(j:Nat)(listed:Array Bool):Prop:=
 ∀k,k<ops.size->listed.getD k false=true->G0 P ops.toList k=false->GQ clo j k=false
def Gh(P:Program)(ops:Array Oper)(clo:Array Nat)(held:List (Nat×FG))(listed:Array Bool)(i:Nat)(w:World):Prop:=
 ∀x,x∈held->Pend P ops clo x.1 listed->(G0 P ops.toList i=true∨GQ clo x.1 i=false)->x.2 w.heap
def Now(P:Program)(ops:Array Oper)(clo:Array Nat)(held:List (Nat×FG))(listed:Array Bool)(h:H):Prop:=∀x,x∈held->Pend P ops clo x.1 listed->x.2 h
theorem Pend.less{clo:Array Nat}{j i:Nat}{listed:Array Bool}(h:Pend P ops clo j (listed.setIfInBounds i true)):Pend P ops clo j listed:=
 fun k hk hl hf=>h k hk (getD_set_true hl) hf
theorem Pend.float{clo:Array Nat}{j i:Nat}{listed:Array Bool}(h:Pend P ops clo j listed)(hi:G0 P ops.toList i=true):Pend P ops clo j (listed.setIfInBounds i true):=by
 intro k hk hl hf
 by_cases hki:i=k
 ·subst hki;rw[hi]at hf;cases hf
 ·rw[getD_set_ne false hki]at hl;exact h k hk hl hf
theorem Pend.at{clo:Array Nat}{j i:Nat}{listed:Array Bool}(h:Pend P ops clo j (listed.setIfInBounds i true))(hi:i<ops.size)(hs:listed.size=ops.size):G0 P ops.toList i=true∨GQ clo j i=false:=by
 cases hf:G0 P ops.toList i with
 | true=>exact .inl rfl
 | false=>exact .inr (h i hi (by simp[hs,hi]) hf)
theorem Now.step{clo:Array Nat}{held:List (Nat×FG)}{i:Nat}{listed:Array Bool}{w:World}(h:Gh P ops clo held listed i w)(hi:i<ops.size)(hs:listed.size=ops.size):Now P ops clo held (listed.setIfInBounds i true) w.heap:=
 fun x hx hp=>h x hx hp.less (hp.at hi hs)
theorem YE{listed:Array Bool}{i:Nat}(h:i∈Region.ready .any ops listed):i<ops.size:=by
 obtain⟨_,o,ho,_⟩:=mem_ready.1 h
 rcases Nat.lt_or_ge i ops.size with h | h
 ·exact h
 ·rw[Array.getElem?_eq_none h]at ho;cases ho
theorem uN{listed:Array Bool}{i:Nat}(h:i∈Region.ready .any ops listed):listed.getD i false=false:=by
 have h1:=(mem_ready.1 h).1
 by_cases hlt:i<listed.size
 ·simp[hlt]at h1 ⊢;exact h1
 ·simp[Array.getElem?_eq_none (Nat.le_of_not_lt hlt)]
theorem AmU{clo:Array Nat}(hc:PT ops clo=true){held:List (Nat×FG)}{i:Nat}{oi:Oper}{v:Value}{φ:FG}(hi:ops[i]?=some oi)
  (hsel:∀(j:Nat) (o:Oper) cs b,ops[j]?=some o->o.op≠.select cs b) (hQ:∀c a w,Q (.panic c) (a.put oi.dst v) w->Q (.panic c) a w)
  (hfl:G0 P ops.toList i=true) (hφ:(i,φ)∈held∨∀h,φ h):
  ∀(fuel:Nat) (listed:Array Bool) (a:Act) (w:World),listed.size=ops.size->
   (∀j oj,ops[j]?=some oj->j≠i->listed.getD j true=false->(∀e∈oj.after,Region.binds .any e=true->e.on≠i)->oi.apart ops oj=true)->
   i∈Region.ready .any ops listed->YieldsIf P ops (fun w=>φ w.heap) oi v a->Closed ops listed->Now P ops clo held listed w.heap->
   IG P ops Q (Gh P ops clo held) fuel (listed.setIfInBounds i true) (a.put oi.dst v) w->IG P ops Q (Gh P ops clo held) (fuel+1) listed a w:=by
 have here:∀(listed:Array Bool) (w:World),i∈Region.ready .any ops listed->Closed ops listed->Now P ops clo held listed w.heap->φ w.heap:=by
  intro listed w hr hcl hnow
  rcases hφ with h | h
  ·refine hnow _ h fun k hk hl _=>?_
   exact AiU hc (YE hr) hcl (uN hr) k hk (.inl hl)
  ·exact h _
 intro fuel
 induction fuel with
 | zero=>
  intro listed a w hsz _ hr hy hcl hnow HH
  refine⟨fun h=>(by rw[h]at hr;cases hr),fun j hj=>?_⟩
  by_cases hji:j=i
  ·subst hji
   exact hy.wpOp hi (here listed w hr hcl hnow) ⟨fun x hx hp _=>hnow x hx hp,HH⟩
  ·have:=ready_mono hj hji
   rw[HH.1]at this
   cases this
 | succ fuel ih=>
  intro listed a w hsz hfree hr hy hcl hnow HH
  refine⟨fun h=>(by rw[h]at hr;cases hr),fun j hj=>?_⟩
  by_cases hji:j=i
  ·subst hji
   exact hy.wpOp hi (here listed w hr hcl hnow) ⟨fun x hx hp _=>hnow x hx hp,HH⟩
  ·have h1:=HH.2 j (ready_mono hj hji)
   obtain⟨hjun,oj,hoj,hall⟩:=mem_ready.1 hj
   have hnot:∀e∈oj.after,Region.binds .any e=true->e.on≠i:=fun e he hb heq=>by
    have h1:=hall e he hb
    rw[heq,uN hr]at h1
    cases h1
   have h2:=wpOp_putIf hoj (hfree j oj hoj hji hjun hnot) (fun cs b=>hsel i oi cs b hi) (fun cs b=>hsel j oj cs b hoj) hQ hy h1
   have hfree':∀k ok,ops[k]?=some ok->k≠i->(listed.setIfInBounds j true).getD k true=false->
     (∀e∈ok.after,Region.binds .any e=true->e.on≠i)->oi.apart ops ok=true:=fun k ok hk hki hun hno=>by
    refine hfree k ok hk hki ?_ hno
    by_cases hjk:j=k
    ·subst hjk;exact hjun
    ·rw[getD_set_ne true hjk]at hun;exact hun
   refine wpOp_mono (fun a' w' h3=>?_) h2
   obtain⟨hy',hg,hrest⟩:=h3
   have hg':Gh P ops clo held listed j w':=fun x hx hp ho=>hg x hx (hp.float hfl) ho
   refine⟨hg',ih (listed.setIfInBounds j true) a' w' (by simp[hsz]) hfree' (ready_mono hr (Ne.symm hji)) hy' (hcl.step hj) (Now.step hg' (YE hj) hsz) ?_⟩
   rw[Array.setIfInBounds_comm _ _ hji]
   exact hrest
theorem AjM{listed:Array Bool}:∀{l:List Nat} {i:Nat},P9 P ops listed l=some i->i∈l/\G0 P ops.toList i=true/\Region.free .any ops listed i=true:=by
 intro l
 induction l with
 | nil=>intro i h;simp[P9]at h
 | cons x r ih=>
  intro i h
  simp only[P9]at h
  split at h
  ·rename_i hf
   split at h
   ·rename_i hfr
    simp at h;subst h
    exact⟨List.mem_cons_self,hf,hfr⟩
   ·obtain⟨a,b,c⟩:=ih h;exact⟨List.mem_cons_of_mem _ a,b,c⟩
  ·obtain⟨a,b,c⟩:=ih h;exact⟨List.mem_cons_of_mem _ a,b,c⟩
theorem oX{α:Type}{p:α->Prop}:∀{l:List α},g8 p l->∀x,x∈l->p x
 | [],_,x,hx=>by cases hx
 | [a],h,x,hx=>by simp at hx;subst hx;exact h
 | a::b::r,h,x,hx=>by
  rcases List.mem_cons.1 hx with rfl | hx
  ·exact h.1
  ·exact oX h.2 x hx
theorem rJ:∀{l:List (Nat×FG)} {h:H} {p:Prop},i5 l h p->(∀x,x∈l->x.2 h)/\p
 | [],_,_,hp=>⟨fun _ h=>(by cases h),hp⟩
 | (i,φ)::r,h,p,hp=>by
  obtain⟨h1,h2⟩:=hp
  obtain⟨h3,h4⟩:=rJ h2
  exact⟨fun x hx=>by rcases List.mem_cons.1 hx with rfl | hx;exact h1;exact h3 x hx,h4⟩
theorem xK{T:Tbl}(hT:TblOk P T){clo:Array Nat}(hc:PT ops clo=true)(hsel:Region.noSelect ops=true){K:Fr->H->Prop}{fr0:Fr}{n:Nat}{df:List Deferred}{w0:World}
  (hs:∀d,d∈B4 ops.toList->d<n) (hQ:∀fr a w,On (B4 ops.toList) fr0 n df w0 fr a w->K fr w.heap->Q .normal a w) (hQp:∀c a w,¬Q (.panic c) a w):
  ∀(fuel:Nat) (listed:Array Bool) (held:List (Nat×FG)) (fr:Fr) (a:Act) (w:World),listed.size=ops.size->On (B4 ops.toList) fr0 n df w0 fr a w->Closed ops listed->Now P ops clo held listed w.heap->
   DH P T ops clo K fuel listed held fr w.heap->IG P ops Q (Gh P ops clo held) fuel listed a w:=by
 intro fuel
 induction fuel with
 | zero=>
  intro listed held fr a w _ hon _ _ h
  simp only[DH]at h
  split at h
  ·rename_i hr;exact⟨hr,hQ fr a w hon h⟩
  ·exact h.elim
 | succ fuel ih=>
  intro listed held fr a w hsz hon hcl hnow h
  simp only[DH]at h
  split at h
  ·rename_i hr
   exact⟨fun _=>hQ fr a w hon h,fun i hi=>by rw[hr]at hi;cases hi⟩
  ·rename_i i0 rs hr
   split at h
   ·rename_i i hp
    obtain⟨hmem,hfl,hfree⟩:=AjM hp
    rw[←hr]at hmem
    split at h
    ·rename_i o ho
     have hd:∀j,o.dst=some j->j∈B4 ops.toList:=fun j hj=>U7 (by simpa using Array.mem_of_getElem? ho) hj
     have hsz':(listed.setIfInBounds i true).size=ops.size:=by simp[hsz]
     have take:∀(held':List (Nat×FG)) (φ:FG) (v:Value) (x:SV) (fr':Fr),On (B4 ops.toList) fr0 n df w0 fr' a w->SV.rel x v->(∀y,y∈held->y∈held')->((i,φ)∈held'∨∀h,φ h)->
       YieldsIf P ops (fun w=>φ w.heap) o v a->Now P ops clo held' listed w.heap->DH P T ops clo K fuel (listed.setIfInBounds i true) held' (putO o.dst x fr') w.heap->
       IG P ops Q (Gh P ops clo held) (fuel+1) listed a w:=by
      intro held' φ v x fr' hon' hx hsub hφ hy hnow' hD
      have h1:=ih (listed.setIfInBounds i true) held' (putO o.dst x fr') (a.put o.dst v) w hsz' (hon'.put hs hd hx (Rest.refl w)) (hcl.step hmem)
       (fun y hy hp=>hnow' y hy hp.less) hD
      have h2:=AmU (P:=P) hc ho (Region.noSelect_spec hsel) (fun c a w h=>absurd h (hQp _ _ _)) hfl hφ fuel listed a w hsz (Region.free_spec ho hfree) hmem hy hcl hnow' h1
      exact k9 (fun _=>True) (fun _ _ _=>trivial) (fun l j w' _ _ hg y hy hp hor=>hg y (hsub y hy) hp hor) _ _ _ _ trivial h2
     refine XA hon.hfr h (fun fr' hF hA hw hy=>?_) (fun fr' hF hA hw hn=>?_)
     ·have hon':On (B4 ops.toList) fr0 n df w0 fr' a w:=⟨hF,hon.ag.trans hA,hon.sz,hon.df,hon.rest⟩
      split at hy
      ·obtain⟨x,v,h1,h2,h3⟩:=lT (P:=P) hF hy
       exact take held (fun _=>True) v x fr' hon' h1 (fun _ h=>h) (.inr fun _=>trivial) (.inl ⟨hw,fun w _=>h3 w⟩) hnow h2
      ·unfold lQ at hy
       split at hy
       ·rename_i t x hop
        split at hy
        ·rename_i p hx
         obtain⟨_,hv⟩:=B0 hF hx
         obtain⟨d,hok,hcell,hK,hrun⟩:=jJ hy
         refine take ((i,fun h'=>hcs h' p (AM d.chs))::held) _ d.flat (.dv d) fr' hon' ⟨hok,rfl⟩ (fun _ h=>List.mem_cons_of_mem _ h) (.inl List.mem_cons_self) (.inl ⟨hw,fun w' hw'=>?_⟩) ?_ hK
         ·have:=hrun w' hw'
          unfold execOp
          rw[hop]
          simp[hv,DV.flat,Instr.loadAt,Instr.sureAddr]
          rw[this]
          rfl
         ·intro y hy hp
          rcases List.mem_cons.1 hy with rfl | hy
          ·exact hcell
          ·exact hnow y hy hp
        ·exact hy.elim
       ·exact hy.elim
     ·have hon':On (B4 ops.toList) fr0 n df w0 fr' a w:=⟨hF,hon.ag.trans hA,hon.sz,hon.df,hon.rest⟩
      exact take held (fun _=>True) undef .nd fr' hon' rfl (fun _ h=>h) (.inr fun _=>trivial) (.inr ⟨hw,rfl⟩) hnow hn
    ·exact h.elim
   ·refine⟨fun h0=>(by rw[h0]at hr;cases hr),fun i hi=>?_⟩
    have h:=oX h i (by rw[←hr];exact hi)
    split at h
    ·rename_i o ho
     have hd:∀j,o.dst=some j->j∈B4 ops.toList:=fun j hj=>U7 (by simpa using Array.mem_of_getElem? ho) hj
     have hsz':(listed.setIfInBounds i true).size=ops.size:=by simp[hsz]
     have past:∀x,x∈held->(G0 P ops.toList i=true∨GQ clo x.1 i=false)->x∈J6 P ops clo i held:=by
      intro x hx hor
      unfold J6
      split
      ·exact hx
      ·rename_i hf
       rcases hor with h | h
       ·rw[h]at hf;cases hf
       ·exact List.mem_filter.2 ⟨hx,by simp[h]⟩
     have pastsub:∀x,x∈J6 P ops clo i held->x∈held:=by
      intro x hx
      unfold J6 at hx
      split at hx
      ·exact hx
      ·exact (List.mem_filter.1 hx).1
     have cont:∀(a':Act) (w':World),IG P ops Q (Gh P ops clo (J6 P ops clo i held)) fuel (listed.setIfInBounds i true) a' w'->IG P ops Q (Gh P ops clo held) fuel (listed.setIfInBounds i true) a' w':=by
      intro a' w' hg
      refine k9 (fun l=>l.getD i false=true) (fun l j hl=>getD_set_true hl) ?_ _ _ _ _ (by simp[hsz,YE hi]) hg
      intro l j w'' hl _ hg x hx hp hor
      refine hg x (past x hx ?_) hp hor
      cases hf:G0 P ops.toList i with
      | true=>exact .inl rfl
      | false=>exact .inr (hp i (YE hi) hl hf)
     refine XA hon.hfr h (fun fr' hF hA hw hy=>?_) (fun fr' hF hA hw hn=>?_)
     ·have hon':On (B4 ops.toList) fr0 n df w0 fr' a w:=⟨hF,hon.ag.trans hA,hon.sz,hon.df,hon.rest⟩
      unfold wpOp
      simp only[ho]
      rw[if_pos hw]
      refine .inl (wR (ZP hT hF hy) fun x v w' h1 h2 h3=>?_)
      obtain⟨h4,h5⟩:=rJ h3
      have hg:Gh P ops clo held listed i w':=fun y hy _ hor=>h4 y (past y hy hor)
      refine⟨hg,cont _ _ (ih _ _ _ _ _ hsz' (hon'.put hs hd h2 h1) (hcl.step hi) ?_ h5)⟩
      exact fun y hy hp=>h4 y hy
     ·have hon':On (B4 ops.toList) fr0 n df w0 fr' a w:=⟨hF,hon.ag.trans hA,hon.sz,hon.df,hon.rest⟩
      unfold wpOp
      simp only[ho]
      rw[if_neg (by rw[hw];simp)]
      refine⟨fun y hy hp _=>hnow y hy hp,cont _ _ (ih _ _ _ _ _ hsz' (hon'.put hs hd (x:=.nd) rfl (Rest.refl w)) (hcl.step hi) ?_ hn)⟩
      exact fun y hy hp=>hnow y (pastsub y hy) hp.less
    ·exact h.elim
end
end Go.Vc
end
section
namespace Go.Vc
variable {P:Program}
def F8(s:List Nat)(fr0:Fr)(n:Nat)(df:List Deferred)(w0:World)(Q:F0):Exit->Act->World->Prop
 | .panic _,_,_=>False
 | .outgrown,_,_=>False
 | e,a,w=>∃fr,On s fr0 n df w0 fr a w/\Q e fr w.heap
theorem qW(ds:List Nat)(fr:Fr)(i:Nat):get (GY ds fr) i=if i∈ds then .un else get fr i:=by
 induction ds with
 | nil=>simp[GY]
 | cons d r ih=>
  simp only[GY,get,List.mem_cons]
  cases h:Nat.beq i d with
  | true=>have:=Nat.eq_of_beq_eq_true h;simp[this]
  | false=>have:=Nat.ne_of_beq_eq_false h;simp[this,ih]
theorem y9{fr:Fr}{tmps:Array Value}(h:FR fr tmps){i:Nat}{v:SV}(hv:v.rel (tmps.getD i undef)):FR ((i,v)::fr) tmps:=fun j=>by
 have:=W9 fr (some i) v j
 simp only[putO,Option.some.injEq]at this
 rw[this]
 split
 ·rename_i e;subst e;exact hv
 ·exact h j
theorem AiV{k:KS}{s:SV}{v:Value}(h:s.rel v):(jS k s).rel v:=by
 unfold jS
 split
 ·exact⟨rfl,h.2⟩
 ·exact⟨h.1,h.2⟩
 ·exact⟨h.1,h.2⟩
 ·trivial
 ·exact h
theorem ZT{keep:JV}{fr fr':Fr}{tmps:Array Value}(h:FR fr tmps)(h':FR fr' tmps):FR (MW keep (U1 keep fr) fr') tmps:=by
 induction keep with
 | nil=>exact h'
 | cons k r ih=>exact y9 ih (AiV (h k.1))
theorem ZC{s:List Nat}{keep:JV}{vs:List SV}{fr fr':Fr}(h:Agree s fr fr')(hk:∀x,x∈keep->x.1∈s):Agree s fr (MW keep vs fr'):=by
 induction keep generalizing vs with
 | nil=>exact h
 | cons k r ih=>
  obtain⟨i,sh⟩:=k
  cases vs with
  | nil=>exact h
  | cons v vs=>
   have:=(ih (vs:=vs) (fun x hx=>hk x (by simp[hx]))).putO (d:=some i) (fun j hj=>by injection hj with hj;subst hj;exact hk (i,sh) (by simp)) v
   exact this
theorem ZS{s:List Nat}{fr fr':Fr}{tmps:Array Value}(h:FR fr' tmps)(ha:Agree s fr fr'):FR (GY s fr) tmps:=by
 intro i
 rw[qW]
 split
 ·trivial
 ·rename_i hi;rw[←ha i hi];exact h i
theorem ZB(s:List Nat)(fr:Fr):Agree s fr (GY s fr):=fun i hi=>by rw[qW,if_neg hi]
theorem oV{s:Sh}{K:DV->Prop}(h:∀x,K x):WG s K:=by
 cases s <;> simp only[WG] <;> intros <;> exact h _
theorem Ad7:∀{l:List Sh} {K:List Ch->Prop},(∀cs,K cs)->T5 l K:=by
 intro l
 induction l with
 | nil=>intro K h;exact h _
 | cons s r ih=>
  intro K h
  cases s <;> simp only[T5]
  case row k n=>intro ns _;exact ih fun cs=>h _
  all_goals exact oV fun x=>ih fun cs=>h _
theorem oW:∀{l:List KS} {K:List SV->Prop},(∀vs,K vs)->L4 l K:=by
 intro l
 induction l with
 | nil=>intro K h;exact h _
 | cons s r ih=>
  intro K h
  cases s with
  | sc s=>exact oV fun x=>ih fun l=>h _
  | addr=>intro p;exact ih fun l=>h _
  | ag l=>exact Ad7 fun cs=>ih fun l=>h _
  | un=>exact ih fun l=>h _
def jF(keep:JV)(as:List Nat):Bool:=keep.all fun x=>as.contains x.1
def PN(ann:Ann)(p:Nat)(as:List Nat):Bool:=match WH ann p with | none=>true | some keep=>jF keep as
def CV(ann:Ann):Code->Nat->Bool
 | .seq a b,p=>PN ann p (asg a)&&CV ann a (2*p)&&CV ann b (2*p+1)
 | .cond _ a b,p=>CV ann a (2*p)&&CV ann b (2*p+1)
 | .block _ b,p=>PN ann p (asg b)&&CV ann b (2*p)
 | .loop b,p=>PN ann p (asg b)&&CV ann b (2*p)
 | .scope b,p=>CV ann b (2*p)
 | _,_=>true
theorem sT{keep:JV}{as:List Nat}(h:jF keep as=true):∀x,x∈keep->x.1∈as:=fun x hx=>by
 unfold jF at h
 rw[List.all_eq_true]at h
 simpa using h x hx
theorem XL{ann:Ann}{p:Nat}{as:List Nat}{fr:Fr}{K:Fr->H->Prop}{body:(Fr->H->Prop)->Prop}(hok:PN ann p as=true)(h:jn ann p as fr K body):
  ∃K',body K'/\∀(fr':Fr) (h':H),K' fr' h'->∃fr'',K fr'' h'/\(∀tmps,FR fr' tmps->Agree as fr fr'->FR fr'' tmps)/\(Agree as fr fr'->Agree as fr fr''):=by
 unfold jn at h
 unfold PN at hok
 split at h
 ·exact⟨K,h,fun fr' h' hk=>⟨fr',hk,fun _ h _=>h,fun h=>h⟩⟩
 ·rename_i keep hk
  rw[hk]at hok
  have hmem:=sT hok
  refine⟨_,h (fun vs h'=>K (MW keep vs (GY as fr)) h') (oW fun vs h' hk=>hk),fun fr' h' hk'=>⟨_,hk',fun tmps hF hA=>?_,fun hA=>?_⟩⟩
  ·exact ZT hF (ZS hF hA)
  ·exact ZC (ZB as fr) hmem
theorem On.sub{s s':List Nat}{fr0 fr:Fr}{n:Nat}{df:List Deferred}{w0 w:World}{a:Act}(h:On s fr0 n df w0 fr a w)(hs:∀i,i∈s->i∈s'):On s' fr0 n df w0 fr a w:=
 ⟨h.hfr,h.ag.mono hs,h.sz,h.df,h.rest⟩
theorem On.refl{s:List Nat}{fr:Fr}{a:Act}{w:World}(h:FR fr a.tmps):On s fr a.tmps.size a.defers w fr a w:=⟨h,Agree.refl _ _,rfl,rfl,Rest.refl w⟩
theorem On.trans{s:List Nat}{fr0 fr1 fr2:Fr}{n:Nat}{df:List Deferred}{w0 w1 w2:World}{a1 a2:Act}(h:On s fr0 n df w0 fr1 a1 w1)(k:On s fr1 a1.tmps.size a1.defers w1 fr2 a2 w2):On s fr0 n df w0 fr2 a2 w2:=
 ⟨k.hfr,h.ag.trans k.ag,by rw[k.sz,h.sz],by rw[k.df,h.df],h.rest.trans k.rest⟩
def LoopWp(P:Program)(c:Code)(Q:Exit->Act->World->Prop)(a:Act)(w:World):Prop:=
 ∀(b:Frame) (k:List Item) (cs:List Frame),∃e a' w',Q e a' w'/\Arrives P (lone (b.at a (.code c::.inLoop c::k)) cs w) b k cs e a' w'
theorem LoopWp.loop{c:Code}{Q:Exit->Act->World->Prop}{a:Act}{w:World}(h:LoopWp P c Q a w):(Code.loop c).wp P Q a w:=fun b k cs=>
 let ⟨e,a',w',q,r⟩:=h b k cs;⟨e,a',w',q,.of_steps (.one step_loop) r⟩
theorem LoopWp.unroll{c:Code}{Q:Exit->Act->World->Prop}{a:Act}{w:World}(h:c.wp P (Exit.then (LoopWp P c Q) Q) a w):LoopWp P c Q a w:=by
 intro b k cs
 obtain⟨e,a₁,w₁,hq,harr⟩:=h b (.inLoop c::k) cs
 cases e with
 | normal=>
  obtain⟨e2,a2,w2,q2,r2⟩:=hq b k cs
  exact⟨e2,a2,w2,q2,.of_steps (Steps.trans harr (.one step_inLoop)) r2⟩
 | exit id=>exact⟨_,a₁,w₁,hq,.pass (x:=.inLoop c) rfl (fun _ _=>.inl (by simp)) harr⟩
 | goto l=>exact⟨_,a₁,w₁,hq,.pass (x:=.inLoop c) rfl (fun _ _=>.inl (by simp)) harr⟩
 | ret=>exact⟨_,a₁,w₁,hq,.pass (x:=.inLoop c) rfl (fun _ _=>.inl (by simp)) harr⟩
 | panic ch=>exact⟨_,a₁,w₁,hq,.pass (x:=.inLoop c) rfl (fun _ _=>.inl (by simp)) harr⟩
 | outgrown=>exact⟨_,a₁,w₁,hq,.pass (x:=.inLoop c) rfl (fun _ _=>.inl (by simp)) harr⟩
theorem lO{T:Tbl}(hT:TblOk P T)(ann:Ann):∀(c:Code) (p:Nat) (Q:F0) (fr:Fr) (a:Act) (w:World),CV ann c p=true->(∀d,d∈asg c->d<a.tmps.size)->FR fr a.tmps->D P T ann c p Q fr w.heap->
  c.wp P (F8 (asg c) fr a.tmps.size a.defers w Q) a w:=by
 intro c
 induction c with
 | skip=>intro p Q fr a w _ _ hF h;exact wp_skip ⟨fr,On.refl hF,h⟩
 | label l=>intro p Q fr a w _ _ hF h;exact wp_label ⟨fr,On.refl hF,h⟩
 | ret=>intro p Q fr a w _ _ hF h;exact wp_ret ⟨fr,On.refl hF,h⟩
 | exit id=>intro p Q fr a w _ _ hF h;exact wp_exit ⟨fr,On.refl hF,h⟩
 | region id ops draw=>
  intro p Q fr a w _ hs hF h
  have hQ:∀fr' a' w',On (B4 ops.toList) fr a.tmps.size a.defers w fr' a' w'->Q .normal fr' w'.heap->F8 (asg (.region id ops draw)) fr a.tmps.size a.defers w Q .normal a' w':=fun fr' a' w' hon hq=>⟨fr',hon,hq⟩
  cases draw with
  | false=>
   simp only[D]at h
   exact wp_region_list (yC hT hs hQ ops.toList fr a w (fun _ h=>h) (On.refl hF) h)
  | true=>
   simp only[D]at h
   unfold lP at h
   split at h
   ·rename_i hm hsel hclo
    refine wp_region_any hm (wQ _ _ _ _ (G:=Gh P ops (Region.before ops) []) ?_)
    have hd:=xK (P:=P) (Q:=F8 (asg (.region id ops true)) fr a.tmps.size a.defers w Q) hT hclo hsel hs hQ (fun c a w h=>h) ops.size (Array.replicate ops.size false) [] fr a { w with drawn:=w.drawn+1 } (by simp)
     ⟨hF,Agree.refl _ _,rfl,rfl,⟨rfl,rfl,rfl⟩⟩ (fun k o _ hl=>by
      by_cases hk:k<ops.size <;> simp[hk]at hl) (fun x hx=>by cases hx) h
    exact hd
   ·exact h.elim
 | seq x y ihx ihy=>
  intro p Q fr a w hann hs hF h
  simp only[CV,Bool.and_eq_true]at hann
  simp only[D]at h
  obtain⟨K',hb,hK⟩:=XL hann.1.1 h
  have hsx:∀d,d∈asg x->d<a.tmps.size:=fun d hd=>hs d (by simp[asg,hd])
  have hsy:∀d,d∈asg y->d<a.tmps.size:=fun d hd=>hs d (by simp[asg,hd])
  refine wp_seq (wp_mono (ihx (2*p) _ fr a w hann.1.2 hsx hF hb) fun e a1 w1 hp=>?_)
  cases e with
  | normal=>
   obtain⟨fr1,hon,hq⟩:=hp
   obtain⟨fr2,hk,h1,h2⟩:=hK fr1 _ hq
   have hF2:=h1 _ hon.hfr hon.ag
   have hA2:=h2 hon.ag
   have hon2:On (asg x) fr a.tmps.size a.defers w fr2 a1 w1:=⟨hF2,hA2,hon.sz,hon.df,hon.rest⟩
   refine wp_mono (ihy (2*p+1) Q fr2 a1 w1 hann.2 (fun d hd=>by rw[hon.sz];exact hsy d hd) hF2 hk) fun e a2 w2 hp2=>?_
   have sub1:∀i,i∈asg x->i∈asg (.seq x y):=fun i hi=>by simp[asg,hi]
   have sub2:∀i,i∈asg y->i∈asg (.seq x y):=fun i hi=>by simp[asg,hi]
   cases e <;> first | exact hp2.elim | (obtain⟨fr3,hon3,hq3⟩:=hp2;exact⟨fr3,(hon2.sub sub1).trans (hon3.sub sub2),hq3⟩)
  | panic c=>exact hp.elim
  | outgrown=>exact hp.elim
  | _=>obtain⟨fr1,hon,hq⟩:=hp;exact⟨fr1,hon.sub (fun i hi=>by simp[asg,hi]),hq⟩
 | cond c x y ihx ihy=>
  intro p Q fr a w hann hs hF h
  simp only[CV,Bool.and_eq_true]at hann
  simp only[D]at h
  split at h
  ·rename_i t hc
   obtain⟨_,hv⟩:=B0 hF hc
   have post:∀s,(∀i,i∈s->i∈asg (.cond c x y))->∀e a' w',F8 s fr a.tmps.size a.defers w Q e a' w'->F8 (asg (.cond c x y)) fr a.tmps.size a.defers w Q e a' w':=by
    intro s hsub e a' w' hp
    cases e <;> first | exact hp.elim | (obtain⟨fr1,hon,hq⟩:=hp;exact⟨fr1,hon.sub hsub,hq⟩)
   cases t with
   | true=>
    refine wp_cond (t:=true) hv ?_
    exact wp_mono (ihx (2*p) Q fr a w hann.1 (fun d hd=>hs d (by simp[asg,hd])) hF h) (post _ (fun i hi=>by simp[asg,hi]))
   | false=>
    simp only[Bool.false_eq_true,if_false]at h
    refine wp_cond (t:=false) hv ?_
    exact wp_mono (ihy (2*p+1) Q fr a w hann.2 (fun d hd=>hs d (by simp[asg,hd])) hF h) (post _ (fun i hi=>by simp[asg,hi]))
  ·exact h.elim
 | block id b ih=>
  intro p Q fr a w hann hs hF h
  simp only[CV,Bool.and_eq_true]at hann
  simp only[D]at h
  obtain⟨K',hb,hK⟩:=XL hann.1 h
  refine wp_block (wp_mono (ih (2*p) _ fr a w hann.2 hs hF hb) fun e a1 w1 hp=>?_)
  have norm:∀fr1,On (asg b) fr a.tmps.size a.defers w fr1 a1 w1->K' fr1 w1.heap->F8 (asg (.block id b)) fr a.tmps.size a.defers w Q .normal a1 w1:=by
   intro fr1 hon hq
   obtain⟨fr2,hk,h1,h2⟩:=hK fr1 _ hq
   exact⟨fr2,⟨h1 _ hon.hfr hon.ag,h2 hon.ag,hon.sz,hon.df,hon.rest⟩,hk⟩
  cases e with
  | normal=>obtain⟨fr1,hon,hq⟩:=hp;exact norm fr1 hon hq
  | exit j=>
   obtain⟨fr1,hon,hq⟩:=hp
   simp only[iG]at hq
   show Exit.inBlock id _ (.exit j) a1 w1
   simp only[Exit.inBlock]
   cases hb:Nat.beq j id with
   | true=>
    rw[hb]at hq
    rw[if_pos (Nat.eq_of_beq_eq_true hb)]
    exact norm fr1 hon hq
   | false=>
    rw[hb]at hq
    rw[if_neg (Nat.ne_of_beq_eq_false hb)]
    exact⟨fr1,hon,hq⟩
  | panic c=>exact hp.elim
  | outgrown=>exact hp.elim
  | _=>obtain⟨fr1,hon,hq⟩:=hp;exact⟨fr1,hon,hq⟩
 | loop b ih=>
  intro p Q fr a w hann hs hF h
  simp only[CV,Bool.and_eq_true]at hann
  simp only[D]at h
  split at h
  ·exact h.elim
  ·rename_i keep hk
   have hok:=hann.1
   unfold PN at hok
   rw[hk]at hok
   have hmem:=sT hok
   have key:=h (fun vs h'=>∀(a1:Act) (w1:World),w1.heap=h'->On (asg b) fr a.tmps.size a.defers w (MW keep vs (GY (asg b) fr)) a1 w1->
    LoopWp P b (F8 (asg b) fr a.tmps.size a.defers w Q) a1 w1) (oW fun vs h' hD a1 w1 hh hon=>by
     subst hh
     refine LoopWp.unroll (wp_mono (ih (2*p) _ _ a1 w1 hann.2 (fun d hd=>by rw[hon.sz];exact hs d hd) hon.hfr hD) fun e a2 w2 hp=>?_)
     cases e with
     | normal=>
      obtain⟨fr2,hon2,hI⟩:=hp
      have hon3:=hon.trans hon2
      exact hI a2 w2 rfl ⟨ZT hon3.hfr (ZS hon3.hfr hon3.ag),ZC (ZB _ _) hmem,hon3.sz,hon3.df,hon3.rest⟩
     | panic c=>exact hp.elim
     | outgrown=>exact hp.elim
     | _=>obtain⟨fr2,hon2,hq⟩:=hp;exact⟨fr2,hon.trans hon2,hq⟩)
   exact LoopWp.loop (key a w rfl ⟨ZT hF (ZS hF (Agree.refl _ _)),ZC (ZB _ _) hmem,rfl,rfl,Rest.refl w⟩)
 | scope b ih=>
  intro p Q fr a w hann hs hF h
  refine wp_scope_straight (wp_mono (ih (2*p) _ fr a w hann hs hF h) fun e a1 w1 hp=>?_)
  cases e with
  | panic c=>exact hp.elim
  | outgrown=>exact hp.elim
  | goto l=>obtain⟨fr1,hon,hq⟩:=hp;exact hq.elim
  | _=>obtain⟨fr1,hon,hq⟩:=hp;exact⟨fr1,hon,hq⟩
 | _=>intro p Q fr a w _ _ _ h;exact h.elim
/-! ### Functions -/
def YF(tmps:Array Value):ResultVar->Sem Value
 | .tmp t=>pure (tmps.getD t undef)
 | .cell b t=>do loadVar t (←asAddr (tmps.getD b undef))
theorem AkA(fn:Func)(tmps:Array Value):results fn tmps=(do
  let vs ←fn.results.mapM (YF tmps)
  pure (if h:vs.size=1 then vs[0] else .tuple vs)):=by
 unfold results
 congr 1
theorem yD:∀(rs:List ResultVar) (fr:Fr) (a:Act) (w:World) (K:List DV->Prop),FR fr a.tmps->GM P rs fr w.heap K->
  ∃xs,(∀x,x∈xs->x.ok)/\K xs/\(rs.mapM (YF a.tmps)).run P w=.ok (xs.map DV.flat) w:=by
 intro rs
 induction rs with
 | nil=>intro fr a w K _ h;exact⟨[],fun _ h=>(by cases h),h,by simp⟩
 | cons r rs ih=>
  intro fr a w K hF h
  cases r with
  | tmp t=>
   simp only[GM]at h
   split at h
   ·rename_i x hx
    have hr:=hF t
    rw[hx]at hr
    obtain⟨xs,h1,h2,h3⟩:=ih fr a w _ hF h
    refine⟨x::xs,fun y hy=>?_,h2,?_⟩
    ·rcases List.mem_cons.1 hy with rfl | hy
     ·exact hr.1
     ·exact h1 y hy
    ·simp only[List.mapM_cons,YF,Sem.run_bind,Sem.run_pure,Result.andThen_ok,h3,List.map_cons,hr.2]
   ·exact h.elim
  | cell b t=>
   simp only[GM]at h
   split at h
   ·rename_i p hx
    have hr:=hF b
    rw[hx]at hr
    obtain⟨x,hok,hc,hK,hrun⟩:=jJ h
    obtain⟨xs,h1,h2,h3⟩:=ih fr a w _ hF hK
    refine⟨x::xs,fun y hy=>?_,h2,?_⟩
    ·rcases List.mem_cons.1 hy with rfl | hy
     ·exact hok
     ·exact h1 y hy
    ·have e:a.tmps.getD b undef=.pointer (some p):=hr.2
     have e2:∀w,(asAddr (a.tmps.getD b undef)).run P w=.ok p w:=fun w=>by rw[e];rfl
     simp only[List.mapM_cons,YF,Sem.run_bind,e2,Sem.run_pure,Result.andThen_ok,hrun w hc,h3,List.map_cons]
   ·exact h.elim
theorem YG{fn:Func}{fr:Fr}{a:Act}{w:World}{K:List DV->Prop}(hF:FR fr a.tmps)(h:GM P fn.results.toList fr w.heap K):
  ∃xs,(∀x,x∈xs->x.ok)/\K xs/\(results fn a.tmps).run P w=.ok (HZ xs) w:=by
 obtain⟨xs,h1,h2,h3⟩:=yD (P:=P) _ _ _ _ _ hF h
 refine⟨xs,h1,h2,?_⟩
 rw[AkA,Array.mapM_eq_mapM_toList]
 simp only[Sem.run_bind,Sem.run_map]
 rw[h3]
 simp only[Result.andThen_ok,Sem.run_pure]
 congr 1
 unfold HZ
 match xs with
 | []=>simp
 | [x]=>simp
 | x::y::r=>simp
theorem lW(args:List DV)(hok:∀x,x∈args->x.ok)(tail:Array Value):FR (KB 0 args) ((args.map DV.flat).toArray++tail):=by
 have gen:∀(args:List DV) (i:Nat) (j:Nat),(get (KB i args) j=.un)∨(∃x,args[j-i]?=some x/\i≤j/\get (KB i args) j=.dv x):=by
  intro args
  induction args with
  | nil=>intro i j;left;rfl
  | cons x r ih=>
   intro i j
   simp only[KB,get]
   cases hb:Nat.beq j i with
   | true=>have:=Nat.eq_of_beq_eq_true hb;subst this;right;exact⟨x,by simp,Nat.le_refl _,rfl⟩
   | false=>
    have hne:=Nat.ne_of_beq_eq_false hb
    rcases ih (i+1) j with h | ⟨y,h1,h2,h3⟩
    ·exact .inl h
    ·right
     refine⟨y,?_,by omega,h3⟩
     rw[show j-i=(j-(i+1))+1 by omega]
     simpa using h1
 intro j
 rcases gen args 0 j with h | ⟨x,h1,_,h3⟩
 ·rw[h];trivial
 ·rw[h3]
  simp only[Nat.sub_zero]at h1
  obtain⟨hlt,rfl⟩:=List.getElem?_eq_some_iff.1 h1
  refine⟨hok _ (List.getElem_mem hlt),?_⟩
  simp[Array.getElem?_append,hlt]
theorem xR{T:Tbl}(hT:TblOk P T){ann:Ann}{f:FuncId}{fn:Func}{args:List DV}{Q:List DV->H->Prop}{h:H}(hf:P.funcs[f]?=some fn)(hc:L8 P f=true)
  (hann:(fn.body.map fun c=>CV ann c 1)=some true) (hok:∀x,x∈args->x.ok) (hD:M7 P T ann fn args Q h):callsV P f (args.map DV.flat) Q h:=by
 refine⟨hc,fun w hw=>?_⟩
 subst hw
 unfold M7 at hD
 split at hD
 ·rename_i c hb hle hasg
  have hle:=Nat.le_of_ble_eq_true hle
  rw[hb]at hann hasg
  simp only[Option.map_some,Option.some.injEq]at hann hasg
  rw[List.all_eq_true]at hasg
  have BE:((args.map DV.flat).toArray++Array.replicate (fn.ntmps-(args.map DV.flat).toArray.size) undef).size=fn.ntmps:=by simp;omega
  refine calls_of_wp hf hb (wp_mono (lO hT ann c 1 _ (KB 0 args) { tmps:=(args.map DV.flat).toArray++Array.replicate (fn.ntmps-(args.map DV.flat).toArray.size) undef,defers:=[] } w hann
   (fun d hd=>by rw[BE];exact Nat.le_of_ble_eq_true (hasg d hd)) (lW args hok _) hD) fun e a' w' hp=>?_)
  cases e with
  | normal=>
   obtain⟨fr,hon,hq⟩:=hp
   obtain⟨xs,h1,h2,h3⟩:=YG hon.hfr hq
   exact⟨hon.df,_,h3,xs,h1,rfl,hon.rest,h2⟩
  | ret=>
   obtain⟨fr,hon,hq⟩:=hp
   obtain⟨xs,h1,h2,h3⟩:=YG hon.hfr hq
   exact⟨hon.df,_,h3,xs,h1,rfl,hon.rest,h2⟩
  | exit _=>obtain⟨fr,hon,hq⟩:=hp;exact hq.elim
  | goto _=>obtain⟨fr,hon,hq⟩:=hp;exact hq.elim
  | panic _=>exact hp.elim
  | outgrown=>exact hp.elim
 ·exact hD.elim
end Go.Vc
end
