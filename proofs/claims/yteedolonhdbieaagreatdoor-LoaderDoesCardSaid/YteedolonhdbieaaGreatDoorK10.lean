/- LoaderDoes and its parts, laid together by a program of ours: Mt Rd Re Kn Cd Ch1 Cm Ag Ch2 Ch3 Ch4 Ch5 -/
import Derived.ChangeSame
import Derived.ChangeVars
import Derived.JoinedOf
import Derived.LaidHandle
import Derived.LaidLaws
import Derived.ProofKit
import Derived.SevenTiedAt
import Derived.SizedLaws
import Derived.Stop.Joined
import Derived.Test.YteedolonhdbieaaGreatDoorCards
import Derived.Test.YteedolonhdbieaaGreatDoorRows
import Derived.Test.YteedolonhdbieaaGreatDoorTie
import Derived.Test.YteedolonhdbieaaGreatDoorK9
set_option autoImplicit false
set_option linter.all false
section
namespace Go.Vc
def A3(bs:List Bool):List Value:=bs.map Value.bool
@[simp] theorem XK(bs:List Bool):(A3 bs).length=bs.length:=by simp[A3]
@[simp] theorem XJ(bs:List Bool)(i:Nat):(A3 bs)[i]?=bs[i]?.map Value.bool:=by simp[A3]
abbrev Sl:=Option Addr×Nat×Nat
abbrev Sl.v(s:Sl):Value:=.slice s.1 s.2.1 s.2.2
abbrev sE(s:Sl)(sz:Nat)(vs:List Value):Ent:=slE s.1 s.2.1 s.2.2 sz vs
structure Pg where
 sl:Sl
 bytes:List Int
def Pg.rd(h:H)(sz:Nat)(x:Pg):Prop:=hsv h x.sl.1 sz x.sl.2.1 (AA .u8 x.bytes)
def DU(l:List Pg):List Value:=l.map fun x=>x.sl.v
def GU(l:List Pg):List (List Int):=l.map Pg.bytes
def GW(sz:Nat)(l:List Pg):List Ent:=l.map fun x=>sE x.sl sz (AA .u8 x.bytes)
@[simp] theorem ArN(l:List Pg):(DU l).length=l.length:=by simp[DU]
@[simp] theorem ArM(l:List Pg):(GU l).length=l.length:=by simp[GU]
def RdM(h:H)(sz:Nat)(a:Sl)(rows:List (List Int)):Prop:=∃pgs,rows=GU pgs/\hsv h a.1 1 a.2.1 (DU pgs)/\∀x,x∈pgs->x.rd h sz
def pZ(sz:Nat)(a:Sl)(pgs:List Pg):List Ent:=sE a 1 (DU pgs)::GW sz pgs
def BR(sz:Nat)(a:Sl)(rows:List (List Int)):Ent:=exE 1 (fun pgs=>rows=GU pgs) (pZ sz a)
theorem RdM.ext{h h':H}(x:Ext CJ h h'){sz:Nat}{a:Sl}{rows:List (List Int)}(r:RdM h sz a rows):RdM h' sz a rows:=by
 obtain⟨pgs,h1,h2,h3⟩:=r
 exact⟨pgs,h1,EC x h2 (fun _ _ y=>y),fun y hy=>EC x (h3 y hy) (fun _ _ y=>y)⟩
theorem RdM.len{h:H}{sz:Nat}{a:Sl}{rows:List (List Int)}(r:RdM h sz a rows):rows.length=a.2.1:=by
 obtain⟨pgs,rfl,h2,_⟩:=r
 have:=h2.1;simpa using this
theorem RdM.at{h:H}{sz:Nat}{a:Sl}{rows:List (List Int)}(r:RdM h sz a rows){j:Nat}(hj:j<rows.length):
  ∃q x,a.1=some q/\hc h (q.add (j*1))=some (Sl.v x)/\hsv h x.1 sz x.2.1 (AA .u8 rows[j]):=by
 obtain⟨pgs,rfl,h2,h3⟩:=r
 have hj':j<pgs.length:=by simpa using hj
 have e:(DU pgs)[j]?=some (pgs[j].sl.v):=by simp[DU,hj']
 obtain⟨q,hq,g⟩:=FP h2 e
 refine⟨q,pgs[j].sl,hq,by simpa using g,?_⟩
 have:=h3 pgs[j] (List.getElem_mem hj')
 simpa[Pg.rd,GU]using this
theorem Sat.rdM{h0 h:H}{A:List Ent}(hs:Sat h0 A h){i sz:Nat}{a:Sl}{rows:List (List Int)}(m:At A i (BR sz a rows)):RdM h sz a rows:=by
 obtain⟨pgs,he,hs⟩:=(hs.front m).open_
 refine⟨pgs,he,hs.sv (.z),?_⟩
 intro x hx
 obtain⟨j,hj⟩:=At.mem (A:=GW sz pgs) (e:=sE x.sl sz (AA .u8 x.bytes)) (List.mem_map_of_mem hx)
 exact hs.sv (.s hj.app)
theorem Sat.app_row{h0 h:H}{A:List Ent}{i sz:Nat}{p:Option Addr}{l c:Nat}{r:Sl}{rows:List (List Int)}{bs:List Int}{K:Option Addr->Nat->Nat->HP}
  (hs:Sat h0 (sE r sz (AA .u8 bs)::A) h) (m:At A i (BR sz (p,l,c) rows)) (hb:(l+1)*24≤2^47)
  (k:∀p' c' h',Sat h0 (Vc.put A i (BR sz (p',l+1,c') (rows++[bs]))) h'->K p' (l+1) c' h'):AW h 1 [.slice none 0 0] 24 p l c 1 [r.v] K:=by
 obtain⟨pgs,he,hs⟩:=(hs.front (m.s)).open_
 have hs:Sat h0 (sE (p,l,c) 1 (DU pgs)::(GW sz pgs++(sE r sz (AA .u8 bs)::del A i))) h:=hs
 refine hs.app (.z) (by simp) rfl (by intro v hv;simp at hv;subst hv;rfl) hb ?_
 intro p' c' h' hs
 refine k p' c' h' (Sat.back m ?_)
 refine Sat.close (pgs++[⟨r,bs⟩]) (by simp[he,GU]) ?_
 refine hs.perm ?_
 simp only[Vc.put,pZ,GW,DU,List.map_append,List.map_cons,List.map_nil,List.cons_append,List.append_assoc,List.nil_append]
 exact .refl _
theorem Sat.mat_nil{h0 h:H}{A:List Ent}(hs:Sat h0 A h)(sz:Nat)(p:Option Addr):Sat h0 (BR sz (p,0,0) []::A) h:=by
 refine Sat.close [] rfl ?_
 refine hs.own (Ext.refl _ _) (bs:=[]) (OwnS.nil _ _ _) (by intro b hb;simp at hb)
theorem Sat.sl_nil{h0 h:H}{A:List Ent}(hs:Sat h0 A h)(sz:Nat)(p:Option Addr):Sat h0 (sE (p,0,0) sz []::A) h:=
 hs.own (Ext.refl _ _) (bs:=[]) (OwnS.nil _ _ _) (by intro b hb;simp at hb)
theorem Sat.as_sl{h0 h:H}{A:List Ent}(hs:Sat h0 A h){i b l sz:Nat}{vs:List Value}(m:At A i (blk b vs))(hl:vs.length=l*sz)(hv:∀v,v∈vs->v.oneCell'=true):
  Sat h0 (Vc.put A i (slE (some ⟨b,0,none⟩) l l sz vs)) h:=by
 refine hs.as m fun f hp=>?_
 obtain⟨k,hf⟩:=blk_P.1 hp
 refine slE_P.2 ⟨[b],⟨hl,Nat.le_refl _,hv,Or.inr ⟨b,[],rfl,rfl,by simpa using k,by simp⟩⟩,fun x=>?_⟩
 rw[hf];simp
theorem Sat.bv{h0 h:H}{A:List Ent}(hs:Sat h0 A h){i b l sz:Nat}{vs:List Value}(m:At A i (blk b vs))(hl:vs.length=l*sz)(hv:∀v,v∈vs->v.oneCell'=true):
  hsv h (some ⟨b,0,none⟩) sz l vs:=(hs.as_sl m hl hv).sv (m.put _)
theorem A5(k:IntKind)(ns:List Int):∀v,v∈AA k ns->v.oneCell'=true:=by
 intro v hv
 simp only[AA,List.mem_map]at hv
 obtain⟨n,_,rfl⟩:=hv;rfl
theorem oU(ns:List Bool):∀v,v∈A3 ns->v.oneCell'=true:=by
 intro v hv
 simp only[A3,List.mem_map]at hv
 obtain⟨n,_,rfl⟩:=hv;rfl
theorem Sat.ofBlk{h0 h h':H}{A:List Ent}(hs:Sat h0 A h)(x:Ext CJ h h'){b:Nat}{vs:List Value}(k:Blk h' b vs)(n:h.size≤b):Sat h0 (blk b vs::A) h':=
 hs.add x (blk_P.2 ⟨k,fun _=>Iff.rfl⟩) fun y hy=>by rw[hy];exact n
/-! ### Slices whose first cell is known -/
theorem Sat.sl_some{h0 h:H}{A:List Ent}(hs:Sat h0 A h){i:Nat}{p:Option Addr}{l c sz:Nat}{vs:List Value}(m:At A i (slE p l c sz vs))(hl:0<l):∃b,p=some ⟨b,0,none⟩:=by
 obtain⟨f,hp,_⟩:=hs.take m
 obtain⟨bs,⟨_,_,_,h4⟩,_⟩:=slE_P.1 hp
 rcases h4 with⟨h1,_,_⟩ | ⟨b,_,h1,_⟩
 ·omega
 ·exact⟨b,h1⟩
theorem Sat.sl_len{h0 h:H}{A:List Ent}(hs:Sat h0 A h){i:Nat}{p:Option Addr}{l c sz:Nat}{vs:List Value}(m:At A i (slE p l c sz vs)):vs.length=l*sz:=(hs.sv m).1
theorem Sat.sld{h0 h:H}{A:List Ent}(hs:Sat h0 A h){i b l c sz:Nat}{vs:List Value}(m:At A i (slE (some ⟨b,0,none⟩) l c sz vs)){o:Nat}{v:Value}(e:vs[o]?=some v):hc h ⟨b,o,none⟩=some v:=by
 obtain⟨q,hq,g⟩:=FP (hs.sv m) e
 injection hq with hq;subst hq
 rwa [AF,Nat.zero_add]at g
theorem OwnS.blk'{h:H}{b l c sz:Nat}{vs:List Value}{bs:List Nat}(o:OwnS h (some ⟨b,0,none⟩) l c sz vs bs)(hv:0<l):bs=[b]/\∃rest,Blk h b (vs++rest)/\(c-l)*sz≤rest.length:=by
 obtain⟨h1,_,_,h4⟩:=o
 rcases h4 with⟨r,_,_⟩ | ⟨b',rest,e,h5,k,h6⟩
 ·omega
 ·injection e with e;injection e with e;subst e
  exact⟨h5,rest,k,h6⟩
theorem Sat.scan{h0 h:H}{A:List Ent}(hs:Sat h0 A h){i b l c sz:Nat}{vs:List Value}(m:At A i (slE (some ⟨b,0,none⟩) l c sz vs)){o n:Nat}(hl:0<l)(e:o+n≤vs.length):AC h ⟨b,o,none⟩ n:=by
 obtain⟨f,hp,_⟩:=hs.take m
 obtain⟨bs,o',_⟩:=slE_P.1 hp
 obtain⟨_,rest,k,_⟩:=o'.blk' hl
 exact k.can (by simp;omega)
theorem ApW(vs rest:List Value)(o:Nat)(xs:List Value)(h:o+xs.length≤vs.length):AR (vs++rest) o xs=AR vs o xs++rest:=by
 induction xs generalizing vs o with
 | nil=>rfl
 | cons x r ih=>
  simp only[List.length_cons]at h
  rw[FN,FN,List.set_append_left _ _ (by omega),ih _ _ (by simp;omega)]
theorem ApY{vs xs:List Value}{o:Nat}{v:Value}(h:v∈AR vs o xs):v∈vs∨v∈xs:=by
 induction xs generalizing vs o with
 | nil=>exact Or.inl h
 | cons x r ih=>
  rw[FN]at h
  rcases ih h with h | h
  ·rcases List.mem_or_eq_of_mem_set h with h | h
   ·exact Or.inl h
   ·exact Or.inr (by simp[h])
  ·exact Or.inr (by simp[h])
theorem Sat.swr{h0 h h':H}{A:List Ent}(hs:Sat h0 A h){i b l c sz:Nat}{vs:List Value}(m:At A i (slE (some ⟨b,0,none⟩) l c sz vs)){o:Nat}{xs:List Value}(e:h'=hwr h ⟨b,o,none⟩ xs)(hl:0<l)(hx:o+xs.length≤vs.length)
  (h1:∀v,v∈xs->v.oneCell'=true):Sat h0 (Vc.put A i (slE (some ⟨b,0,none⟩) l c sz (AR vs o xs))) h':=by
 subst e
 refine hs.upd m fun f hp=>?_
 obtain⟨bs,o',hf⟩:=slE_P.1 hp
 obtain⟨e,rest,k,hr⟩:=o'.blk' hl
 subst e
 refine⟨f,slE_P.2 ⟨[b],⟨by rw[ApX];exact o'.1,o'.2.1,?_,Or.inr ⟨b,rest,rfl,rfl,?_,hr⟩⟩,hf⟩,fun _=>Or.inl,(Ext.wr h b o xs).mono fun x _ hx=>(hf x).2 (by simp[hx])⟩
 ·intro v hv
  rcases ApY hv with hv | hv
  ·exact o'.2.2.1 v hv
  ·exact h1 v hv
 ·rw[←ApW _ _ _ _ hx];exact k.wr o xs
/-! ### Whole blocks -/
theorem Sat.wra{h0 h h':H}{A:List Ent}(s:Sat h0 A h){i b:Nat}{vs xs:List Value}(a:At A i (blk b vs))(e:h'=hwr h ⟨b,0,none⟩ xs)(hl:xs.length=vs.length):Sat h0 (Vc.put A i (blk b xs)) h':=by
 have:=s.wr a e
 rwa [qZ _ _ hl]at this
theorem Sat.row0{h0 h:H}{A:List Ent}(s:Sat h0 A h){i b:Nat}{k:IntKind}{ns:List Int}(a:At A i (blk b (AA k ns))):hrow h ⟨b,0,none⟩ k ns:=
 s.row a fun i _=>by rw[Nat.zero_add,BA]
/-! ### Cells of a slice of slices -/
def AX(row:List Int)(k:Nat):List Int:=(row.drop (k*32)).take 32
theorem FA{row:List Int}{k:Nat}(h:(k+1)*32≤row.length):(AX row k).length=32:=by simp[AX];omega
theorem oW(row:List Int)(k i:Nat)(hi:i<32):(AX row k)[i]?=row[k*32+i]?:=by
 simp only[AX]
 rw[List.getElem?_take_of_lt hi,List.getElem?_drop]
theorem RdM.cell{h:H}{a:Sl}{rows:List (List Int)}(r:RdM h 32 a rows){j k:Nat}(hj:j<rows.length)(hk:(k+1)*32≤rows[j].length):
  ∃q x q',a.1=some q/\hc h (q.add (j*1))=some (Sl.v x)/\x.2.1*32=rows[j].length/\x.1=some q'/\hrow h (q'.add (k*32)) .u8 (AX rows[j] k):=by
 obtain⟨q,x,h1,h2,h3⟩:=r.at hj
 have hl:x.2.1*32=rows[j].length:=by have:=h3.1;simp at this;omega
 obtain⟨e1,e2,e3⟩:=h3
 rcases e3 with e3 | ⟨q',hq,g⟩
 ·have:rows[j].length=0:=by have:=congrArg List.length e3;simpa using this
  omega
 ·refine⟨q,x,q',h1,h2,hl,hq,?_⟩
  intro i v hv
  have hi:i<32:=by
   have:=(List.getElem?_eq_some_iff.1 hv).1
   rw[A6,FA hk]at this;exact this
  rw[BA,oW _ _ _ hi]at hv
  have:(q'.add (k*32)).add i=q'.add (k*32+i):=by
   cases q' with | mk b o s=>unfold Addr.add;by_cases h1:k*32=0 <;> by_cases h2:i=0 <;> simp[h1,h2,Nat.add_assoc]
  rw[this]
  exact g _ _ (by rw[BA];exact hv)
def D0(row:List Int)(k:Nat)(c:List Int):List Int:=row.take (k*32)++c++row.drop (k*32+32)
theorem bG{row c:List Int}{k:Nat}(hk:(k+1)*32≤row.length)(hc:c.length=32):(D0 row k c).length=row.length:=by
 simp[D0,hc];omega
theorem ApZ{row c:List Int}{k:Nat}(hk:(k+1)*32≤row.length)(hc:c.length=32):AR (AA .u8 row) (k*32) (AA .u8 c)=AA .u8 (D0 row k c):=by
 have e:row=row.take (k*32)++(row.drop (k*32)).take 32++row.drop (k*32+32):=by
  rw[List.append_assoc,←List.drop_drop,List.take_append_drop,List.take_append_drop]
 have hl:(AA .u8 (row.take (k*32))).length=k*32:=by simp;omega
 have key:=M9 (AA .u8 (row.take (k*32))) (AA .u8 ((row.drop (k*32)).take 32)) (AA .u8 (row.drop (k*32+32))) (AA .u8 c) (by simp[hc];omega)
 rw[hl,←aA,←aA,←e]at key
 rw[key]
 simp[D0]
/-! ### A row taken out of a slice of slices -/
theorem AoY(sz:Nat)(pgs:List Pg)(j:Nat)(x:Pg):put (GW sz pgs) j (sE x.sl sz (AA .u8 x.bytes))=GW sz (pgs.set j x):=by
 induction pgs generalizing j with
 | nil=>rfl
 | cons y r ih=>cases j with
  | zero=>rfl
  | succ j=>simp only[GW,List.map_cons,AS,List.set_cons_succ];congr 1;exact ih j
theorem AoX(sz:Nat)(pgs:List Pg)(j:Nat)(hj:j<pgs.length):At (GW sz pgs) j (sE pgs[j].sl sz (AA .u8 pgs[j].bytes)):=At.get (by simp[GW,hj])
theorem Sat.row_take{h0 h:H}{A:List Ent}{sz:Nat}{a:Sl}{rows:List (List Int)}(hs:Sat h0 (BR sz a rows::A) h){j:Nat}(hj:j<rows.length):
  ∃(x:Sl) (hd:List Value) (R:List Ent),hd[j]?=some x.v/\Sat h0 (sE x sz (AA .u8 rows[j])::sE a 1 hd::(A++R)) h/\
   ∀h' bs B,Sat h0 (sE x sz (AA .u8 bs)::sE a 1 hd::(B++R)) h'->Sat h0 (BR sz a (rows.set j bs)::B) h':=by
 obtain⟨pgs,he,hs⟩:=hs.open_
 have hj':j<pgs.length:=by rw[he]at hj;simpa using hj
 have m:=AoX sz pgs j hj'
 refine⟨pgs[j].sl,DU pgs,del (GW sz pgs) j,by simp[DU,hj'],?_,?_⟩
 ·have e:pgs[j].bytes=rows[j]:=by subst he;simp[GU]
  rw[←e]
  refine hs.perm ?_
  have hp:=(m.perm.append_right A).cons (sE a 1 (DU pgs))
  exact hp.trans ((List.Perm.swap _ _ _).trans ((List.perm_append_comm.cons _).cons _))
 ·intro h' bs B hs'
  refine Sat.close (pgs.set j ⟨pgs[j].sl,bs⟩) ?_ ?_
  ·subst he;simp[GU,List.map_set]
  ·have e1:DU (pgs.set j ⟨pgs[j].sl,bs⟩)=DU pgs:=by
    apply List.ext_getElem?;intro k
    simp only[DU,List.getElem?_map,List.getElem?_set]
    split
    ·rename_i e;subst e;simp[hj']
    ·rfl
   refine hs'.perm ?_
   simp only[pZ,e1]
   rw[←AoY sz pgs j ⟨pgs[j].sl,bs⟩]
   refine (List.Perm.swap _ _ _).trans ?_
   refine List.Perm.cons _ ?_
   exact ((List.perm_append_comm.cons _)).trans ((m.perm_put _).append_right B)
set_option maxRecDepth 100000
def Rdt{D:Type}(enc:TypeId×Value->D)(P:Program)(W:World)(t:TypeId)(cs:List Value):Prop:=
 ∃fuel x,DataW.trod enc P W 0 (fun _=>true) true fuel t cs=some x/\∀n,n∈DataW.weights P t x.1->n≤reachBytes
inductive XSh where
 | int (k:IntKind) | bool | str | slc (e:TypeId) | row (k:IntKind) (n:Nat)
def XSh.size:XSh->Nat
 | .row _ n=>n
 | _=>1
def CY:List XSh->Nat
 | []=>0
 | s::r=>s.size+CY r
def YQ(sh:TypeId->Option (List XSh)):Nat->List Field->Option (List XSh)
 | _,[]=>some []
 | off,f::fs=>match Nat.beq f.offset off,sh f.type with
  | true,some s=>(YQ sh (off+CY s) fs).map (s ++ ·)
  | _,_=>none
def xsh(P:Program):Nat->TypeId->Option (List XSh)
 | 0,_=>none
 | d+1,t=>match P.underlying t with
  | some (.int k)=>some [.int k]
  | some .bool=>some [.bool]
  | some .string=>some [.str]
  | some (.slice e)=>some [.slc e]
  | some (.array n e)=>match P.underlying e,Nat.beq (P.cellsOf e) 1,Nat.beq (P.cellsOf t) n with
   | some (.int k),true,true=>some [.row k n]
   | _,_,_=>none
  | some (.struct fs)=>match YQ (fun u=>match xsh P d u with | some s=>(match Nat.beq (P.cellsOf u) (CY s) with | true=>some s | false=>none) | none=>none) 0 fs.toList with
   | some s=>match Nat.beq (P.cellsOf t) (CY s) with | true=>some s | false=>none
   | none=>none
  | _=>none
def Sli{D:Type}(enc:TypeId×Value->D)(P:Program)(W:World)(e:TypeId)(p:Option Addr)(l c:Nat):Prop:=
 l≤c/\c*P.bytesOf e≤reachBytes/\(p=none->l=0/\c=0)/\
  ∀i,i<l->∃a es,p=some a/\es.length=P.cellsOf e/\hcs W.heap (a.add (i*P.cellsOf e)) es/\Rdt enc P W e es
def has(k:IntKind)(n:Int):Prop:=k.min≤n/\n≤k.max
theorem pD{n:Int}(h:has .u8 n):0≤n/\n<256:=by
 have h1:IntKind.u8.min=0:=rfl
 have h2:IntKind.u8.max=255:=by decide
 unfold has at h;omega
theorem xB{n:Int}(h:has .i64 n):-(2^63)≤n/\n<2^63:=by
 have h1:IntKind.i64.min=-(2^63):=by decide
 have h2:IntKind.i64.max=2^63-1:=by decide
 unfold has at h;omega
def XM{D:Type}(enc:TypeId×Value->D)(P:Program)(W:World):List XSh->List Value->Prop
 | [],cs=>cs=[]
 | .int k::r,cs=>∃n rest,cs=.int k n::rest/\has k n/\XM enc P W r rest
 | .bool::r,cs=>∃b rest,cs=.bool b::rest/\XM enc P W r rest
 | .str::r,cs=>∃s rest,cs=.string s::rest/\s.size≤reachBytes/\XM enc P W r rest
 | .slc e::r,cs=>∃p l c rest,cs=.slice p l c::rest/\Sli enc P W e p l c/\XM enc P W r rest
 | .row k n::r,cs=>∃ns rest,cs=AA k ns++rest/\ns.length=n/\(∀x,x∈ns->has k x)/\XM enc P W r rest
section
variable {D:Type} {enc:TypeId×Value->D} {P:Program} {W:World}
theorem XM.append:∀{s1 s2:List XSh} {c1 c2:List Value},XM enc P W s1 c1->XM enc P W s2 c2->XM enc P W (s1++s2) (c1++c2)
 | [],s2,c1,c2,h1,h2=>by simp only[XM]at h1;subst h1;exact h2
 | .int k::r,s2,c1,c2,h1,h2=>by obtain⟨n,rest,rfl,hn,h⟩:=h1;exact⟨n,rest++c2,rfl,hn,XM.append h h2⟩
 | .bool::r,s2,c1,c2,h1,h2=>by obtain⟨n,rest,rfl,h⟩:=h1;exact⟨n,rest++c2,rfl,XM.append h h2⟩
 | .str::r,s2,c1,c2,h1,h2=>by obtain⟨n,rest,rfl,hn,h⟩:=h1;exact⟨n,rest++c2,rfl,hn,XM.append h h2⟩
 | .slc e::r,s2,c1,c2,h1,h2=>by obtain⟨p,l,c,rest,rfl,hn,h⟩:=h1;exact⟨p,l,c,rest++c2,rfl,hn,XM.append h h2⟩
 | .row k n::r,s2,c1,c2,h1,h2=>by obtain⟨ns,rest,rfl,hn,hh,h⟩:=h1;exact⟨ns,rest++c2,by simp,hn,hh,XM.append h h2⟩
theorem XM.len:∀{s:List XSh} {c:List Value},XM enc P W s c->c.length=CY s
 | [],c,h=>by simp only[XM]at h;subst h;rfl
 | .int k::r,c,h=>by obtain⟨n,rest,rfl,_,h⟩:=h;simp[CY,XSh.size,XM.len h];omega
 | .bool::r,c,h=>by obtain⟨n,rest,rfl,h⟩:=h;simp[CY,XSh.size,XM.len h];omega
 | .str::r,c,h=>by obtain⟨n,rest,rfl,_,h⟩:=h;simp[CY,XSh.size,XM.len h];omega
 | .slc e::r,c,h=>by obtain⟨p,l,c,rest,rfl,_,h⟩:=h;simp[CY,XSh.size,XM.len h];omega
 | .row k n::r,c,h=>by obtain⟨ns,rest,rfl,hn,_,h⟩:=h;simp[CY,XSh.size,XM.len h,hn]
theorem AbT{k:IntKind}{n:Int}(h:(Lit.int k n).wf=true):has k n:=by
 simp only[Lit.wf,Bool.and_eq_true,decide_eq_true_eq]at h
 exact h
theorem AjP{a:Addr}{n:Nat}{es:List Value}(h:W.cells? 0 a n=some es):es.length=n/\hcs W.heap a es:=by
 simp only[World.cells?,Nat.zero_le,if_true]at h
 have hl:es.length=n:=by simpa using mapM_some_length h
 refine⟨hl,fun i v hv=>?_⟩
 have hi:i<n:=by have:=(List.getElem?_eq_some_iff.1 hv).1;omega
 have:=mapM_some_get h i i (by simp[hi])
 rw[hv,AjO]at this
 exact this
theorem AbS{e:TypeId}:∀{ds:List (DataW D)} {d:DataW D},d∈ds->∀n,n∈DataW.weights P e d->n∈DataW.weightsAll P e ds
 | d0::ds,d,hd,n,hn=>by
  simp only[DataW.weightsAll,List.mem_append]
  rcases List.mem_cons.1 hd with rfl | hd
  ·exact Or.inl hn
  ·exact Or.inr (AbS hd n hn)
theorem Rdt.slice{t e:TypeId}{cs:List Value}(u:P.underlying t=some (.slice e))(h:Rdt enc P W t cs):∃p l c,cs=[.slice p l c]/\Sli enc P W e p l c:=by
 obtain⟨fuel,x,h,hw⟩:=h
 rcases DataW.trod_slice u h with⟨rfl,rfl⟩ | ⟨a,len,cap,elems,rest,n,rfl,rfl,rfl,_,hl,hc,he,h1,h2,_⟩
 ·exact⟨none,0,0,rfl,Nat.le_refl _,by simp,fun _=>⟨rfl,rfl⟩,fun i hi=>by omega⟩
 ·refine⟨some a,len,cap,rfl,hl,?_,by simp,?_⟩
  ·obtain⟨h3,_⟩:=h2 rfl
   have:=hw ((elems.length+rest.length)*P.bytesOf e) (by simp[DataW.weights,u])
   rw[he,h3]at this
   rwa [show len+(cap-len)=cap by omega]at this
  ·intro i hi
   have h4:=h1 i hi
   have hei:i<elems.length:=by omega
   rw[List.getElem?_eq_getElem hei]at h4
   obtain⟨es,h5,h6⟩:=Option.bind_eq_some_iff.1 h4
   obtain⟨h7,h8⟩:=AjP h5
   refine⟨a,es,rfl,h7,h8,n,elems[i],h6,fun m hm=>hw m ?_⟩
   simp only[DataW.weights,u,List.mem_cons,List.mem_append]
   exact Or.inr (Or.inl (AbS (List.mem_map_of_mem (List.getElem_mem hei)) m hm))
theorem AiQ{t e:TypeId}{n:Nat}{k:IntKind}{cs:List Value}(u:P.underlying t=some (.array n e))(ue:P.underlying e=some (.int k))(h1:P.cellsOf e=1)(h2:P.cellsOf t=n)(h:Rdt enc P W t cs):
  ∃ns:List Int,cs=AA k ns/\ns.length=n/\∀x,x∈ns->has k x:=by
 obtain⟨fuel,x,h,_⟩:=h
 cases fuel with
 | zero=>simp[DataW.trod]at h
 | succ f=>
  have key:cs.length=n/\∀i,i<n->∃m,cs[i]?=some (.int k m)/\has k m:=by
   unfold DataW.trod at h
   rw[u]at h
   have h:(if cs.length=P.cellsOf t then ((List.range n).mapM fun i=>DataW.trod enc P W 0 (fun _=>true) true f e ((cs.drop (i*P.cellsOf e)).take (P.cellsOf e))).map fun xs=>(DataW.agg (xs.map (·.1)),xs.flatMap (·.2)) else none)=some x:=by
    split at h <;> simp_all
   split at h
   ·rename_i hl
    obtain⟨xs,hm,_⟩:=Option.map_eq_some_iff.1 h
    refine⟨by omega,fun i hi=>?_⟩
    have hg:=mapM_some_get hm i i (by simp[hi])
    have hxl:xs.length=n:=by simpa using mapM_some_length hm
    rw[List.getElem?_eq_getElem (show i<xs.length by omega)]at hg
    obtain⟨m,hm1,_,hm2⟩:=DataW.trod_int ue hg
    rw[h1,Nat.mul_one]at hm1
    refine⟨m,?_,AbT hm2⟩
    have:((cs.drop i).take 1)[0]?=some (.int k m):=by rw[hm1];rfl
    rw[List.getElem?_take_of_lt (by omega),List.getElem?_drop]at this
    simpa using this
   ·cases h
  obtain⟨hl,hc⟩:=key
  refine⟨cs.map fun v=>match v with | .int _ m=>m | _=>0,?_,by simpa using hl,?_⟩
  ·apply List.ext_getElem?
   intro i
   rw[BA,List.getElem?_map,Option.map_map]
   by_cases hi:i<n
   ·obtain⟨m,e,_⟩:=hc i hi
    rw[e];rfl
   ·rw[List.getElem?_eq_none (by omega)];rfl
  ·intro x hx
   obtain⟨v,hv,rfl⟩:=List.mem_map.1 hx
   obtain⟨i,hi,rfl⟩:=List.mem_iff_getElem.1 hv
   obtain⟨m,e,hm⟩:=hc i (by omega)
   rw[List.getElem?_eq_getElem hi]at e
   injection e with e
   rw[e];exact hm
theorem Ac1{sh:TypeId->Option (List XSh)}{cs:List Value}(ih:∀u s c,sh u=some s->Rdt enc P W u c->XM enc P W s c)(hz:∀u s,sh u=some s->P.cellsOf u=CY s):
  ∀(fs:List Field) (off:Nat) (s:List XSh),YQ sh off fs=some s->off+CY s≤cs.length->(∀f,f∈fs->Rdt enc P W f.type ((cs.drop f.offset).take (P.cellsOf f.type)))->XM enc P W s ((cs.drop off).take (CY s))
 | [],off,s,h,_,_=>by simp only[YQ,Option.some.injEq]at h;subst h;simp[XM,CY]
 | f::fs,off,s,h,hl,hf=>by
  unfold YQ at h
  split at h
  ·rename_i s1 ho hs1
   obtain⟨s2,h2,rfl⟩:=Option.map_eq_some_iff.1 h
   have ho:f.offset=off:=Nat.eq_of_beq_eq_true ho
   have hx:CY (s1++s2)=CY s1+CY s2:=by
    clear h h2 hs1 hl
    induction s1 with
    | nil=>simp[CY]
    | cons a r ihr=>simp[CY,ihr];omega
   rw[hx]at hl ⊢
   have r1:=ih _ _ _ hs1 (hf f (by simp))
   rw[ho,hz _ _ hs1]at r1
   have r2:=Ac1 ih hz fs (off+CY s1) s2 h2 (by omega) (fun g hg=>hf g (by simp[hg]))
   have e:(cs.drop off).take (CY s1+CY s2)=(cs.drop off).take (CY s1)++(cs.drop (off+CY s1)).take (CY s2):=by
    rw[List.take_add,List.drop_drop]
   rw[e]
   exact r1.append r2
  ·cases h
theorem Rdt.xm:∀(d:Nat) (t:TypeId) (s:List XSh) (cs:List Value),xsh P d t=some s->Rdt enc P W t cs->XM enc P W s cs
 | 0,t,s,cs,h,_=>by cases h
 | d+1,t,s,cs,h,r=>by
  unfold xsh at h
  split at h
  ·rename_i k u
   injection h with h;subst h
   obtain⟨fuel,x,r,_⟩:=r
   obtain⟨n,rfl,_,hn⟩:=DataW.trod_int u r
   exact⟨n,[],rfl,AbT hn,rfl⟩
  ·rename_i u
   injection h with h;subst h
   obtain⟨fuel,x,r,_⟩:=r
   obtain⟨n,rfl,_⟩:=DataW.trod_bool u r
   exact⟨n,[],rfl,rfl⟩
  ·rename_i u
   injection h with h;subst h
   obtain⟨fuel,x,r,hw⟩:=r
   obtain⟨n,rfl,rfl,_⟩:=DataW.trod_string u r
   refine⟨n,[],rfl,?_,rfl⟩
   have:=hw n.data.toList.length (by simp[DataW.weights])
   simpa using this
  ·rename_i e u
   injection h with h;subst h
   obtain⟨p,l,c,rfl,hs⟩:=Rdt.slice u r
   exact⟨p,l,c,[],rfl,hs,rfl⟩
  ·rename_i n e u
   split at h
   ·rename_i k ue h1 h2
    injection h with h;subst h
    obtain⟨ns,rfl,hn,hh⟩:=AiQ u ue (Nat.eq_of_beq_eq_true h1) (Nat.eq_of_beq_eq_true h2) r
    exact⟨ns,[],by simp,hn,hh,rfl⟩
   ·cases h
  ·rename_i fs u
   split at h
   ·rename_i s' hx
    split at h
    ·rename_i hz
     injection h with h;subst h
     have hz:=Nat.eq_of_beq_eq_true hz
     obtain⟨fuel,x,r,hw⟩:=r
     obtain⟨xs,n,rfl,rfl,hl,hxl,hf⟩:=DataW.trod_struct u r
     have:=Ac1 (enc:=enc) (W:=W) (cs:=cs) (fun u s c hu hr=>by
       split at hu
       ·rename_i s1 hs1
        split at hu
        ·injection hu with hu;subst hu;exact Rdt.xm d u _ c hs1 hr
        ·cases hu
       ·cases hu) (fun u s hu=>by
       split at hu
       ·split at hu
        ·rename_i hb;injection hu with hu;subst hu;exact Nat.eq_of_beq_eq_true hb
        ·cases hu
       ·cases hu) fs.toList 0 s' hx (by omega) (fun f hfm=>by
       obtain⟨i,hi,rfl⟩:=List.mem_iff_getElem.1 hfm
       have hi2:i<fs.size:=by simpa using hi
       have h1:=hf i fs[i] (by simp[hi2])
       rw[List.getElem?_eq_getElem (show i<xs.length by omega)]at h1
       have e:fs.toList[i]=fs[i]:=by simp
       rw[e]
       refine⟨n,_,h1,fun m hm=>hw m ?_⟩
       simp only[DataW.weights,u]
       exact DataW.weights_mem_each (j:=i) (by simp[hi2]) (by simp[show i<xs.length by omega]) m hm)
     rw[List.drop_zero,List.take_of_length_le (by omega)]at this
     exact this
    ·cases h
   ·cases h
  ·cases h
end
end Go.Vc
end
section
namespace Go.Vc
open Go.ChangeShapes Go.WideShapes Go.ChangeAt Go.RowKit
set_option maxRecDepth 100000
section
variable {D:Type} {enc:TypeId×Value->D} {P:Program} {W:World}
theorem Aj1{W W':World}(r:Rest W W')(x:Ext CJ W.heap W'.heap)(ho:True):Below W.heap.size W W':=
 ⟨r.2.1,r.1,r.2.2,x.size,fun k hk=>x.eq k hk (fun y=>y)⟩
theorem Am8{f:Func}{s:ChangeSpec}{W':World}{args:Array Value}{ds gs:List (DataW D)}{before:List MemPlace}{tb:TypeId}(hl:laidOutB P=true)(hvars:s.vars=[])
  (hty:∀t,t∈f.params.toList->P.readableRec t=true/\t<P.types.size) (hres:f.resultTypes=#[tb]) (ub:P.underlying tb=some .bool) (hfn:s.fn D (ds++gs)={ results:=[.lit (.bool true)],args:=ds })
  (hW:DataW.Whole enc P f.params.toList s.vars false W args.toList ds gs before) (hb:Below W.heap.size W W'):s.post enc P f false true false false W args (.bool true) W':=by
 have hW0:=hW
 have hlt:=hW.lt
 obtain⟨p,q,h1,h2,rfl,h3,h4⟩:=hW
 rw[hvars]at h2
 obtain⟨rfl,rfl⟩:=trodVars_none h2
 rw[List.append_nil]at hlt
 refine⟨ds,[],p++[],[],p,[],hW0,?_,?_,?_,hb.frame _,fun h=>by cases h⟩
 ·rw[hfn,hres]
  exact trodAll_mk1 (shut_bool ub true)
 ·rw[hfn]
  have key:∀(ts:List TypeId) (vs:List Value) (ds:List (DataW D)) (p:List MemPlace),(∀t,t∈ts->P.readableRec t=true/\t<P.types.size)->(∀x∈p,x.block<W.heap.size)->
    DataW.TrodAll enc P W 0 (fun _=>true) true ts vs ds p->DataW.TrodAll enc P W' 0 (fun b=>decide (b<W.heap.size)) true ts vs ds p:=by
   intro ts
   induction ts with
   | nil=>intro vs ds p _ _ h;cases vs <;> cases ds <;> exact h
   | cons t ts ih=>
    intro vs ds p ht hp h
    cases vs with
    | nil=>cases h
    | cons v vs=>cases ds with
     | nil=>cases h
     | cons d ds=>
      obtain⟨a,b,ha,hb',rfl⟩:=h
      exact⟨a,b,Below.trod hl (ht t (by simp)).1 (ht t (by simp)).2 ha hb (fun x hx=>hp x (by simp[hx])),ih vs ds b (fun t' h'=>ht t' (by simp[h'])) (fun x hx=>hp x (by simp[hx])) hb',rfl⟩
  exact key _ _ _ _ hty hlt h1
 ·rw[hfn,hvars];rfl
theorem AqP{ts:List TypeId}{vs:List Value}{ds gs:List (DataW D)}{vars:List TypeId}
  (h:∃p,DataW.TrodAll enc P W 0 (fun _=>true) true ts vs ds p) (hz:(DataW.weightsEach P (ts++vars) (ds++gs)).all (· ≤ reachBytes)=true):
  ∀(j:Nat) (t:TypeId) (v:Value),ts[j]?=some t->vs[j]?=some v->Rdt enc P W t v.cells.toList:=by
 obtain⟨p,h⟩:=h
 induction ts generalizing vs ds p with
 | nil=>intro j t v ht;simp at ht
 | cons t0 ts ih=>
  cases vs with
  | nil=>cases h
  | cons v0 vs=>cases ds with
   | nil=>cases h
   | cons d ds=>
    obtain⟨a,b,ha,hb',rfl⟩:=h
    simp only[List.cons_append,DataW.weightsEach,List.all_append,Bool.and_eq_true]at hz
    intro j t v ht hv
    cases j with
    | zero=>
     simp only[List.getElem?_cons_zero,Option.some.injEq]at ht hv
     subst ht;subst hv
     obtain⟨fuel,hf⟩:=ha
     exact⟨fuel,_,hf,fun n hn=>by simpa using List.all_eq_true.1 hz.1 n hn⟩
    | succ j=>exact ih hz.2 b hb' j t v (by simpa using ht) (by simpa using hv)
theorem zD{t:TypeId}{v:Value}{base:Nat}{r:Reach}(u:(match P.underlying t with | some (.struct _)=>true | some (.array _ _)=>true | _=>false)=true)(h:Value.okWide P W r base t v):v=.agg v.cells:=by
 unfold Value.okWide at h
 split at h
 ·obtain⟨cs,rfl,_⟩:=h;rfl
 ·obtain⟨cs,rfl,_⟩:=h;rfl
 ·rename_i h1 h2
  split at u
  ·rename_i h3;exact absurd h3 (h1 _)
  ·rename_i h3;exact absurd h3 (h2 _ _)
  ·cases u
theorem An9{t:TypeId}{v:Value}{base:Nat}{r:Reach}(u:(match P.underlying t with | some (.struct _)=>false | some (.array _ _)=>false | some _=>true | none=>false)=true)(h:Value.okWide P W r base t v){x:Value}(hx:v.cells.toList=[x]):v=x:=by
 cases v with
 | agg cs=>
  exfalso
  unfold Value.okWide at h
  split at h
  ·rename_i h1;rw[h1]at u;cases u
  ·rename_i h1;rw[h1]at u;cases u
  ·unfold Cell.okWide at h
   split at h <;> first | (simp_all;done) | skip
   unfold Cell.ok at h
   split at h <;> simp_all
 | _=>simpa[Value.cells]using hx
theorem XM.one:∀{s:List XSh} {c:List Value},XM enc P W s c->∀v,v∈c->v.oneCell'=true
 | [],c,h=>by simp only[XM]at h;subst h;simp
 | .int k::r,c,h=>by
  obtain⟨n,rest,rfl,_,h⟩:=h;intro v hv
  rcases List.mem_cons.1 hv with rfl | hv
  ·rfl
  ·exact XM.one h v hv
 | .bool::r,c,h=>by
  obtain⟨n,rest,rfl,h⟩:=h;intro v hv
  rcases List.mem_cons.1 hv with rfl | hv
  ·rfl
  ·exact XM.one h v hv
 | .str::r,c,h=>by
  obtain⟨n,rest,rfl,_,h⟩:=h;intro v hv
  rcases List.mem_cons.1 hv with rfl | hv
  ·rfl
  ·exact XM.one h v hv
 | .slc e::r,c,h=>by
  obtain⟨p,l,c,rest,rfl,_,h⟩:=h;intro v hv
  rcases List.mem_cons.1 hv with rfl | hv
  ·rfl
  ·exact XM.one h v hv
 | .row k n::r,c,h=>by
  obtain⟨ns,rest,rfl,_,_,h⟩:=h;intro v hv
  rcases List.mem_append.1 hv with hv | hv
  ·exact A5 _ _ v hv
  ·exact XM.one h v hv
theorem Sli.els{e:TypeId}{p:Option Addr}{l c d:Nat}{s:List XSh}(hs:Sli enc P W e p l c)(hx:xsh P d e=some s):
  ∃ess:List (List Value),ess.length=l/\(∀es,es∈ess->es.length=P.cellsOf e/\XM enc P W s es)/\hsv W.heap p (P.cellsOf e) l ess.flatten/\
   ∀i (hi:i<ess.length),∃a,p=some a/\hcs W.heap (a.add (i*P.cellsOf e)) ess[i]:=by
 obtain⟨_,_,hn,hi⟩:=hs
 have key:∀m,m≤l->∃ess:List (List Value),ess.length=m/\(∀es,es∈ess->es.length=P.cellsOf e/\XM enc P W s es)/\∀i (hi:i<ess.length),∃a,p=some a/\hcs W.heap (a.add (i*P.cellsOf e)) ess[i]:=by
  intro m
  induction m with
  | zero=>intro _;exact⟨[],rfl,by simp,fun i hi=>by simp at hi⟩
  | succ m ih=>
   intro hm
   obtain⟨ess,h1,h2,h3⟩:=ih (by omega)
   obtain⟨a,es,ha,hl,hc,hr⟩:=hi m (by omega)
   refine⟨ess++[es],by simp[h1],?_,?_⟩
   ·intro x hxm
    rcases List.mem_append.1 hxm with hxm | hxm
    ·exact h2 x hxm
    ·simp at hxm;subst hxm;exact⟨hl,Rdt.xm d e s x hx hr⟩
   ·intro i hi
    by_cases hie:i<ess.length
    ·rw[List.getElem_append_left hie];exact h3 i hie
    ·have:i=m:=by simp at hi;omega
     subst this
     refine⟨a,ha,?_⟩
     rw[List.getElem_append_right (by omega)]
     simpa[h1]using hc
 obtain⟨ess,h1,h2,h3⟩:=key l (Nat.le_refl _)
 refine⟨ess,h1,h2,⟨?_,?_,?_⟩,h3⟩
 ·have:∀(ess:List (List Value)),(∀es,es∈ess->es.length=P.cellsOf e)->ess.flatten.length=ess.length*P.cellsOf e:=by
   intro ess
   induction ess with
   | nil=>intro _;simp
   | cons x r ih=>intro h;simp[ih (fun y hy=>h y (by simp[hy])),h x (by simp),Nat.succ_mul];omega
  rw[this ess (fun es he=>(h2 es he).1),h1]
 ·intro v hv
  obtain⟨es,he,hv⟩:=List.mem_flatten.1 hv
  exact (h2 es he).2.one v hv
 ·cases p with
  | none=>
   left
   have:=(hn rfl).1
   rw[this]at h1
   rw[List.eq_nil_of_length_eq_zero h1];rfl
  | some a=>
   right
   refine⟨a,rfl,?_⟩
   have key:∀(k:Nat) (fs:List (List Value)),ess.drop k=fs->∀i v,fs.flatten[i]?=some v->hc W.heap (a.add (k*P.cellsOf e+i))=some v:=by
    intro k fs
    induction fs generalizing k with
    | nil=>intro _ i v hv;simp at hv
    | cons x r ih=>
     intro hd i v hv
     have hk:k<ess.length:=by
      rcases Nat.lt_or_ge k ess.length with h | h
      ·exact h
      ·rw[List.drop_eq_nil_of_le h]at hd;cases hd
     rw[List.drop_eq_getElem_cons hk]at hd
     injection hd with hx1 hx2
     have hxl:x.length=P.cellsOf e:=by rw[←hx1];exact (h2 _ (List.getElem_mem hk)).1
     obtain⟨a',ha',hcx⟩:=h3 k hk
     injection ha' with ha';subst ha'
     rw[hx1]at hcx
     simp only[List.flatten_cons]at hv
     by_cases hi:i<x.length
     ·rw[List.getElem?_append_left hi]at hv
      have:=hcx i v hv
      have e2:(a.add (k*P.cellsOf e)).add i=a.add (k*P.cellsOf e+i):=by
       cases a with | mk b o sp=>unfold Addr.add;by_cases h1:k*P.cellsOf e=0 <;> by_cases h2:i=0 <;> simp[h1,h2,Nat.add_assoc]
      rw[e2]at this;exact this
     ·rw[List.getElem?_append_right (by omega)]at hv
      have:=ih (k+1) hx2 _ _ hv
      rw[Nat.succ_mul]at this
      rw[show k*P.cellsOf e+i=k*P.cellsOf e+P.cellsOf e+(i-x.length) by omega]
      exact this
   intro i v hv
   have:=key 0 ess (by simp) i v hv
   simpa using this
theorem AbK:∀{ts:List TypeId} {vs:List Value} {ds:List (DataW D)} {p:List MemPlace} {W:World} {base:Nat} {sp:Nat->Bool} {hd:Bool},DataW.TrodAll enc P W base sp hd ts vs ds p->vs.length=ts.length/\ds.length=ts.length
 | [],vs,ds,p,W,base,sp,hd,h=>by obtain⟨rfl,rfl,rfl⟩:=trodAll_nil h;exact⟨rfl,rfl⟩
 | t::ts,vs,ds,p,W,base,sp,hd,h=>by
  obtain⟨v,vs',d,ds',p',q',rfl,rfl,rfl,_,hr⟩:=trodAll_cons h
  have:=AbK hr
  simp[this.1,this.2]
def rG(enc:TypeId×Value->D)(P:Program)(W:World)(base:Nat)(ts:List TypeId)(vs:List Value):Prop:=
 vs.length=ts.length/\∀(j:Nat) (t:TypeId) (v:Value),ts[j]?=some t->vs[j]?=some v->Rdt enc P W t v.cells.toList/\Value.okWide P W .any base t v
abbrev rJ(P:Program)(f:FuncId)(vs:List Value)(W:World):Prop:=callsV P f vs (fun rs h'=>rs=[DV.one (.bool true)]/\Ext CJ W.heap h') W.heap
theorem Am7{f:FuncId}{fn:Func}{s:ChangeSpec}{args:Array Value}{ds gs:List (DataW D)}{before:List MemPlace}{tb:TypeId}{base:Nat}(ts:List TypeId)(hts:fn.params=ts.toArray)(hl:laidOutB P=true)(hvars:s.vars=[])
  (hty:(ts.all fun t=>P.readableRec t&&decide (t<P.types.size))=true) (hres:fn.resultTypes=#[tb]) (ub:P.underlying tb=some .bool)
  (hfn:∀ds:List (DataW D),ds.length=ts.length->s.fn D ds={ results:=[.lit (.bool true)],args:=ds })
  (hval:∀(j:Nat) t v,fn.params[j]?=some t->args[j]?=some v->Value.okWide P W .any base t v)
  (hW:DataW.Whole enc P fn.params.toList s.vars false W args.toList ds gs before) (hsz:(DataW.weightsEach P (fn.params.toList++s.plain.varTypes P) (ds++gs)).all (· ≤ reachBytes)=true)
  (main:∀vs,rG enc P W base ts vs->rJ P f vs W):
  Calls P f args W fun e W'=>∃v,e=.returned v/\s.post enc P fn false true false false W args v W':=by
 have hW0:=hW
 obtain⟨p,q,h1,h2,rfl,h3,h4⟩:=hW
 have h2':=h2
 rw[hvars]at h2'
 obtain⟨rfl,rfl⟩:=trodVars_none h2'
 have hlen:=AbK h1
 have hpl:fn.params.toList=ts:=by rw[hts]
 have hrd:=AqP ⟨p,h1⟩ hsz
 rw[hpl]at hrd hlen
 have hm:=main args.toList ⟨hlen.1,fun j t v ht hv=>⟨hrd j t v ht hv,hval j t v (by rw[hts];simpa using ht) (by simpa using hv)⟩⟩
 have hc:=hm.2 W rfl
 rw[show args.toList.toArray=args by simp]at hc
 refine hc.mono fun e W' he=>?_
 obtain⟨xs,_,rfl,hr,rfl,hx⟩:=he
 refine⟨.bool true,rfl,?_⟩
 refine Am8 hl hvars ?_ hres ub (by rw[List.append_nil];exact hfn ds hlen.2) hW0 (Aj1 hr hx trivial)
 intro t ht
 rw[hpl]at ht
 have:=List.all_eq_true.1 hty t ht
 simp only[Bool.and_eq_true,decide_eq_true_eq]at this
 exact this
end
end Go.Vc
end
section
namespace Go.Proofs.YteedolonhdbieaaGreatDoor
open Go Go.Vc Go.ChangeShapes Go.WideShapes Go.ChangeAt Go.RowKit
set_option maxRecDepth 100000
theorem Tryz.own:ownKnob Tryz.prog.godebug=none:=by kernel_rfl
theorem Tryz.laidOut:laidOutB Tryz.prog=true:=by kernel_rfl
theorem Tryz.ubool:Tryz.prog.underlying 4=some .bool:=by kernel_rfl
theorem C5{a b:Bool}(ha:a=true)(hb:b=true):(a&&b)=true:=by rw[ha,hb];rfl
theorem Tryz.et : Tryz.prog.globalNamed "errors.errorType" = some 0 := by kernel_rfl
theorem Tryz.rt : (Tryz.prog.cutTypes.find? (·.1 == "internal/reflectlite.rtype")).map (·.2) = some 307 := by kernel_rfl
theorem Tryz.oneRow:((List.range 424).filter fun t=>Tryz.prog.rowNamed t [101,114,114,111,114])=[51]:=by kernel_rfl
theorem Tryz.size:Tryz.prog.types.size=424:=by kernel_rfl
abbrev SF{D : Type} : List (String × DataW D) := [("errors.errorType", Rows.laid_errors_errorType)]
theorem AlE{W:World}(h:laidMetH Tryz.prog SF W):hc W.heap ⟨0,0,none⟩=some E0:=by
 have h':laidMet Tryz.prog [] W/\handlesMet Tryz.prog SF W:=h
 obtain⟨name,u,ty,e1,e2,e3,e4,e5⟩:=h'.2 _ (List.mem_singleton.2 rfl)
 have en:name=[101,114,114,111,114]:=(Option.some.inj e1).symm
 subst en
 obtain rfl:=Option.some.inj (Tryz.rt.symm.trans e2)
 have hm:ty∈(List.range 424).filter fun t=>Tryz.prog.rowNamed t [101,114,114,111,114]:=List.mem_filter.2 ⟨List.mem_range.2 (by rw[←Tryz.size];exact e3),e4⟩
 rw[Tryz.oneRow]at hm
 obtain rfl:=List.mem_singleton.1 hm
 have hh:typeHandle Tryz.prog 51=.pointer (some ⟨1,51,none⟩):=by kernel_rfl
 rw[hh]at e5
 have:W.cell? ⟨0,0,none⟩=some (.iface 307 (.agg #[.pointer (some ⟨1,51,none⟩)])):=by simpa using World.var?_cell Tryz.et e5 0
 exact this
noncomputable def yO(os:Os):World:=
 let w0:=World.holding Tryz.prog os ⟨#[],#[],[]⟩
 { w0 with heap:=w0.heap.modify 0 fun
   | .cells _ t frozen=>.cells #[.iface 307 (.agg #[.pointer (some ⟨1,51,none⟩)])] t frozen
   | o=>o }
theorem Am6(os:Os)(args:Array Value):laidMetH Tryz.prog SF ((yO os).forCall (fun _ _=>0) ⟨#[],args,[]⟩).memory:=
 laidMetH_of_parts (laidMet_nil _ _) (by kernel_rfl)
end Go.Proofs.YteedolonhdbieaaGreatDoor
end
section
namespace Go.Proofs.YteedolonhdbieaaGreatDoor
open Go Go.Vc
structure Cfg where
 cells:Int
 slots:Int
 fuses:Int
 step:Int
 keys:Int
 erases:Int
 area:Int
def Cfg.vals(c:Cfg):List Value:=
 [.int .i64 c.cells,.int .i64 c.slots,.int .i64 c.fuses,.int .i64 c.step,.int .i64 c.keys,.int .i64 c.erases,.int .i64 c.area]
structure Cfg.may (c:Cfg):Prop where
 slots:1≤c.slots/\c.slots≤8
 cells:c.slots+3≤c.cells/\c.cells≤256
 fuses:1≤c.fuses/\c.fuses≤64
 step:1≤c.step/\c.step≤65536
 keys:1≤c.keys/\c.keys≤64
 erases:0≤c.erases/\c.erases≤65536
 area:0≤c.area/\c.area≤64
theorem AqQ(n a b:Int)(Q:Bool->HP)(h:H):O9 n a b Q h=Q (decide (a≤n)&&decide (n≤b)) h:=by
 unfold O9 fM
 by_cases h1:a≤n <;> simp[h1]
open Classical in
theorem AeI(c:Cfg)(Q:Int->HP)(h:H)(k:∀h',Ext CJ h h'->Q (if c.may then 0 else 1) h'):
  GN c.cells c.slots c.fuses c.step c.keys c.erases c.area Q h:=by
 unfold GN fG
 intro b h' hn
 have kb:=hn.blk
 have kx:=k h' hn.ext
 have hc0:=kb.hc
 intro J hJ
 have fin:∀r:Bool,(r=true↔c.may)->J [SV.dv (DV.one (Value.bool r))] h':=by
  intro r hr
  apply hJ
  by_cases hm:c.may
  ·rw[hr.2 hm];rw[if_pos hm]at kx;simpa using kx
  ·have:r=false:=by cases r;rfl;exact absurd (hr.1 rfl) hm
   rw[this];rw[if_neg hm]at kx;simpa using kx
 try simp only[AF,hc0,Nat.zero_add,List.getElem?_cons_succ,List.getElem?_cons_zero,Option.some.injEq,Value.int.injEq,true_and,exists_eq_left']
 simp only[AqQ,hc0,List.getElem?_cons_succ,List.getElem?_cons_zero,Option.some.injEq,Value.int.injEq,true_and,exists_eq_left',Bool.and_eq_true,decide_eq_true_eq]
 have w3:1≤c.slots/\c.slots≤8->IntKind.i64.wrap (c.slots+3)=c.slots+3:=by
  intro h1;rw[IntKind.wrap_i64];omega
 split
 case isFalse h1=>exact fin false (by simp;intro hm;exact h1 hm.slots)
 rename_i h1
 rw[w3 h1]
 split
 case isFalse h2=>exact fin false (by simp;intro hm;exact h2 hm.cells)
 rename_i h2
 split
 case isFalse h3=>exact fin false (by simp;intro hm;exact h3 hm.fuses)
 rename_i h3
 split
 case isFalse h4=>exact fin false (by simp;intro hm;exact h4 hm.step)
 rename_i h4
 split
 case isFalse h5=>exact fin false (by simp;intro hm;exact h5 hm.keys)
 rename_i h5
 split
 case isFalse h6=>exact fin false (by simp;intro hm;exact h6 hm.erases)
 rename_i h6
 refine fin _ ?_
 simp only[Bool.and_eq_true,decide_eq_true_eq]
 exact⟨fun h7=>⟨h1,h2,h3,h4,h5,h6,h7⟩,fun hm=>hm.area⟩
theorem AnJ(c:Cfg)(hm:c.may)(Q:Int->HP)(h:H)(k:∀h',Ext CJ h h'->Q (2+2*c.area) h'):
  IU c.cells c.slots c.fuses c.step c.keys c.erases c.area Q h:=by
 unfold IU fL
 intro b h' hn
 have kx:=k h' hn.ext
 have ha:=hm.area
 have e:IntKind.i64.wrap (2+IntKind.i64.wrap (2*c.area))=2+2*c.area:=by simp only[IntKind.wrap_i64];omega
 simpa[hn.blk.hc,e]using kx
theorem Al7(c:Cfg)(hm:c.may)(Q:Int->HP)(h:H)(k:∀h',Ext CJ h h'->Q (c.slots*c.fuses+c.keys) h'):
  IT c.cells c.slots c.fuses c.step c.keys c.erases c.area Q h:=by
 unfold IT fK
 intro b h' hn
 have kx:=k h' hn.ext
 have h1:=hm.slots;have h2:=hm.fuses;have h3:=hm.keys
 have e1:0≤c.slots*c.fuses:=Int.mul_nonneg (by omega) (by omega)
 have e2:c.slots*c.fuses≤8*64:=Int.mul_le_mul (by omega) (by omega) (by omega) (by omega)
 have e:IntKind.i64.wrap (IntKind.i64.wrap (c.slots*c.fuses)+c.keys)=c.slots*c.fuses+c.keys:=by simp only[IntKind.wrap_i64];omega
 simpa[hn.blk.hc,e]using kx
end Go.Proofs.YteedolonhdbieaaGreatDoor
end
section
namespace Go.Proofs.YteedolonhdbieaaGreatDoor
open Go Go.Vc
structure St where
 pages:List (List Int)
 erases:List Int
 blown:List Bool
structure Cm where
 cfg:Cfg
 s:St
 acts:Int
 out:Bool
 left:Int
 mask:List Int
instance (c:Cfg):Decidable c.may:=
 decidable_of_iff ((1≤c.slots/\c.slots≤8)/\(c.slots+3≤c.cells/\c.cells≤256)/\(1≤c.fuses/\c.fuses≤64)/\(1≤c.step/\c.step≤65536)/\(1≤c.keys/\c.keys≤64)/\(0≤c.erases/\c.erases≤65536)/\(0≤c.area/\c.area≤64))
  ⟨fun⟨a,b,c,d,e,f,g⟩=>⟨a,b,c,d,e,f,g⟩,fun⟨a,b,c,d,e,f,g⟩=>⟨a,b,c,d,e,f,g⟩⟩
def Cfg.may?(c:Cfg):Int:=if c.may then 0 else 1
def Cfg.np(c:Cfg):Int:=2+2*c.area
def Cfg.nf(c:Cfg):Int:=c.slots*c.fuses+c.keys
def CC(n:Int):Prop:=0≤n/\n<256
def A4(ns:List Int):Prop:=∀n,n∈ns->CC n
structure St.fits (c:Cfg) (s:St):Prop where
 pages:(s.pages.length:Int)=c.np
 cells:∀l,l∈s.pages->(l.length:Int)=32*c.cells
 erases:(s.erases.length:Int)=c.np
 blown:(s.blown.length:Int)=c.nf
structure St.typed (s:St):Prop where
 bytes:∀l,l∈s.pages->A4 l
 erases:∀n,n∈s.erases->-(2^63)≤n/\n<2^63
structure Cm.ok (C:Cm):Prop where
 may:C.cfg.may
 fits:C.s.fits C.cfg
 typed:C.s.typed
 left:-1≤C.left
 left2:C.left<2^63
 mask:A4 C.mask
 acts:-(2^63)≤C.acts/\C.acts<2^63
 mlen:C.mask.length≤2^47
structure RdS (h:H) (a b c:Sl) (s:St):Prop where
 pg:RdM h 32 a s.pages
 er:hsv h b.1 1 b.2.1 (AA .i64 s.erases)
 bl:hsv h c.1 1 c.2.1 (A3 s.blown)
abbrev stL(a b c:Sl)(s:St):List Ent:=[BR 32 a s.pages,sE b 1 (AA .i64 s.erases),sE c 1 (A3 s.blown)]
def Cm.cells(C:Cm)(a b c m:Sl):List Value:=
 [.int .i64 C.cfg.cells,.int .i64 C.cfg.slots,.int .i64 C.cfg.fuses,.int .i64 C.cfg.step,.int .i64 C.cfg.keys,.int .i64 C.cfg.erases,.int .i64 C.cfg.area,a.v,b.v,c.v,
  .int .i64 C.acts,.bool C.out,.int .i64 C.left,m.v]
structure Pl where
 a:Sl
 b:Sl
 c:Sl
 m:Sl
abbrev DB(p:Nat)(C:Cm)(w:Pl):List Ent:=[blk p (C.cells w.a w.b w.c w.m),BR 32 w.a C.s.pages,sE w.b 1 (AA .i64 C.s.erases),sE w.c 1 (A3 C.s.blown),sE w.m 1 (AA .u8 C.mask)]
def AH(p:Nat)(C:Cm):Ent:=exE 2 (fun _=>C.ok) (DB p C)
theorem RdS.ext{h h':H}(x:Ext CJ h h'){a b c:Sl}{s:St}(r:RdS h a b c s):RdS h' a b c s:=
 ⟨r.pg.ext x,EC x r.er (fun _ _ y=>y),EC x r.bl (fun _ _ y=>y)⟩
theorem YE{h0 h:H}{A:List Ent}(hs:Sat h0 A h){i j k:Nat}{a b c:Sl}{s:St}(m:At A i (BR 32 a s.pages))(n:At A j (sE b 1 (AA .i64 s.erases)))(o:At A k (sE c 1 (A3 s.blown))):RdS h a b c s:=
 ⟨hs.rdM m,hs.sv n,hs.sv o⟩
end Go.Proofs.YteedolonhdbieaaGreatDoor
end
section
namespace Go.Proofs.YteedolonhdbieaaGreatDoor
open Go Go.Vc Go.ChangeShapes Go.WideShapes Go.ChangeAt Go.RowKit
set_option maxRecDepth 100000
theorem Ar7:xsh PP 8 23=some [.int .i64,.int .i64,.int .i64,.int .i64,.int .i64,.int .i64,.int .i64]:=by kernel_rfl
theorem Ar3:xsh PP 8 5=some [.int .u8]:=by kernel_rfl
section
variable {D:Type} {enc:TypeId×Value->D} {W:World}
theorem AjR{v:Value}{base:Nat}(h:Rdt enc PP W 23 v.cells.toList)(ho:Value.okWide PP W .any base 23 v):∃c:Cfg,v=.agg c.vals.toArray:=by
 have e:=zD (by kernel_rfl) ho
 obtain⟨a1,r1,e1,_,a2,r2,rfl,_,a3,r3,rfl,_,a4,r4,rfl,_,a5,r5,rfl,_,a6,r6,rfl,_,a7,r7,rfl,_,hr⟩:=Rdt.xm 8 _ _ _ Ar7 h
 simp only[XM]at hr
 subst hr
 refine⟨⟨a1,a2,a3,a4,a5,a6,a7⟩,?_⟩
 rw[e]
 congr 1
 rw[←Array.toArray_toList (xs:=v.cells),e1]
 rfl
theorem AjB{p:Option Addr}{l c:Nat}(h:Sli enc PP W 5 p l c):∃ns:List Int,hsv W.heap p 1 l (AA .u8 ns)/\A4 ns/\ns.length+4096≤2^47:=by
 have hb:Tryz.prog.bytesOf 5=1:=by kernel_rfl
 have hc:Tryz.prog.cellsOf 5=1:=by kernel_rfl
 obtain⟨ess,h1,h2,h3,_⟩:=h.els Ar3
 have hlc:=h.1
 have hr:=h.2.1
 rw[hb]at hr
 rw[hc]at h3
 have key:∀ess:List (List Value),(∀es,es∈ess->es.length=Tryz.prog.cellsOf 5/\XM enc PP W [XSh.int .u8] es)->∃ns:List Int,ess.flatten=AA .u8 ns/\A4 ns:=by
  intro ess
  induction ess with
  | nil=>intro _;exact⟨[],rfl,by intro n hn;simp at hn⟩
  | cons x r ih=>
   intro h
   obtain⟨ns,e,hn⟩:=ih fun es hes=>h es (by simp[hes])
   obtain⟨n,rest,rfl,hh,hr⟩:=(h x (by simp)).2
   simp only[XM]at hr
   subst hr
   refine⟨n::ns,by simp[e],?_⟩
   intro m hm
   rcases List.mem_cons.1 hm with rfl | hm
   ·exact pD hh
   ·exact hn m hm
 obtain⟨ns,e,hn⟩:=key ess h2
 rw[e]at h3
 have:ns.length=l:=by have:=h3.1;simpa using this
 refine⟨ns,h3,hn,?_⟩
 unfold reachBytes at hr
 omega
end
end Go.Proofs.YteedolonhdbieaaGreatDoor
end
section
namespace Go.Proofs.YteedolonhdbieaaGreatDoor
open Go Go.Vc
def B9:List Int:=List.replicate 32 255
theorem yX(n:Nat)(v:Int)(ns:List Int)(hl:ns.length=n):BP (fun _ _=>v) n ns=List.replicate n v:=by
 apply List.ext_getElem?;intro j
 rw[JB,List.getElem?_replicate]
 by_cases h:j<n
 ·simp[h,hl]
 ·rw[if_neg h,List.getElem?_eq_none (by omega)];rfl
theorem Aj4(Q:List Int->HP)(h:H)(k:∀h',Ext CJ h h'->Q B9 h'):O8 Q h:=by
 unfold O8 fI
 intro b2 h3 n2 b5 h6 n5 J hJ
 have x6:Ext CJ h h6:=n2.ext.trans n5.ext
 have hb2:b2<h6.size:=by have:=n2.size;have:=n5.size;have:=n2.b;omega
 have hb2':h.size≤b2:=by rw[n2.b];exact Nat.le_refl _
 have hb5:h.size≤b5:=by have:=n2.size;rw[n5.b];omega
 have hne:b2≠b5:=by have:=n2.size;have:=n5.b;have:=n2.b;omega
 refine BB 32 (fun i h'=>Blk h' b5 (AA .u8 (BP (fun _ _=>255) i (AB 32)))/\Blk h' b2 (AA .u8 (AB 32))/\Ext CJ h h') ?_ ?_ 0 h6 (by omega)
  ⟨by simpa using n5.blk,n5.ext.blk n2.blk (fun x=>x),x6⟩
 ·rintro i h' hi ⟨k5,k2,hx⟩ hk
  apply hJ
  rw[AD,if_pos (by simp;omega)]
  refine⟨by omega,by omega,?_,?_⟩
  ·try simp only[AF];apply k5.can;simp;omega
  ·intro h11 e
   try simp only[AF,Int.toNat_natCast,Nat.mul_one,Nat.zero_add]at e
   rw[AU (by omega)]
   refine hk h11 ?_
   have w:=k5.wr i [Value.int .u8 255]
   have w2:=k2.wr_ne (a:=⟨b5,i,none⟩) (xs:=[Value.int .u8 255]) hne
   rw[←e]at w w2
   refine⟨?_,w2,?_⟩
   ·simp only[FN,OR,E4]at w
    have:=SH (fun _ _=>255) i (AB 32) (by simpa using hi)
    rw[this]at w;exact w
   ·rw[e];exact hx.comp (Ext.wr h' b5 i _) (by rintro x h1 rfl;omega)
 ·rintro h' ⟨k5,k2,hx⟩
  apply hJ
  rw[AD,if_neg (by simp)]
  rw[yX 32 255 _ (by simp)]at k5
  refine⟨B9,by simp[B9],k5.hrow (by intro i hi;rw[Nat.zero_add,BA];rfl),k2.can (by simp),?_⟩
  intro h14 e
  have w:=k2.wr 0 (AA IntKind.u8 B9++[])
  rw[qZ _ _ (by simp[B9])]at w
  rw[←e]at w
  refine⟨B9,by simp[B9],w.hrow (by intro i hi;simp[BA]),k _ ?_⟩
  rw[e];exact hx.comp (Ext.wr h' b2 0 _) (by rintro x h1 rfl;omega)
theorem ZQ(sz:Nat)(z:List Value)(B:Nat)(hsz:0<sz)(hz:z.length=sz)(p:Option Addr)(l:Nat)(vs:List Value)(Q:Option Addr->Nat->Nat->HP)(h:H)(hs:hsv h p sz l vs)(hb:l*B≤2^47)
  (k:∀p' c' h' bs,Ext CJ h h'->OwnS h' p' l c' sz vs bs->newB h bs->Q p' l c' h'):
  if p.isNone=true then Q none 0 0 h else ∀(n5:Nat) (h6:H),hnew h n5 [] h6->∃(l8:List Value),hsv h6 p sz l l8/\
   AW h6 sz z B (some (Addr.mk n5 0 none)) 0 0 l l8 fun(o9:Option Addr) (n10 n11:Nat) (h12:H)=>Q o9 n10 n11 h12:=by
 cases p with
 | none=>
  have e:=xL hs
  have hl:l=0:=by
   have:=hs.1;rw[e]at this
   rcases Nat.eq_zero_or_pos l with h0 | h0
   ·exact h0
   ·have:=Nat.mul_pos h0 hsz;simp_all
  subst hl
  simp only[Option.isNone_none,if_true]
  refine k none 0 h [] (Ext.refl _ _) ?_ (by intro b hb;simp at hb)
  rw[e];exact OwnS.nil _ _ _
 | some a=>
  rw[if_neg (by simp)]
  intro b h' hn
  have hs':=EC hn.ext hs (fun _ _ x=>x)
  refine⟨_,hs',zF hs'.1 hz hs'.2.1 hb ?_⟩
  intro p' c' h'' bs hx ho hbs
  exact k p' c' h'' bs (hn.ext.trans hx) ho (hbs.ext hn.ext)
theorem AcC(p:Option Addr)(l c:Nat)(vs:List Value)(Q:Option Addr->Nat->Nat->HP)(h:H)(hs:hsv h p 1 l vs)(hb:l*1≤2^47)
  (k:∀p' c' h' bs,Ext CJ h h'->OwnS h' p' l c' 1 vs bs->newB h bs->Q p' l c' h'):HJ p l c Q h:=by
 unfold HJ;exact ZQ 1 _ 1 (by omega) rfl p l vs Q h hs hb k
theorem AcG(p:Option Addr)(l c:Nat)(vs:List Value)(Q:Option Addr->Nat->Nat->HP)(h:H)(hs:hsv h p 1 l vs)(hb:l*8≤2^47)
  (k:∀p' c' h' bs,Ext CJ h h'->OwnS h' p' l c' 1 vs bs->newB h bs->Q p' l c' h'):NT p l c Q h:=by
 unfold NT;exact ZQ 1 _ 8 (by omega) rfl p l vs Q h hs hb k
theorem AcB(p:Option Addr)(l c:Nat)(vs:List Value)(Q:Option Addr->Nat->Nat->HP)(h:H)(hs:hsv h p 1 l vs)(hb:l*1≤2^47)
  (k:∀p' c' h' bs,Ext CJ h h'->OwnS h' p' l c' 1 vs bs->newB h bs->Q p' l c' h'):NS p l c Q h:=by
 unfold NS;exact ZQ 1 _ 1 (by omega) rfl p l vs Q h hs hb k
theorem AcE(p:Option Addr)(l c:Nat)(vs:List Value)(Q:Option Addr->Nat->Nat->HP)(h:H)(hs:hsv h p 32 l vs)(hb:l*32≤2^47)
  (k:∀p' c' h' bs,Ext CJ h h'->OwnS h' p' l c' 32 vs bs->newB h bs->Q p' l c' h'):NR p l c Q h:=by
 unfold NR;exact ZQ 32 _ 32 (by omega) (by simp) p l vs Q h hs hb k
theorem YP{n:Int}(h:0≤n/\n<2^64):IntKind.u64.wrap n=n:=by
 have:IntKind.u64.wrap n=n % 18446744073709551616:=by simp[IntKind.wrap,IntKind.bits,IntKind.signed]
 rw[this];omega
theorem oL{n:Int}(h:0≤n/\n<2^32):bits .and .u64 n 4294967295=n:=by
 have:=bits_mask .u64 64 (by decide) (fun n h0 h1=>YP ⟨h0,h1⟩) 32 (by decide) n h.1 (by omega)
 have e:(2:Int)^32-1=4294967295:=by decide
 rw[e]at this
 rw[this];omega
theorem o8{n:Int}(h:0≤n/\n<2^32):n.fdiv (2^32)=0:=by
 rw[Int.fdiv_eq_ediv_of_nonneg _ (by decide)];omega
theorem AeJ(n:Int)(hn:0≤n/\n<2^31)(Q:Int->Int->HP)(h:H)(k:Q 0 n h):P5 1 n Q h:=by
 unfold P5 iG WR iH
 rintro i rfl
 refine⟨by decide,?_⟩
 rintro i rfl
 refine⟨by decide,by decide,?_⟩
 rintro i rfl
 refine⟨by decide,by decide,?_⟩
 have a1:bits .and .u64 1 4294967295=1:=oL (by decide)
 have a2:bits .and .u64 n 4294967295=n:=oL (by omega)
 have f1:(1:Int).fdiv (2^32)=0:=o8 (by decide)
 have f2:n.fdiv (2^32)=0:=o8 (by omega)
 have w0:IntKind.u64.wrap 0=0:=YP (by decide)
 have wn:IntKind.u64.wrap n=n:=YP (by omega)
 have f0:(0:Int).fdiv (2^32)=0:=o8 (by decide)
 have a0:bits .and .u64 0 4294967295=0:=oL (by decide)
 simpa only[a1,a2,f1,f2,Int.zero_mul,Int.mul_zero,Int.one_mul,w0,wn,f0,a0,Int.add_zero,Int.zero_add]using k
theorem YD{α:Type}(a b:Nat)(X:List α):(List.replicate (a+b) X).flatten=(List.replicate a X).flatten++(List.replicate b X).flatten:=by
 rw[←List.replicate_append_replicate,List.flatten_append]
theorem AiA(p:Option Addr)(c:Nat)(n:Nat)(X:List Value)(hX:X.length=32)(hn:1≤n/\n≤2^20)(Q:Option Addr->Nat->Nat->HP)(h:H)(hs:hsv h p 32 1 X)
  (k:∀b h',Ext CJ h h'->Blk h' b (List.replicate n X).flatten->h.size≤b->Q (some ⟨b,0,none⟩) n n h'):NU p 1 c n Q h:=by
 unfold NU mV
 intro J7 hJ7
 rw[AD,if_neg (by simp)]
 apply hJ7
 have w1:IntKind.u64.wrap ((1:Nat):Int)=1:=YP (by decide)
 have wn:IntKind.u64.wrap (n:Int)=n:=YP (by omega)
 have wi:IntKind.i64.wrap (n:Int)=n:=AL (by omega)
 rw[w1,wn]
 apply AeJ _ (by omega)
 intro J12 hJ12
 rw[AD,if_neg (by simp)]
 rintro i rfl
 rw[AD,if_neg (by simp;omega)]
 apply hJ12
 simp only[wi,Int.toNat_natCast]
 refine⟨by omega,by omega,by omega,by omega,?_⟩
 intro b h15 hnw
 have m1:Nat.min 1 n=1:=Nat.min_eq_left hn.1
 simp only[m1]
 have hs':=EC hnw.ext hs (fun _ _ x=>x)
 have lenr:∀m:Nat,(List.replicate m X).flatten.length=m*32:=fun m=>by rw[Z0,hX]
 refine⟨X,hs',Or.inr ⟨_,rfl,hnw.blk.can ?_⟩,?_⟩
 ·rw[Z0];simp;omega
 intro h19 e19
 intro J hJ
 have hb:h.size≤b:=by rw[hnw.b];exact Nat.le_refl _
 -- the block holds i copies, and something
 have main:∀d i h',n-i≤d->1≤i->i≤n->Ext CJ h h'->(∃rest,rest.length=(n-i)*32/\Blk h' b ((List.replicate i X).flatten++rest))->J [SV.dv (DV.one (Value.int IntKind.i64 (i:Int)))] h':=by
  intro d
  induction d with
  | zero=>
   rintro i h' hd h1 h2 hx ⟨rest,hr,kb⟩
   have:i=n:=by omega
   subst this
   apply hJ
   rw[AD,if_neg (by simp)]
   have:rest=[]:=List.eq_nil_of_length_eq_zero (by simp[hr])
   subst this
   exact k b h' hx (by simpa using kb) hb
  | succ d ih=>
   rintro i h' hd h1 h2 hx ⟨rest,hr,kb⟩
   apply hJ
   by_cases hin:i<n
   ·rw[AD,if_pos (by simp;omega)]
    have s0:AJ (some (Addr.mk b 0 none)) 0 n 32=some (Addr.mk b 0 none):=by unfold AJ;rw[if_neg (by omega)];simp
    have s1:AJ (some (Addr.mk b 0 none)) i n 32=some (Addr.mk b (i*32) none):=by unfold AJ;rw[if_neg (by omega)];simp
    simp only[Int.toNat_natCast,s0,s1,Nat.sub_zero]
    generalize hm:Nat.min i (n-i)=m
    have hm1:m≤i:=by rw[←hm];exact Nat.min_le_left _ _
    have hm2:m≤n-i:=by rw[←hm];exact Nat.min_le_right _ _
    have hm3:1≤m:=by rw[←hm];exact Nat.le_min.2 ⟨h1,by omega⟩
    have spl:(List.replicate i X).flatten=(List.replicate m X).flatten++(List.replicate (i-m) X).flatten:=by
     rw[←YD];congr 2;omega
    refine⟨by omega,by omega,by omega,by omega,(List.replicate m X).flatten,⟨lenr m,?_,Or.inr ⟨_,rfl,?_⟩⟩,Or.inr ⟨_,rfl,kb.can ?_⟩,?_⟩
    ·intro v hv
     obtain⟨l,hl,hv⟩:=List.mem_flatten.1 hv
     rw[List.eq_of_mem_replicate hl]at hv
     exact hs.2.1 v hv
    ·apply kb.hcs
     intro j hj
     rw[Nat.zero_add,spl,List.append_assoc,List.getElem?_append_left hj]
    ·simp[lenr,hr,hX]
     have:m*32≤(n-i)*32:=Nat.mul_le_mul_right _ hm2
     omega
    ·intro h26 e
     have w:IntKind.i64.wrap ((i:Int)+(m:Int))=((i+m:Nat):Int):=by rw[AL (by omega)];omega
     rw[w]
     refine ih (i+m) h26 (by omega) (by omega) (by omega) ?_ ?_
     ·rw[e];exact hx.comp (Ext.wr h' b _ _) (by rintro x hlt rfl;omega)
     ·have kw:=kb.wr (i*32) (List.replicate m X).flatten
      have e':h26=hwr h' ⟨b,i*32,none⟩ (List.replicate m X).flatten:=e
      rw[←e']at kw
      refine⟨rest.drop (m*32),by simp[hr];omega,?_⟩
      have hrr:rest=rest.take (m*32)++rest.drop (m*32):=by simp
      have:AR ((List.replicate i X).flatten++rest) (i*32) (List.replicate m X).flatten=(List.replicate (i+m) X).flatten++rest.drop (m*32):=by
       rw[hrr,←List.append_assoc,←lenr i,M9,YD]
       ·simp
       ·simp[lenr,hr]
        have:m*32≤(n-i)*32:=Nat.mul_le_mul_right _ hm2
        omega
      rw[this]at kw
      exact kw
   ·have:i=n:=by omega
    subst this
    rw[AD,if_neg (by simp)]
    have:rest=[]:=List.eq_nil_of_length_eq_zero (by simp[hr])
    subst this
    exact k b h' hx (by simpa using kb) hb
 have e':h19=hwr h15 ⟨b,0,none⟩ X:=e19
 have kb:=hnw.blk.wr 0 X
 rw[←e']at kb
 refine main n 1 h19 (by omega) (by omega) hn.1 ?_ ⟨(List.replicate (n-1) (AA .u8 (AB 32))).flatten,by simp,?_⟩
 ·rw[e'];exact hnw.ext.comp (Ext.wr h15 b _ _) (by rintro x hlt rfl;omega)
 ·have:AR (List.replicate n (AA .u8 (AB 32))).flatten 0 X=(List.replicate 1 X).flatten++(List.replicate (n-1) (AA .u8 (AB 32))).flatten:=by
   have e1:(List.replicate n (AA .u8 (AB 32))).flatten=[]++AA .u8 (AB 32)++(List.replicate (n-1) (AA .u8 (AB 32))).flatten:=by
    have:n=1+(n-1):=by omega
    rw[this,YD];simp
   rw[e1]
   have:=M9 [] (AA .u8 (AB 32)) (List.replicate (n-1) (AA .u8 (AB 32))).flatten X (by simp[hX])
   simp only[List.length_nil]at this
   rw[this];simp
  rw[this]at kb
  exact kb
theorem nF{h0 h:H}{A:List Ent}(c:Cfg){Q:Int->HP}(hs:Sat h0 A h)(k:∀h',Sat h0 A h'->Q c.may? h'):
  GN c.cells c.slots c.fuses c.step c.keys c.erases c.area Q h:=by
 apply AeI
 intro h' x
 have:=k h' (hs.ext x)
 unfold Cfg.may? at this
 by_cases hm:c.may
 ·rw[if_pos hm]at this ⊢;exact this
 ·rw[if_neg hm]at this ⊢;exact this
theorem aT{h0 h:H}{A:List Ent}(c:Cfg)(hm:c.may){Q:Int->HP}(hs:Sat h0 A h)(k:∀h',Sat h0 A h'->Q c.np h'):
  IU c.cells c.slots c.fuses c.step c.keys c.erases c.area Q h:=AnJ c hm Q h fun h' x=>k h' (hs.ext x)
theorem wS{h0 h:H}{A:List Ent}(c:Cfg)(hm:c.may){Q:Int->HP}(hs:Sat h0 A h)(k:∀h',Sat h0 A h'->Q c.nf h'):
  IT c.cells c.slots c.fuses c.step c.keys c.erases c.area Q h:=Al7 c hm Q h fun h' x=>k h' (hs.ext x)
theorem Cfg.may.np{c:Cfg}(m:c.may):2≤c.np/\c.np≤130:=by have:=m.area;unfold Cfg.np;omega
theorem Cfg.may.nf{c:Cfg}(m:c.may):0≤c.nf/\c.nf≤576:=by
 have h1:=m.slots;have h2:=m.fuses;have h3:=m.keys
 have e1:0≤c.slots*c.fuses:=Int.mul_nonneg (by omega) (by omega)
 have e2:c.slots*c.fuses≤8*64:=Int.mul_le_mul (by omega) (by omega) (by omega) (by omega)
 unfold Cfg.nf;omega
theorem Ai9{h0 h:H}{A:List Ent}(n:Nat){k:Int}{c i b:Nat}{X:List Int}{Q:Option Addr->Nat->Nat->HP}(hk:k=(n:Int))(hs:Sat h0 A h)(m:At A i (blk b (AA .u8 X++[])))(hX:X.length=32)
  (hn:1≤n/\n≤2^20) (kk:∀b h',Sat h0 (sE (some ⟨b,0,none⟩,n,n) 32 (AA .u8 (List.replicate n X).flatten)::A) h'->Q (some ⟨b,0,none⟩) n n h'):
  NU (some ⟨b,0,none⟩) 1 c k Q h:=by
 rw[hk]
 rw[List.append_nil]at m
 refine AiA _ _ n (AA .u8 X) (by simpa using hX) hn _ _ (hs.bv m (by simpa using hX) (A5 _ _)) ?_
 intro b' h' x kb hb
 refine kk b' h' ?_
 have e:(List.replicate n (AA .u8 X)).flatten=AA .u8 (List.replicate n X).flatten:=by
  simp[AA,List.map_flatten]
 rw[e]at kb
 exact (hs.ofBlk x kb hb).as_sl (.z) (by simp[hX]) (A5 _ _)
def K5(c:Cfg):List Int:=(List.replicate c.cells.toNat B9).flatten
def DM(c:Cfg):St:=⟨List.replicate c.np.toNat (K5 c),AB c.np.toNat,List.replicate c.nf.toNat false⟩
def B6(c:Cfg):Cm:=⟨c,DM c,0,false,-1,[]⟩
theorem Z1{c:Cfg}(hm:c.may):(B6 c).ok:=by
 have h1:=hm.np;have h2:=hm.nf;have h3:=hm.cells;have h4:=hm.slots
 refine⟨hm,⟨by simp[B6,DM];omega,?_,by simp[B6,DM];omega,by simp[B6,DM];omega⟩,⟨?_,?_⟩,by simp[B6],by simp[B6],by intro n hn;simp[B6]at hn,by simp[B6],by simp[B6]⟩
 ·intro l hl
  rw[List.eq_of_mem_replicate hl]
  simp[K5,B9,B6];omega
 ·intro l hl
  rw[List.eq_of_mem_replicate hl]
  intro n hn
  simp only[K5,List.mem_flatten,List.mem_replicate]at hn
  obtain⟨l,⟨_,rfl⟩,hn⟩:=hn
  have:=List.eq_of_mem_replicate hn
  unfold CC;omega
 ·intro n hn
  have:=List.eq_of_mem_replicate hn
  omega
theorem AeK{h0 h:H}{A:List Ent}(c:Cfg){Q:Option Addr->Int->HP}(hs:Sat h0 A h)
  (k1:¬c.may->∀h',Sat h0 A h'->Q none 1 h')
  (k2:c.may->∀p h',Sat h0 (AH p (B6 c)::A) h'->Q (some ⟨p,0,none⟩) 0 h'):
  O7 c.cells c.slots c.fuses c.step c.keys c.erases c.area Q h:=by
 unfold O7 fH
 try simp only[AF,Nat.zero_add]
 intro g _ hn;have hs:=Sat.new hs hn
 (repeat first | refine⟨_,Sat.ld hs (by repeat constructor) (by rfl),?_⟩ | refine⟨_,_,_,Sat.ld hs (by repeat constructor) (by rfl),?_⟩ | (intro _ _ hn;replace hs:=Sat.new hs hn) | refine⟨Sat.cs hs (by repeat constructor) (by rfl),?_⟩ | (refine⟨Sat.can hs (by repeat constructor) (by simp),?_⟩;intro _ e;replace hs:=Sat.wr hs (by repeat constructor) e;clear e;simp only[put,AR,List.set]at hs))
 refine nF c hs ?_
 intro h1 hs
 unfold Cfg.may?
 by_cases hm:c.may
 case neg=>
  rw[if_neg hm,if_pos (by decide)]
  exact k1 hm _ hs.drop
 rw[if_pos hm,if_neg (by decide)]
 intro J hJ
 have hnp:=hm.np
 have hnf:=hm.nf
 have fin:∀p a b h',Sat h0 (blk g c.vals::blk b (List.replicate c.nf.toNat [Value.bool false]).flatten::blk a (List.replicate c.np.toNat [Value.int .i64 0]).flatten ::
   blk p [.slice none 0 0,.slice (some ⟨a,0,none⟩) c.np.toNat c.np.toNat,.slice (some ⟨b,0,none⟩) c.nf.toNat c.nf.toNat]::A) h'->J [SV.dv (DV.addr ⟨p,0,none⟩)] h':=by
  intro p a b h' hs
  apply hJ
  simp only[Cfg.vals]at hs
  (repeat first | refine⟨_,Sat.ld hs (by repeat constructor) (by rfl),?_⟩ | refine⟨_,_,_,Sat.ld hs (by repeat constructor) (by rfl),?_⟩ | (intro _ _ hn;replace hs:=Sat.new hs hn) | refine⟨Sat.cs hs (by repeat constructor) (by rfl),?_⟩ | (refine⟨Sat.can hs (by repeat constructor) (by simp),?_⟩;intro _ e;replace hs:=Sat.wr hs (by repeat constructor) e;clear e;simp only[put,AR,List.set]at hs))
  refine aT c hm hs ?_
  intro _ hs J38 hJ38
  have hs:=hs.mat_nil 32 none
  refine BB c.np.toNat (fun i h=>∃hd:Sl,hd.2.1=i/\Sat h0 (BR 32 hd (List.replicate i (K5 c))::blk g c.vals::blk b (List.replicate c.nf.toNat [Value.bool false]).flatten::blk a (List.replicate c.np.toNat [Value.int .i64 0]).flatten ::
   blk p [hd.v,.slice (some ⟨a,0,none⟩) c.np.toNat c.np.toNat,.slice (some ⟨b,0,none⟩) c.nf.toNat c.nf.toNat]::A) h) ?_ ?_ 0 _ (by omega) ⟨_,rfl,hs⟩
  ·rintro i h1 hi ⟨⟨hp,hl,hc⟩,e,hs⟩ hk
   simp only at e;subst e
   apply hJ38
   rw[AD,if_pos (by simp;omega)]
   simp only[Cfg.vals]at hs
   (repeat first | refine⟨_,Sat.ld hs (by repeat constructor) (by rfl),?_⟩ | refine⟨_,_,_,Sat.ld hs (by repeat constructor) (by rfl),?_⟩ | (intro _ _ hn;replace hs:=Sat.new hs hn) | refine⟨Sat.cs hs (by repeat constructor) (by rfl),?_⟩ | (refine⟨Sat.can hs (by repeat constructor) (by simp),?_⟩;intro _ e;replace hs:=Sat.wr hs (by repeat constructor) e;clear e;simp only[put,AR,List.set]at hs))
   refine Aj4 _ _ fun h2 x2=>?_
   have hs:=hs.ext x2
   (repeat first | refine⟨_,Sat.ld hs (by repeat constructor) (by rfl),?_⟩ | refine⟨_,_,_,Sat.ld hs (by repeat constructor) (by rfl),?_⟩ | (intro _ _ hn;replace hs:=Sat.new hs hn) | refine⟨Sat.cs hs (by repeat constructor) (by rfl),?_⟩ | (refine⟨Sat.can hs (by repeat constructor) (by simp),?_⟩;intro _ e;replace hs:=Sat.wr hs (by repeat constructor) e;clear e;simp only[put,AR,List.set]at hs))
   have hc':=hm.cells
   have hc'':=hm.slots
   refine Ai9 c.cells.toNat ?_ hs (.z) rfl ?_ ?_
   ·omega
   ·omega
   intro b2 h3 hs
   (repeat first | refine⟨_,Sat.ld hs (by repeat constructor) (by rfl),?_⟩ | refine⟨_,_,_,Sat.ld hs (by repeat constructor) (by rfl),?_⟩ | (intro _ _ hn;replace hs:=Sat.new hs hn) | refine⟨Sat.cs hs (by repeat constructor) (by rfl),?_⟩ | (refine⟨Sat.can hs (by repeat constructor) (by simp),?_⟩;intro _ e;replace hs:=Sat.wr hs (by repeat constructor) e;clear e;simp only[put,AR,List.set]at hs))
   refine⟨_,Sat.bv hs (.z) (by simp) (by simp),?_⟩
   replace hs:=Sat.front hs (e:=sE (some ⟨b2,0,none⟩,_,_) 32 _) (by repeat constructor)
   refine Sat.app_row hs (by repeat constructor) (by dsimp only;omega) ?_
   intro p' c' h4 hs
   simp only[put,del]at hs
   (repeat first | refine⟨_,Sat.ld hs (by repeat constructor) (by rfl),?_⟩ | refine⟨_,_,_,Sat.ld hs (by repeat constructor) (by rfl),?_⟩ | (intro _ _ hn;replace hs:=Sat.new hs hn) | refine⟨Sat.cs hs (by repeat constructor) (by rfl),?_⟩ | (refine⟨Sat.can hs (by repeat constructor) (by simp),?_⟩;intro _ e;replace hs:=Sat.wr hs (by repeat constructor) e;clear e;simp only[put,AR,List.set]at hs))
   rw[AU (by omega)]
   refine hk _ ⟨(p',hl+1,c'),rfl,?_⟩
   replace hs:=Sat.front hs (e:=blk p _) (by repeat constructor)
   replace hs:=Sat.front hs (e:=blk a _) (by repeat constructor)
   replace hs:=Sat.front hs (e:=blk b _) (by repeat constructor)
   replace hs:=Sat.front hs (e:=blk g _) (by repeat constructor)
   replace hs:=Sat.front hs (e:=BR 32 _ _) (by repeat constructor)
   simp only[del]at hs
   rw[List.replicate_succ']
   exact hs.sub (by(repeat (first | exact List.Sublist.refl _ | apply List.Sublist.cons_cons | apply List.Sublist.cons)))
  ·rintro h1 ⟨⟨hp,hl,hc⟩,e,hs⟩
   apply hJ38
   rw[AD,if_neg (by simp;omega)]
   simp only[Cfg.vals]at hs
   (repeat first | refine⟨_,Sat.ld hs (by repeat constructor) (by rfl),?_⟩ | refine⟨_,_,_,Sat.ld hs (by repeat constructor) (by rfl),?_⟩ | (intro _ _ hn;replace hs:=Sat.new hs hn) | refine⟨Sat.cs hs (by repeat constructor) (by rfl),?_⟩ | (refine⟨Sat.can hs (by repeat constructor) (by simp),?_⟩;intro _ e;replace hs:=Sat.wr hs (by repeat constructor) e;clear e;simp only[put,AR,List.set]at hs))
   refine k2 hm _ _ (Sat.close ⟨(hp,hl,hc),(some ⟨a,0,none⟩,c.np.toNat,c.np.toNat),(some ⟨b,0,none⟩,c.nf.toNat,c.nf.toNat),(none,0,0)⟩ (Z1 hm) ?_)
   have eb:(List.replicate c.nf.toNat [Value.bool false]).flatten=A3 (B6 c).s.blown:=by simp[B6,DM,A3]
   have ea:(List.replicate c.np.toNat [Value.int .i64 0]).flatten=AA .i64 (B6 c).s.erases:=by simp[B6,DM,AB,AA]
   rw[ea,eb]at hs
   replace hs:=hs.as_sl (i:=3) (l:=c.nf.toNat) (sz:=1) zs3 (by simp[B6,DM]) (oU _)
   replace hs:=hs.as_sl (i:=4) (l:=c.np.toNat) (sz:=1) zs4 (by simp[B6,DM]) (A5 _ _)
   replace hs:=hs.sl_nil 1 none
   simp only[put]at hs
   replace hs:=Sat.front hs (e:=slE _ _ _ 1 (A3 _)) (by repeat constructor)
   replace hs:=Sat.front hs (e:=slE _ _ _ 1 (AA .i64 _)) (by repeat constructor)
   replace hs:=Sat.front hs (e:=BR 32 _ _) (by repeat constructor)
   replace hs:=Sat.front hs (e:=blk _ [_,_,_,_,_,_,_,_,_,_,_,_,_,_]) (by repeat constructor)
   simp only[del]at hs
   exact hs.sub (by(repeat (first | exact List.Sublist.refl _ | apply List.Sublist.cons_cons | apply List.Sublist.cons)))
 repeat' (first | refine⟨_,Sat.ld hs (by repeat constructor) (by rfl),?_⟩ | (intro _ _ hn;replace hs:=Sat.new hs hn) | refine⟨Sat.cs hs (by repeat constructor) (by rfl),?_⟩ | (refine⟨Sat.can hs (by repeat constructor) (by simp),?_⟩;intro _ e;replace hs:=Sat.wr hs (by repeat constructor) e;clear e;simp only[put,AR,List.set]at hs) | refine⟨by omega,?_⟩ | (refine aT c hm hs ?_;intro _ hs) | (refine wS c hm hs ?_;intro _ hs) | refine And.intro ?_ ?_)
 all_goals
  replace hs:=Sat.front hs (e:=blk _ [Value.slice none 0 0,Value.slice (some ⟨_,0,none⟩) _ _,Value.slice (some ⟨_,0,none⟩) _ _]) (by repeat constructor)
  replace hs:=Sat.front hs (e:=blk _ (List.replicate c.np.toNat [Value.int .i64 0]).flatten) (by repeat constructor)
  replace hs:=Sat.front hs (e:=blk _ (List.replicate c.nf.toNat [Value.bool false]).flatten) (by repeat constructor)
  replace hs:=Sat.front hs (e:=blk _ c.vals) (by repeat constructor)
  exact fin _ _ _ _ hs
def AT(C:Cm)(i n:Int):Int:=if C.out=true then 8 else if i<0 then 2 else if n≤i then 2 else 0
def CZ(C:Cm)(page cell:Int):Int:=if AT C page C.s.pages.length≠0 then AT C page C.s.pages.length else AT C cell C.cfg.cells
def w64(n:Int):Int:=IntKind.i64.wrap n
def Cm.act(C:Cm):Cm:=
 if C.left≠0 then { C with acts:=w64 (C.acts+1),left:=if C.left-1 > -1 then C.left-1 else -1 }
 else { C with acts:=w64 (C.acts+1),out:=true,left:=-1,mask:=[] }
def BS(C:Cm)(i:Nat):Int:=if C.left≠0 then 255 else if C.mask=[] then 0 else C.mask.getD (i % C.mask.length) 0
def DL(C:Cm):Int:=if C.left≠0 then 0 else 8
theorem AqO(n:Int):-(2^63)≤w64 n/\w64 n<2^63:=by unfold w64;rw[IntKind.wrap_i64];omega
theorem Cm.ok.act{C:Cm}(k:C.ok):C.act.ok:=by
 have r:=AqO (C.acts+1)
 have:=k.left
 unfold Cm.act
 split
 ·exact⟨k.may,k.fits,k.typed,by dsimp only;split <;> omega,by have:=k.left2;dsimp only;split <;> omega,k.mask,r,k.mlen⟩
 ·exact⟨k.may,k.fits,k.typed,by dsimp only;omega,by dsimp only;omega,by intro n hn;simp at hn,r,by simp⟩
theorem I5{h0 h:H}{A:List Ent}{i p:Nat}{C C0:Cm}{a b c m:Sl}(ok:C.ok)(ci:At A i (AH p C0))
  (hs:Sat h0 (blk p (C.cells a b c m)::BR 32 a C.s.pages::sE b 1 (AA .i64 C.s.erases)::sE c 1 (A3 C.s.blown)::sE m 1 (AA .u8 C.mask)::del A i) h):Sat h0 (put A i (AH p C)) h:=
 Sat.back ci (Sat.close ⟨a,b,c,m⟩ ok hs)
section
variable {h0 h:H} {A:List Ent} {i p:Nat} {C:Cm}
theorem Ac3{Q:Int->HP}(hs:Sat h0 A h)(ci:At A i (AH p C))(k:Q C.acts h):O4 ⟨p,0,none⟩ Q h:=by
 unfold O4 eI
 obtain⟨w,ok,hs⟩:=(hs.front ci).open_;dsimp only[DB,List.cons_append,List.nil_append,Cm.cells]at hs
 exact⟨_,hs.ld .z rfl,k⟩
theorem RX{Q:Bool->HP}(hs:Sat h0 A h)(ci:At A i (AH p C))(k:Q C.out h):EJ ⟨p,0,none⟩ Q h:=by
 unfold EJ eS
 obtain⟨w,ok,hs⟩:=(hs.front ci).open_;dsimp only[DB,List.cons_append,List.nil_append,Cm.cells]at hs
 exact⟨_,hs.ld .z rfl,k⟩
theorem AiB{Q:HP}(hs:Sat h0 A h)(ci:At A i (AH p C))(k:∀h',Sat h0 (put A i (AH p { C with out:=false })) h'->Q h'):O5 ⟨p,0,none⟩ Q h:=by
 unfold O5 eW
 obtain⟨w,ok,hs⟩:=(hs.front ci).open_;dsimp only[DB,List.cons_append,List.nil_append,Cm.cells]at hs
 try simp only[AF,Nat.zero_add]
 (refine⟨Sat.can hs (by repeat constructor) (by simp),?_⟩;intro _ e;replace hs:=Sat.wr hs (by repeat constructor) e;clear e;simp only[put,AR,List.set]at hs)
 exact k _ (I5 ⟨ok.may,ok.fits,ok.typed,ok.left,ok.left2,ok.mask,ok.acts,ok.mlen⟩ ci hs)
theorem CE{Q:Int->Int->Int->Int->Int->Int->Int->HP}(hs:Sat h0 A h)(ci:At A i (AH p C))
  (k:∀h',Sat h0 A h'->Q C.cfg.cells C.cfg.slots C.cfg.fuses C.cfg.step C.cfg.keys C.cfg.erases C.cfg.area h'):BC ⟨p,0,none⟩ Q h:=by
 unfold BC eM
 obtain⟨w,ok,hs⟩:=(hs.front ci).open_;dsimp only[DB,List.cons_append,List.nil_append,Cm.cells]at hs
 try simp only[AF,Nat.zero_add]
 (repeat first | refine⟨_,Sat.ld hs (by repeat constructor) (by rfl),?_⟩ | refine⟨_,_,_,Sat.ld hs (by repeat constructor) (by rfl),?_⟩ | (intro _ _ hn;replace hs:=Sat.new hs hn) | refine⟨Sat.cs hs (by repeat constructor) (by rfl),?_⟩ | (refine⟨Sat.can hs (by repeat constructor) (by simp),?_⟩;intro _ e;replace hs:=Sat.wr hs (by repeat constructor) e;clear e;simp only[put,AR,List.set]at hs))
 refine k _ ?_
 have:=I5 ok ci hs.drop
 rwa [ci.put_self]at this
theorem oQ{Q:Int->HP}(hs:Sat h0 A h){a b c m:Sl}(ci:At A i (blk p (C.cells a b c m)))(n j:Int)(k:Q (AT C j n) h):EW ⟨p,0,none⟩ j n Q h:=by
 unfold EW eY
 refine⟨_,hs.ld ci rfl,?_⟩
 unfold AT at k
 simp only[AD,A0,decide_eq_true_eq]
 split
 ·simpa[*]using k
 ·split
  ·simpa[*]using k
  ·split <;> simpa[*]using k
theorem ZI{Q:Int->HP}(hs:Sat h0 A h)(ci:At A i (AH p C))(n j:Int)(k:Q (AT C j n) h):EW ⟨p,0,none⟩ j n Q h:=by
 obtain⟨w,ok,hs⟩:=(hs.front ci).open_;dsimp only[DB,List.cons_append,List.nil_append,Cm.cells]at hs
 exact oQ (C:=C) hs .z n j k
theorem vF{Q:Int->HP}(hs:Sat h0 A h)(ci:At A i (AH p C))(page cell:Int)(k:Q (CZ C page cell) h):JS ⟨p,0,none⟩ page cell Q h:=by
 unfold JS eZ
 obtain⟨w,ok,hs⟩:=(hs.front ci).open_;dsimp only[DB,List.cons_append,List.nil_append,Cm.cells]at hs
 have hl:=(hs.rdM zs1).len
 refine⟨_,_,_,hs.ld .z rfl,?_⟩
 unfold CZ at k
 rw[hl]at k
 refine oQ (C:=C) hs .z _ _ ?_
 split
 ·rename_i h1;rw[if_pos (by simpa using h1)]at k;exact k
 ·rename_i h1;rw[if_neg (by simpa using h1)]at k
  refine⟨_,hs.ld .z rfl,oQ (C:=C) hs .z _ _ k⟩
def AmR(v:Value)(f:Nat->Int):Option (Nat×Sl×List Int)->Prop
 | none=>v=.func (.func xO) #[] #[]/\f=fun _=>255
 | some (b,_,mask)=>v=.func (.func xP) #[] #[.pointer (some ⟨b,0,none⟩)]/\f=fun i=>if mask=[] then 0 else mask.getD (i % mask.length) 0
def AmQ:Option (Nat×Sl×List Int)->List Ent
 | none=>[]
 | some (b,m,mask)=>[blk b [m.v],sE m 1 (AA .u8 mask)]
def LH(v:Value)(f:Nat->Int):Ent:=exE 3 (AmR v f) AmQ
theorem oS{Q:Value->Int->HP}(hs:Sat h0 A h)(ci:At A i (AH p C))
  (k:∀v h',Sat h0 (LH v (BS C)::put A i (AH p C.act)) h'->Q v (DL C) h'):G5 ⟨p,0,none⟩ Q h:=by
 unfold G5 fA
 obtain⟨w,ok,hs⟩:=(hs.front ci).open_;dsimp only[DB,List.cons_append,List.nil_append,Cm.cells]at hs
 try simp only[AF,Nat.zero_add]
 (repeat first | refine⟨_,Sat.ld hs (by repeat constructor) (by rfl),?_⟩ | refine⟨_,_,_,Sat.ld hs (by repeat constructor) (by rfl),?_⟩ | (intro _ _ hn;replace hs:=Sat.new hs hn) | refine⟨Sat.cs hs (by repeat constructor) (by rfl),?_⟩ | (refine⟨Sat.can hs (by repeat constructor) (by simp),?_⟩;intro _ e;replace hs:=Sat.wr hs (by repeat constructor) e;clear e;simp only[put,AR,List.set]at hs))
 have hl:=ok.left
 have ha:=ok.act
 by_cases h1:C.left=0
 ·rw[if_neg (by simp[h1])]
  (repeat first | refine⟨_,Sat.ld hs (by repeat constructor) (by rfl),?_⟩ | refine⟨_,_,_,Sat.ld hs (by repeat constructor) (by rfl),?_⟩ | (intro _ _ hn;replace hs:=Sat.new hs hn) | refine⟨Sat.cs hs (by repeat constructor) (by rfl),?_⟩ | (refine⟨Sat.can hs (by repeat constructor) (by simp),?_⟩;intro _ e;replace hs:=Sat.wr hs (by repeat constructor) e;clear e;simp only[put,AR,List.set]at hs))
  have e:DL C=8:=by simp[DL,h1]
  rw[e]at k
  have em:BS C=fun i=>if C.mask=[] then 0 else C.mask.getD (i % C.mask.length) 0:=by funext i;simp[BS,h1]
  have ea:C.act={ C with acts:=w64 (C.acts+1),out:=true,left:=-1,mask:=[] }:=by simp[Cm.act,h1]
  rw[em]at k
  rw[ea]at k ha
  refine k _ _ ?_
  replace hs:=Sat.front hs (e:=slE _ _ _ 1 (AA .u8 C.mask)) (by repeat constructor)
  replace hs:=Sat.front hs (e:=blk _ [w.m.v]) (by repeat constructor)
  replace hs:=hs.sl_nil 1 none
  replace hs:=Sat.front hs (e:=slE _ _ _ 1 (AA .u8 [])) (by repeat constructor);replace hs:=Sat.front hs (e:=slE _ _ _ 1 (A3 _)) (by repeat constructor);replace hs:=Sat.front hs (e:=slE _ _ _ 1 (AA .i64 _)) (by repeat constructor);replace hs:=Sat.front hs (e:=BR 32 _ _) (by repeat constructor);replace hs:=Sat.front hs (e:=blk p _) (by repeat constructor);simp only[del]at hs
  exact Sat.close (some (_,w.m,C.mask)) ⟨rfl,rfl⟩ (I5 (a:=w.a) (b:=w.b) (c:=w.c) (m:=(none,0,0)) ha ci.s.s hs)
 ·rw[if_pos (by simp[h1])]
  (repeat first | refine⟨_,Sat.ld hs (by repeat constructor) (by rfl),?_⟩ | refine⟨_,_,_,Sat.ld hs (by repeat constructor) (by rfl),?_⟩ | (intro _ _ hn;replace hs:=Sat.new hs hn) | refine⟨Sat.cs hs (by repeat constructor) (by rfl),?_⟩ | (refine⟨Sat.can hs (by repeat constructor) (by simp),?_⟩;intro _ e;replace hs:=Sat.wr hs (by repeat constructor) e;clear e;simp only[put,AR,List.set]at hs))
  have e:DL C=0:=by simp[DL,h1]
  rw[e]at k
  have em:BS C=fun i=>255:=by funext i;simp[BS,h1]
  have hw:IntKind.i64.wrap (C.left-1)=C.left-1:=by
   have:=ok.left2
   rw[IntKind.wrap_i64];omega
  have ea:C.act={ C with acts:=w64 (C.acts+1),left:=if C.left-1 > -1 then C.left-1 else -1 }:=by simp[Cm.act,h1]
  rw[em]at k
  rw[ea]at k ha
  rw[hw]at hs
  refine k _ _ ?_
  exact Sat.close none ⟨rfl,rfl⟩ (I5 ha ci hs)
theorem oV{v:Value}{f:Nat->Int}{Q:List DV->HP}(hs:Sat h0 A h)(mm:At A i (LH v f))(n:Nat){x:Int}(hx:x=n)(k:Q [DV.one (.int .u8 (f n))] h):HM PP v [DV.one (.int .i64 x)] Q h:=by
 obtain⟨w,e,hs⟩:=(hs.front mm).open_
 subst hx
 cases w with
 | none=>
  obtain⟨rfl,rfl⟩:=e
  refine ZO AeY (by simp) (by simp) (by simp[DV.ok]) ?_
  show YV (n:Int) (fun i h=>Q [DV.one (.int .u8 i)] h) h
  unfold YV fB
  exact k
 | some w=>
  obtain⟨b,m,mask⟩:=w
  obtain⟨rfl,rfl⟩:=e
  refine ZO AeZ (by simp) (by simp) (by simp[DV.ok]) ?_
  show YW (n:Int) ⟨b,0,none⟩ (fun i h=>Q [DV.one (.int .u8 i)] h) h
  unfold YW fC
  replace hs:Sat h0 (blk b [m.v]::sE m 1 (AA .u8 mask)::del A i) h:=hs
  dsimp only at k ⊢
  have hl:=hs.sl_len zs1
  simp only[A6,Nat.mul_one]at hl
  refine⟨_,_,_,hs.ld .z rfl,?_⟩
  by_cases h1:mask=[]
  ·rw[if_pos h1]at k
   subst h1
   rw[if_pos (by simp at hl;simp[←hl])]
   exact k
  ·rw[if_neg h1]at k
   have hp:0<mask.length:=List.length_pos_iff.2 h1
   rw[if_neg (by simp;omega)]
   refine⟨_,_,_,hs.ld .z rfl,?_⟩
   refine⟨_,_,_,hs.ld .z rfl,?_⟩
   obtain⟨q,hq⟩:=hs.sl_some zs1 (by omega)
   obtain⟨mp,ml,mc⟩:=m
   simp only at hq hl
   subst hq
   have e:(n:Int).tmod (ml:Int)=((n % ml:Nat):Int):=by rw[Int.tmod_eq_emod_of_nonneg (by omega)];omega
   rw[hl]at k
   have hlt:n % ml<ml:=Nat.mod_lt _ (by omega)
   refine⟨by dsimp only;omega,_,rfl,by dsimp only;rw[e];omega,by dsimp only;rw[e];omega,_,?_,k⟩
   dsimp only
   rw[e]
   try simp only[AF,Nat.zero_add,Int.toNat_natCast,Nat.mul_one]
   refine hs.sld zs1 ?_
   rw[BA,List.getElem?_eq_getElem (by omega)]
   simp[List.getD,List.getElem?_eq_getElem (show n % ml<mask.length by omega)]
theorem CV{i n:Int}(e:AT C i n=0):C.out=false/\0≤i/\i<n:=by
 unfold AT at e
 split at e
 ·omega
 ·rename_i h1
  split at e
  ·omega
  ·split at e
   ·omega
   ·exact⟨by simpa using h1,by omega,by omega⟩
def NX(C:Cm)(i:Int):Bool×Int:=if AT C i C.s.blown.length≠0 then (false,AT C i C.s.blown.length) else (C.s.blown.getD i.toNat false,0)
def DS(C:Cm)(i:Int):Int×Int:=if AT C i C.s.pages.length≠0 then (0,AT C i C.s.pages.length) else (C.s.erases.getD i.toNat 0,0)
theorem rI{Q:Bool->Int->HP}(hs:Sat h0 A h)(ci:At A i (AH p C))(j:Int)(k:Q (NX C j).1 (NX C j).2 h):JQ ⟨p,0,none⟩ j Q h:=by
 unfold JQ eK
 have hs':=hs
 obtain⟨w,ok,hs⟩:=(hs.front ci).open_;dsimp only[DB,List.cons_append,List.nil_append,Cm.cells]at hs
 try simp only[AF,Nat.zero_add]
 have hl:=hs.sl_len zs3
 simp only[XK,Nat.mul_one]at hl
 refine⟨_,_,_,hs.ld .z rfl,?_⟩
 rw[←hl]
 refine ZI hs' ci _ _ ?_
 unfold NX at k
 by_cases h1:AT C j C.s.blown.length=0
 ·rw[if_neg (by simpa using h1)]
  rw[if_neg (by simpa using h1)]at k
  obtain⟨_,h2,h3⟩:=CV h1
  refine⟨_,_,_,hs.ld .z rfl,?_⟩
  obtain⟨q,hq⟩:=hs.sl_some zs3 (by omega)
  obtain⟨w1,w2,⟨cp,cl,cc⟩,w4⟩:=w
  simp only at hq hl
  subst hq
  refine⟨_,rfl,h2,by simp only;omega,_,?_,k⟩
  try simp only[AF,Nat.zero_add,Nat.mul_one]
  refine hs.sld zs3 ?_
  rw[XJ,List.getElem?_eq_getElem (by omega)]
  simp[List.getD,List.getElem?_eq_getElem (show j.toNat<C.s.blown.length by omega)]
 ·rw[if_pos (by simpa using h1)]
  rw[if_pos (by simpa using h1)]at k
  exact k
theorem dK{Q:Int->Int->HP}(hs:Sat h0 A h)(ci:At A i (AH p C))(j:Int)(k:Q (DS C j).1 (DS C j).2 h):G3 ⟨p,0,none⟩ j Q h:=by
 unfold G3 eQ
 have hs':=hs
 obtain⟨w,ok,hs⟩:=(hs.front ci).open_;dsimp only[DB,List.cons_append,List.nil_append,Cm.cells]at hs
 try simp only[AF,Nat.zero_add]
 have hl:=hs.sl_len zs2
 simp only[A6,Nat.mul_one]at hl
 have hl1:=(hs.rdM zs1).len
 have hf:=ok.fits
 have hnp:=hf.pages
 have hne:=hf.erases
 refine⟨_,_,_,hs.ld .z rfl,?_⟩
 rw[←hl1]
 refine ZI hs' ci _ _ ?_
 unfold DS at k
 by_cases h1:AT C j C.s.pages.length=0
 ·rw[if_neg (by simpa using h1)]
  rw[if_neg (by simpa using h1)]at k
  obtain⟨_,h2,h3⟩:=CV h1
  refine⟨_,_,_,hs.ld .z rfl,?_⟩
  obtain⟨q,hq⟩:=hs.sl_some zs2 (by omega)
  obtain⟨w1,⟨cp,cl,cc⟩,w2,w4⟩:=w
  simp only at hq hl
  subst hq
  refine⟨_,rfl,h2,by simp only;omega,_,?_,k⟩
  try simp only[AF,Nat.zero_add,Nat.mul_one]
  refine hs.sld zs2 ?_
  rw[BA,List.getElem?_eq_getElem (by omega)]
  simp[List.getD,List.getElem?_eq_getElem (show j.toNat<C.s.erases.length by omega)]
 ·rw[if_pos (by simpa using h1)]
  rw[if_pos (by simpa using h1)]at k
  exact k
def D8(C:Cm)(n:Int)(mask:List Int):Cm:={ C with left:=if n > -1 then n else -1,mask:=mask }
theorem AcI{Q:HP}{q:Option Addr}{l c:Nat}{bs:List Int}(hs:Sat h0 A h)(ci:At A i (AH p C))(n:Int)(hn:n<2^63)(rd:hsv h q 1 l (AA .u8 bs))(hb:A4 bs)(hl:l*1≤2^47)
  (k:∀h',Sat h0 (put A i (AH p (D8 C n bs))) h'->Q h'):NH ⟨p,0,none⟩ n q l c Q h:=by
 unfold NH eO
 obtain⟨w,ok,hs⟩:=(hs.front ci).open_;dsimp only[DB,List.cons_append,List.nil_append,Cm.cells]at hs
 try simp only[AF,Nat.zero_add]
 refine AcC q l c _ _ h rd hl ?_
 intro p' c' h' bs' x o nb
 replace hs:=hs.own x o nb
 (repeat first | refine⟨_,Sat.ld hs (by repeat constructor) (by rfl),?_⟩ | refine⟨_,_,_,Sat.ld hs (by repeat constructor) (by rfl),?_⟩ | (intro _ _ hn;replace hs:=Sat.new hs hn) | refine⟨Sat.cs hs (by repeat constructor) (by rfl),?_⟩ | (refine⟨Sat.can hs (by repeat constructor) (by simp),?_⟩;intro _ e;replace hs:=Sat.wr hs (by repeat constructor) e;clear e;simp only[put,AR,List.set]at hs))
 refine k _ ?_
 have okc:(D8 C n bs).ok:=⟨ok.may,ok.fits,ok.typed,by simp only[D8];split <;> omega,by simp only[D8];split <;> omega,hb,ok.acts,by have:=rd.1;simp at this;simp only[D8];omega⟩
 replace hs:=Sat.front hs (e:=slE _ _ _ 1 (AA .u8 bs)) (by repeat constructor);replace hs:=Sat.front hs (e:=slE _ _ _ 1 (A3 _)) (by repeat constructor);replace hs:=Sat.front hs (e:=slE _ _ _ 1 (AA .i64 _)) (by repeat constructor);replace hs:=Sat.front hs (e:=BR 32 _ _) (by repeat constructor);replace hs:=Sat.front hs (e:=blk p _) (by repeat constructor);simp only[del]at hs
 exact (I5 (C:=D8 C n bs) (a:=w.a) (b:=w.b) (c:=w.c) (m:=(p',l,c')) okc ci.s hs).drop
def D6(C:Cm)(i:Int):Cm×Int:=
 if AT C i C.s.blown.length≠0 then (C,AT C i C.s.blown.length)
 else (if bits .and .u8 (BS C 0) 1=1 then { C.act with s:={ C.s with blown:=C.s.blown.set i.toNat true } } else C.act,DL C)
theorem rH{Q:Int->HP}(hs:Sat h0 A h)(ci:At A i (AH p C))(j:Int)(k:∀h',Sat h0 (put A i (AH p (D6 C j).1)) h'->Q (D6 C j).2 h'):IS ⟨p,0,none⟩ j Q h:=by
 unfold IS eJ
 have hs':=hs
 obtain⟨w,ok,hs⟩:=(hs.front ci).open_;dsimp only[DB,List.cons_append,List.nil_append,Cm.cells]at hs
 try simp only[AF,Nat.zero_add]
 have hl:=hs.sl_len zs3
 simp only[XK,Nat.mul_one]at hl
 refine⟨_,_,_,hs.ld .z rfl,?_⟩
 rw[←hl]
 refine ZI hs' ci _ _ ?_
 unfold D6 at k
 by_cases h1:AT C j C.s.blown.length=0
 case neg=>
  rw[if_pos (by simpa using h1)]
  rw[if_pos (by simpa using h1)]at k
  exact k _ (ci.put_self.symm ▸ hs')
 rw[if_neg (by simpa using h1)]
 rw[if_neg (by simpa using h1)]at k
 obtain⟨_,h2,h3⟩:=CV h1
 refine oS hs' ci ?_
 intro v h2' hs
 refine oV hs .z 0 rfl ?_
 refine⟨_,_,rfl,_,rfl,rfl,?_⟩
 by_cases h4:bits .and .u8 (BS C 0) 1=1
 case neg=>
  rw[if_neg (by simpa using h4)]
  rw[if_neg h4]at k
  exact k _ hs.drop
 rw[if_pos (by simpa using h4)]
 rw[if_pos h4]at k
 have ci2:=(ci.put (AH p C.act)).s (x:=LH v (BS C))
 obtain⟨w',ok',hs⟩:=(hs.front ci2).open_
 dsimp only[DB,List.cons_append,List.nil_append,Cm.cells]at hs
 refine⟨_,_,_,hs.ld .z rfl,?_⟩
 have eb:C.act.s=C.s:=by unfold Cm.act;split <;> rfl
 rw[eb]at hs
 have hl':=hs.sl_len zs3
 simp only[XK,Nat.mul_one]at hl'
 obtain⟨q,hq⟩:=hs.sl_some zs3 (by omega)
 obtain⟨w1,w2,⟨cp,cl,cc⟩,w4⟩:=w'
 simp only at hq hl'
 subst hq
 refine⟨_,rfl,h2,by dsimp only;omega,?_⟩
 try simp only[AF,Nat.zero_add,Nat.mul_one]
 refine⟨hs.scan zs3 (by dsimp only;omega) (by simp;omega),?_⟩
 intro h5 e5
 replace hs:=hs.swr zs3 e5 (by dsimp only;omega) (by simp;omega) (by simp)
 simp only[put,AR]at hs
 have ec:({ C.act with s:={ C.s with blown:=C.s.blown.set j.toNat true } }:Cm).ok:=
  ⟨ok'.may,⟨by have:=ok'.fits.pages;rw[eb]at this;exact this,by have:=ok'.fits.cells;rw[eb]at this;exact this,by have:=ok'.fits.erases;rw[eb]at this;exact this,
   by have:=ok'.fits.blown;rw[eb]at this;simpa using this⟩,by have:=ok'.typed;rw[eb]at this;exact⟨this.bytes,this.erases⟩,ok'.left,ok'.left2,ok'.mask,ok'.acts,ok'.mlen⟩
 have e6:(A3 C.s.blown).set j.toNat (Value.bool true)=A3 (C.s.blown.set j.toNat true):=by simp[A3,List.map_set]
 rw[e6]at hs
 have:=I5 (a:=w1) (b:=w2) (c:=(some ⟨q,0,none⟩,cl,cc)) (m:=w4) ec ci2 hs
 simp only[AS,CD]at this
 exact k _ this.drop
end
end Go.Proofs.YteedolonhdbieaaGreatDoor
end
