/- LoaderWhole and its parts, laid together by a program of ours: Tm2 Au Tm3 Tm4 To1 Tq1 Ch8 Rf3 Rf8 La2 La5 Fu3 Fu4 -/
import Derived.Test.YteedolonhdbieaaGreatDoorK10
set_option autoImplicit false
set_option linter.all false
section
namespace Go.Proofs.YteedolonhdbieaaGreatDoor
open Go Go.Vc
set_option maxRecDepth 100000
abbrev Sec:=Int×List Int
def EK(seen:List Sec)(s:Sec):Int:=
 if s.1<0 then 2 else if 63<s.1 then 2 else if s.2.length<1 then 4 else if 256<s.2.length then 4 else if (seen.find? (fun x=>x.1 == s.1)).isSome=true then 18 else 0
def goM(L:List Sec):Nat->Option (Int×Int)
 | 0=>none
 | k+1=>if EK (L.take (L.length-(k+1))) (L.getD (L.length-(k+1)) (0,[]))=0 then goM L k else some (EK (L.take (L.length-(k+1))) (L.getD (L.length-(k+1)) (0,[])),((L.length-(k+1):Nat):Int))
def DT(L:List Sec):Option (Int×Int):=if 64<L.length then some (3,64) else goM L L.length
theorem qX(L:List Sec){t:Nat}(ht:t<L.length):goM L (L.length-t)=if EK (L.take t) L[t]=0 then goM L (L.length-(t+1)) else some (EK (L.take t) L[t],(t:Int)):=by
 obtain⟨k,hk⟩:∃k,L.length-t=k+1:=⟨L.length-t-1,by omega⟩
 rw[hk]
 show (if EK (L.take (L.length-(k+1))) (L.getD (L.length-(k+1)) (0,[]))=0 then _ else _)=_
 rw[show L.length-(k+1)=t by omega,show L.length-(t+1)=k by omega]
 have:L.getD t (0,[])=L[t]:=by rw[List.getD_eq_getElem?_getD,List.getElem?_eq_getElem ht];rfl
 rw[this]
structure SR where
 key:Int
 bytes:List Int
 p:Option Addr
 c:Nat
abbrev SR.kv(x:SR):Sec:=(x.key,x.bytes)
abbrev SR.ent(x:SR):Value×DV:=(.int .i64 x.key,.one (.slice x.p x.bytes.length x.c))
abbrev SR.sl(x:SR):Ent:=slE x.p x.bytes.length x.c 1 (AA .u8 x.bytes)
def ES:List SR->List Value
 | []=>[]
 | x::r=>[.int .i64 x.key,.slice x.p x.bytes.length x.c]++ES r
theorem Al9(a b:List SR):ES (a++b)=ES a++ES b:=by
 induction a with
 | nil=>rfl
 | cons x r ih=>show [_,_]++ES (r++b)=[_,_]++ES r++ES b;rw[ih];rfl
theorem AlA(R:List SR)(i:Nat)(hi:i<R.length):(ES R)[i*2]?=some (.int .i64 R[i].key)/\(ES R)[i*2+1]?=some (.slice R[i].p R[i].bytes.length R[i].c):=by
 induction R generalizing i with
 | nil=>simp at hi
 | cons x r ih=>
  cases i with
  | zero=>exact⟨rfl,rfl⟩
  | succ i=>
   have:=ih i (by simpa using hi)
   rw[show (i+1)*2=i*2+1+1 by omega]
   exact this
def SR.at_(R:List SR)(key:Int):Option SR:=R.find? (fun x=>x.key == key)
theorem iC(R:List SR)(key:Int):(SR.at_ R key).map SR.kv=(R.map SR.kv).find? (fun x=>x.1 == key):=by
 unfold SR.at_
 induction R with
 | nil=>rfl
 | cons x r ih=>
  rw[List.map_cons,List.find?_cons,List.find?_cons]
  by_cases c:(x.key == key)=true
  ·rw[c];simp only[c];rfl
  ·have c':(x.key == key)=false:=by simpa using c
   rw[c'];simp only[c'];exact ih
theorem jQ(R:List SR)(key:Int)(z:DV):D7 (.int .i64 key) z (R.map SR.ent)=match SR.at_ R key with | some x=>some (.one (.slice x.p x.bytes.length x.c),true) | none=>some (z,false):=by
 unfold SR.at_
 induction R with
 | nil=>rfl
 | cons x r ih=>
  rw[List.map_cons,List.find?_cons]
  unfold D7
  have e:KD (.int .i64 key) (SR.ent x).1=some (key == x.key):=rfl
  rw[e]
  by_cases c:key=x.key
  ·have c1:(key == x.key)=true:=by simpa using c
   have c2:(x.key == key)=true:=by simpa using c.symm
   rw[c1,c2]
  ·have c1:(key == x.key)=false:=by simpa using c
   have c2:(x.key == key)=false:=by simpa using fun y=>c y.symm
   rw[c1,c2]
   exact ih
theorem AiO(R:List SR)(key:Int)(d:DV)(h:SR.at_ R key=none):FW (.int .i64 key) d (R.map SR.ent)=some (R.map SR.ent++[(.int .i64 key,d)]):=by
 unfold SR.at_ at h
 induction R with
 | nil=>rfl
 | cons x r ih=>
  rw[List.find?_cons]at h
  rw[List.map_cons]
  unfold FW
  have e:KD (.int .i64 key) (SR.ent x).1=some (key == x.key):=rfl
  rw[e]
  by_cases c:key=x.key
  ·have c2:(x.key == key)=true:=by simpa using c.symm
   rw[c2]at h;cases h
  ·have c1:(key == x.key)=false:=by simpa using c
   have c2:(x.key == key)=false:=by simpa using fun y=>c y.symm
   rw[c2]at h
   rw[c1]
   dsimp only
   rw[ih h]
   rfl
def SecsAt(h:H)(p:Option Addr)(l:Nat)(X:List SR):Prop:=l=X.length/\∀i (hi:i<X.length),∃q,p=some q/\hc h (q.add (i*2))=some (.int .i64 X[i].key)/\hc h ((q.add (i*2)).add 1)=some (.slice X[i].p X[i].bytes.length X[i].c)/\hsv h X[i].p 1 X[i].bytes.length (AA .u8 X[i].bytes)/\BX X[i].bytes/\X[i].bytes.length<2^47
theorem SecsAt.ext{h0 h:H}{A:List Ent}(hs:Sat h0 A h){p:Option Addr}{l:Nat}{X:List SR}(s:SecsAt h0 p l X):SecsAt h p l X:=by
 refine⟨s.1,fun i hi=>?_⟩
 obtain⟨q,h1,h2,h3,h4,h5,h6⟩:=s.2 i hi
 exact⟨q,h1,IR hs.ex h2 (fun y=>y),IR hs.ex h3 (fun y=>y),hs.base h4,h5,h6⟩
theorem vU{L:List Sec}{t:Nat}(h:t<L.length):L.take (t+1)=L.take t++[L[t]]:=by rw[List.take_succ,List.getElem?_eq_getElem h];rfl
abbrev KK(r m:Nat)(R:List SR):List Ent:=blk r [.map (some m)]::EQ m (R.map SR.ent)::R.map SR.sl
abbrev QC(r:Nat)(lp:Option Addr)(lc:Nat)(R:List SR):List Ent:=blk r [.slice lp R.length lc]::slE lp R.length lc 2 (ES R)::R.map SR.sl
def SR.good(R:List SR):Prop:=∀x,x∈R->x.bytes.length≤256/\x.bytes.length≤x.c/\BX x.bytes
section
variable {h0 h:H} {A:List Ent} {i j d r m:Nat}
theorem rC{Q:Bool->HP}(key:Int){R:List SR}(hs:Sat h0 A h)(cr:At A i (blk r [.map (some m)]))(cm:At A j (EQ m (R.map SR.ent)))(q:Q (SR.at_ R key).isSome h):IO ⟨r,0,none⟩ key Q h:=by
 cases e:SR.at_ R key with
 | none=>exact rD key hs cr cm (b:=false) (op:=none) (ol:=0) (oc:=0) (by rw[jQ,e]) (by rw[e]at q;exact q)
 | some x=>exact rD key hs cr cm (b:=true) (op:=x.p) (ol:=x.bytes.length) (oc:=x.c) (by rw[jQ,e]) (by rw[e]at q;exact q)
theorem AhQ{Q:Option Addr->Int->Int->HP}{X:List SR}{L:List Sec}{p:Option Addr}{l c:Nat}(hs:Sat h0 A h)(eL:X.map SR.kv=L)(rd:∀h',Sat h0 A h'->SecsAt h' p l X)(hl:l<2^47)
  (kE:∀e i h',DT L=some (e,i)->Sat h0 A h'->Q none e i h')
  (kT:DT L=none->∀r m R h',R.map SR.kv=L->SR.good R->Sat h0 (KK r m R++A) h'->Q (some ⟨r,0,none⟩) 0 0 h'):HF p l c Q h:=by
 unfold HF cF
 try simp only[AI,Nat.zero_add]
 have hL:l=L.length:=by rw[←eL,List.length_map];exact (rd _ hs).1
 rw[AD]
 by_cases g:64<l
 ·rw[if_pos (by rw[decide_eq_true_iff];omega)]
  exact kE _ _ _ (by unfold DT;rw[if_pos (by omega)]) hs
 rw[if_neg (by rw[decide_eq_true_iff];omega)]
 have hn:DT L=goM L L.length:=by unfold DT;rw[if_neg (by omega)]
 rw[hn]at kT
 replace kE:∀e i h',goM L L.length=some (e,i)->Sat h0 A h'->Q none e i h':=fun e i h' x=>kE e i h' (hn.trans x)
 intro m _ hn;replace hs:=hs.mapNew hn
 intro r _ hn;replace hs:=Sat.new hs hn
 intro J13 hJ13
 refine MO L.length (fun t (_:List SR)=>[si t]) (fun t R h=>goM L L.length=goM L (L.length-t)/\R.map SR.kv=L.take t/\SR.good R/\Sat h0 (KK r m R++A) h) ?_ ?_ 0 [] _ (by omega) ⟨rfl,rfl,(show SR.good [] from fun x hx=>by cases hx),hs⟩
 ·rintro t R h1 ht ⟨hg,hR,hgd,hs⟩ hk
  apply hJ13
  rw[AD,if_pos (by rw[decide_eq_true_iff];omega)]
  have rd':∀{B:List Ent} {h':H},Sat h0 (B++(KK r m R++A)) h'->Sat h0 A h':=fun{B h'} hs'=>by
   refine hs'.sub ?_
   exact (List.sublist_append_right _ _).trans (List.sublist_append_right _ _)
  have htX:t<X.length:=by rw[←eL,List.length_map]at ht;exact ht
  obtain⟨q,hq,g0,g1,_,hby,hbl⟩:=(rd _ (rd' (B:=[]) hs)).2 t htX
  have rdb:∀{B:List Ent} {h':H},Sat h0 (B++(KK r m R++A)) h'->hsv h' X[t].p 1 X[t].bytes.length (AA .u8 X[t].bytes):=fun{B h'} hs'=>by
   obtain⟨_,_,_,_,y,_⟩:=(rd _ (rd' (B:=B) hs')).2 t htX
   exact y
  rw[qX L ht]at hg
  have hkv:L[t]=(X[t].key,X[t].bytes):=by subst eL;simp
  obtain⟨key,hkey⟩:∃key,key=X[t].key:=⟨_,rfl⟩
  obtain⟨bs,hbs⟩:∃bs,bs=X[t].bytes:=⟨_,rfl⟩
  obtain⟨bp,hbp⟩:∃bp,bp=X[t].p:=⟨_,rfl⟩
  obtain⟨bc,hbc⟩:∃bc,bc=X[t].c:=⟨_,rfl⟩
  rw[←hkey,←hbs]at hkv
  rw[←hkey]at g0
  rw[←hbp,←hbs,←hbc]at g1
  rw[←hbs]at hby hbl
  have rdb':∀{B:List Ent} {h':H},Sat h0 (B++(KK r m R++A)) h'->hsv h' bp 1 bs.length (AA .u8 bs):=fun{B h'} hs'=>by
   rw[hbp,hbs];exact rdb (B:=B) hs'
  obtain⟨bl,hbsl⟩:∃bl,bs.length=bl:=⟨_,rfl⟩
  rw[hbsl]at g1 hbl
  rw[hkv]at hg
  refine⟨q,hq,by omega,by omega,?_⟩
  simp only[Int.toNat_natCast]
  refine⟨_,g0,_,_,_,g1,?_⟩
  intro b _ hn;replace hs:=Sat.new hs hn
  refine⟨Sat.can hs .z (by simp),?_⟩
  intro h2 e
  replace hs:=Sat.wra hs .z e rfl
  clear e
  simp only[AG]at hs
  have bad:∀e,e≠0->EK (L.take t) (key,bs)=e->∀h',Sat h0 A h'->Q none e t h':=by
   intro e he hb h' hs'
   rw[hb,if_neg he]at hg
   exact kE e t h' hg hs'
  intro J26 hJ26
  have no:EK (L.take t) (key,bs)=2->J26 [.dv (.one (.bool true))] h2:=by
   intro hb
   apply hJ26
   rw[if_pos rfl]
   exact bad 2 (by decide) hb _ (rd' (B:=[_]) hs)
  have way:0≤key->key<64->J26 [.dv (.one (.bool false))] h2:=by
   intro k0 k1
   apply hJ26
   clear hJ26 no
   rw[if_neg (by decide)]
   have bm:EK (L.take t) (key,bs)=if bs.length<1 then 4 else if 256<bs.length then 4 else if ((L.take t).find? (fun x=>x.1 == key)).isSome=true then 18 else 0:=by
    unfold EK
    dsimp only
    rw[if_neg (by omega),if_neg (by omega)]
   rw[bm]at hg bad
   refine⟨_,_,_,hs.ld .z rfl,?_⟩
   rw[AD]
   by_cases b1:bl<1
   ·rw[if_pos (by rw[decide_eq_true_iff];omega)]
    exact bad 4 (by decide) (by rw[if_pos (by omega)]) _ (rd' (B:=[_]) hs)
   rw[if_neg (by rw[decide_eq_true_iff];omega)]
   rw[if_neg (show ¬bs.length<1 by omega)]at hg bad
   refine⟨_,_,_,hs.ld .z rfl,?_⟩
   rw[AD]
   by_cases b2:256<bl
   ·rw[if_pos (by rw[decide_eq_true_iff];omega)]
    exact bad 4 (by decide) (by rw[if_pos (by omega)]) _ (rd' (B:=[_]) hs)
   rw[if_neg (by rw[decide_eq_true_iff];omega)]
   rw[if_neg (show ¬256<bs.length by omega)]at hg bad
   refine⟨_,hs.ld .z rfl,?_⟩
   refine rC key hs (i:=1) zs1 zs2 ?_
   have ekv:(SR.at_ R key).isSome=((L.take t).find? (fun x=>x.1 == key)).isSome:=by rw[←hR,←iC];simp
   rw[ekv]
   by_cases b3:((L.take t).find? (fun x=>x.1 == key)).isSome=true
   ·rw[if_pos b3]
    exact bad 18 (by decide) (by rw[if_pos b3]) _ (rd' (B:=[_]) hs)
   rw[if_neg b3]
   rw[if_neg b3,if_pos rfl]at hg
   clear bad
   have hnone:SR.at_ R key=none:=by
    rw[←ekv]at b3
    cases e:SR.at_ R key with
    | none=>rfl
    | some x=>rw[e]at b3;exact absurd rfl b3
   refine⟨_,hs.ld zs1 rfl,_,hs.ld .z rfl,_,_,_,hs.ld .z rfl,?_⟩
   refine AeP (vs:=AA .u8 bs) hs (by omega) (fun h' hs'=>?_) ?_
   ·rw[←hbsl];exact rdb' (B:=[_]) hs'
   intro p' c' h3 _ hs
   refine⟨AH (hs.ld zs1 rfl),AH (hs.ld zs2 rfl),_,_,_,rfl,hs.mapAt zs3,AiO R key _ hnone,?_⟩
   intro h4 e
   replace hs:=hs.mapSet zs3 e
   clear e
   simp only[AV,AG]at hs
   rw[A0 (by omega)]
   have hc':=UF hs .z
   refine hk (R++[⟨key,bs,p',c'⟩]) h4 ⟨hg,?_,?_,?_⟩
   ·rw[List.map_append,hR,vU ht,hkv];rfl
   ·intro x hx
    rcases List.mem_append.1 hx with hx | hx
    ·exact hgd x hx
    ·simp only[List.mem_cons,List.not_mem_nil,or_false]at hx
     subst hx
     exact⟨by dsimp only;omega,by dsimp only;omega,hby⟩
   ·rw[←hbsl]at hs
    have e1:(R++[(⟨key,bs,p',c'⟩:SR)]).map SR.ent=R.map SR.ent++[(.int .i64 key,.one (.slice p' bs.length c'))]:=by rw[List.map_append];rfl
    have e2:(R++[(⟨key,bs,p',c'⟩:SR)]).map SR.sl=R.map SR.sl++[slE p' bs.length c' 1 (AA .u8 bs)]:=by rw[List.map_append];rfl
    unfold KK
    rw[e1,e2]
    refine Sat.perm (hs.sub (B:=slE p' bs.length c' 1 (AA .u8 bs)::blk r [.map (some m)]::EQ m (R.map SR.ent++[(.int .i64 key,.one (.slice p' bs.length c'))])::(R.map SR.sl++A)) (by(repeat (first | exact List.Sublist.refl _ | apply List.Sublist.cons_cons | apply List.Sublist.cons)))) ?_
    simp only[List.cons_append,List.append_assoc,List.nil_append]
    refine (List.Perm.swap _ _ _).trans (List.Perm.cons _ ?_)
    refine (List.Perm.swap _ _ _).trans (List.Perm.cons _ ?_)
    exact List.perm_middle.symm
  refine⟨_,hs.ld .z rfl,?_⟩
  rw[AD]
  by_cases k0:key<0
  ·rw[if_pos (by rw[decide_eq_true_iff];omega)]
   exact no (by unfold EK;dsimp only;rw[if_pos k0])
  rw[if_neg (by rw[decide_eq_true_iff];omega)]
  refine⟨_,hs.ld .z rfl,?_⟩
  rw[BQ]
  by_cases k1:63<key
  ·rw[decide_eq_true (by omega)]
   exact no (by unfold EK;dsimp only;rw[if_neg k0,if_pos k1])
  ·rw[decide_eq_false (by omega)]
   exact way (by omega) (by omega)
 ·rintro R h1 ⟨hg,hR,hgd,hs⟩
  apply hJ13
  rw[AD,if_neg (by rw[decide_eq_true_iff];omega)]
  rw[List.take_of_length_le (Nat.le_refl _)]at hR
  rw[Nat.sub_self]at hg
  exact kT hg r m R h1 hR hgd hs
theorem AfV{Q:Int->HP}(key:Int){lp:Option Addr}{lc:Nat}{R:List SR}(hs:Sat h0 A h)(cr:At A i (blk r [.slice lp R.length lc]))(cl:At A j (slE lp R.length lc 2 (ES R)))(hR:R.length<2^40)
  (k:∀n:Int,(SR.at_ R key=none/\n=-1)∨(∃t,∃ht:t<R.length,n=(t:Int)/\SR.at_ R key=some R[t])->Q n h):O5 ⟨r,0,none⟩ key Q h:=by
 unfold O5 fB
 intro J hJ
 refine BS R.length (fun t h'=>SR.at_ R key=SR.at_ (R.drop t) key/\h'=h) ?_ ?_ 0 _ (by omega) ⟨rfl,rfl⟩
 ·rintro t h1 ht ⟨hf,rfl⟩ hk
  apply hJ
  refine⟨_,_,_,hs.ld cr rfl,?_⟩
  rw[AD,if_pos (by rw[decide_eq_true_iff];omega)]
  obtain⟨q,hq,g⟩:=MJ (hs.sv cl) (AlA R t ht).1
  refine⟨_,_,_,hs.ld cr rfl,q,hq,by omega,by omega,?_⟩
  simp only[Int.toNat_natCast]
  refine⟨_,g,?_⟩
  rw[List.drop_eq_getElem_cons ht]at hf
  unfold SR.at_ at hf
  rw[List.find?_cons]at hf
  by_cases c:R[t].key=key
  ·have c2:(R[t].key == key)=true:=by simpa using c
   rw[c2]at hf
   rw[if_pos c2]
   exact k _ (Or.inr ⟨t,ht,rfl,hf⟩)
  ·have c2:(R[t].key == key)=false:=by simpa using c
   rw[c2]at hf
   rw[if_neg (by rw[c2];decide),A0 (by omega)]
   exact hk _ ⟨hf,rfl⟩
 ·rintro h1 ⟨hf,rfl⟩
  apply hJ
  refine⟨_,_,_,hs.ld cr rfl,?_⟩
  rw[AD,if_neg (by simp)]
  rw[List.drop_of_length_le (Nat.le_refl _)]at hf
  exact k _ (Or.inl ⟨hf,rfl⟩)
theorem AkG{Q:Bool->HP}(key:Int){lp:Option Addr}{lc:Nat}{R:List SR}(hs:Sat h0 A h)(cr:At A i (blk r [.slice lp R.length lc]))(cl:At A j (slE lp R.length lc 2 (ES R)))(hR:R.length<2^40)(q:Q (SR.at_ R key).isSome h):O4 ⟨r,0,none⟩ key Q h:=by
 unfold O4 fA
 refine AfV key hs cr cl hR ?_
 intro n hn
 rw[BQ]
 rcases hn with⟨e,rfl⟩ | ⟨t,ht,rfl,e⟩
 ·rw[e]at q;exact q
 ·rw[e]at q
  rw[decide_eq_true (by omega)]
  exact q
theorem AkH{Q:Option Addr->Int->Int->HP}{X:List SR}{L:List Sec}{p:Option Addr}{l c:Nat}(hs:Sat h0 A h)(eL:X.map SR.kv=L)(rd:∀h',Sat h0 A h'->SecsAt h' p l X)(hl:l<2^47)
  (kE:∀e i h',DT L=some (e,i)->Sat h0 A h'->Q none e i h')
  (kT:DT L=none->∀r lp lc R h',R.map SR.kv=L->SR.good R->Sat h0 (QC r lp lc R++A) h'->Q (some ⟨r,0,none⟩) 0 0 h'):LV p l c Q h:=by
 unfold LV eZ
 have hL:l=L.length:=by rw[←eL,List.length_map];exact (rd _ hs).1
 rw[AD]
 by_cases g:64<l
 ·rw[if_pos (by rw[decide_eq_true_iff];omega)]
  exact kE _ _ _ (by unfold DT;rw[if_pos (by omega)]) hs
 rw[if_neg (by rw[decide_eq_true_iff];omega)]
 have hn:DT L=goM L L.length:=by unfold DT;rw[if_neg (by omega)]
 rw[hn]at kT
 replace kE:∀e i h',goM L L.length=some (e,i)->Sat h0 A h'->Q none e i h':=fun e i h' x=>kE e i h' (hn.trans x)
 intro r _ hn;replace hs:=Sat.new hs hn
 intro J9 hJ9
 refine MO L.length (fun t (_:List SR×Option Addr×Nat)=>[si t]) (fun t s h=>goM L L.length=goM L (L.length-t)/\s.1.map SR.kv=L.take t/\SR.good s.1/\Sat h0 (QC r s.2.1 s.2.2 s.1++A) h) ?_ ?_ 0 ([],none,0) _ (by omega) ⟨rfl,rfl,(show SR.good [] from fun x hx=>by cases hx),?_⟩
 ·rintro t ⟨R,lp,lc⟩ h1 ht ⟨hg,hR,hgd,hs⟩ hk
  dsimp only at hg hR hgd hs hk ⊢
  apply hJ9
  rw[AD,if_pos (by rw[decide_eq_true_iff];omega)]
  have hRl:R.length=t:=by
   have:=congrArg List.length hR
   rw[List.length_map,List.length_take]at this;omega
  have rd':∀{B:List Ent} {h':H},Sat h0 (B++(QC r lp lc R++A)) h'->Sat h0 A h':=fun{B h'} hs'=>by
   refine hs'.sub ?_
   exact (List.sublist_append_right _ _).trans (List.sublist_append_right _ _)
  have htX:t<X.length:=by rw[←eL,List.length_map]at ht;exact ht
  obtain⟨q,hq,g0,g1,_,hby,hbl⟩:=(rd _ (rd' (B:=[]) hs)).2 t htX
  rw[qX L ht]at hg
  have hkv:L[t]=(X[t].key,X[t].bytes):=by subst eL;simp
  obtain⟨Y,hY⟩:∃Y,Y=X[t]:=⟨_,rfl⟩
  have rdY:∀{B:List Ent} {h':H},Sat h0 (B++(QC r lp lc R++A)) h'->hc h' (q.add (t*2))=some (.int .i64 Y.key)/\hc h' ((q.add (t*2)).add 1)=some (.slice Y.p Y.bytes.length Y.c)/\hsv h' Y.p 1 Y.bytes.length (AA .u8 Y.bytes):=fun{B h'} hs'=>by
   obtain⟨q',hq',y0,y1,y2,_,_⟩:=(rd _ (rd' (B:=B) hs')).2 t htX
   rw[hq]at hq'
   injection hq' with hq'
   subst hq'
   rw[hY]
   exact⟨y0,y1,y2⟩
  rw[←hY]at hkv hby hbl
  clear g0 g1
  obtain⟨g0,g1,_⟩:=rdY (B:=[]) hs
  rw[hkv]at hg
  have bad:∀e,e≠0->EK (L.take t) (Y.key,Y.bytes)=e->Q none e t h1:=by
   intro e he hb
   rw[hb,if_neg he]at hg
   exact kE e t h1 hg (rd' (B:=[]) hs)
  simp only[Int.toNat_natCast]
  intro J12 hJ12
  have way:0≤Y.key->Y.key<64->J12 [] h1:=by
   intro k0 k1
   apply hJ12
   clear hJ12
   have bm:EK (L.take t) (Y.key,Y.bytes)=if Y.bytes.length<1 then 4 else if 256<Y.bytes.length then 4 else if ((L.take t).find? (fun x=>x.1 == Y.key)).isSome=true then 18 else 0:=by
    unfold EK
    dsimp only
    rw[if_neg (by omega),if_neg (by omega)]
   rw[bm]at hg bad
   intro J14 hJ14
   refine⟨q,hq,by omega,by omega,_,_,_,g1,?_⟩
   rw[AD]
   by_cases b1:Y.bytes.length<1
   ·rw[if_pos (by rw[decide_eq_true_iff];omega)]
    exact bad 4 (by decide) (by rw[if_pos (by omega)])
   rw[if_neg (by rw[decide_eq_true_iff];omega)]
   rw[if_neg (show ¬Y.bytes.length<1 by omega)]at hg bad
   refine⟨q,hq,by omega,by omega,_,_,_,g1,?_⟩
   rw[AD]
   by_cases b2:256<Y.bytes.length
   ·rw[if_pos (by rw[decide_eq_true_iff];omega)]
    exact bad 4 (by decide) (by rw[if_pos (by omega)])
   rw[if_neg (by rw[decide_eq_true_iff];omega)]
   rw[if_neg (show ¬256<Y.bytes.length by omega)]at hg bad
   apply hJ14
   clear hJ14
   refine⟨q,hq,by omega,by omega,_,g0,?_⟩
   refine AkG Y.key hs (i:=0) .z zs1 (by omega) ?_
   have ekv:(SR.at_ R Y.key).isSome=((L.take t).find? (fun x=>x.1 == Y.key)).isSome:=by rw[←hR,←iC];simp
   rw[ekv]
   by_cases b3:((L.take t).find? (fun x=>x.1 == Y.key)).isSome=true
   ·rw[if_pos b3]
    exact bad 18 (by decide) (by rw[if_pos b3])
   rw[if_neg b3]
   rw[if_neg b3,if_pos rfl]at hg
   clear bad
   intro eb _ hn;replace hs:=Sat.new hs hn
   obtain⟨g0,g1,gb⟩:=rdY (B:=[_]) hs
   refine⟨_,_,_,hs.ld zs1 rfl,q,hq,by omega,by omega,_,g0,q,hq,by omega,by omega,_,_,_,g1,_,gb,?_⟩
   refine Sat.app_new hs (by simp) rfl (A9 _ _) (by omega) ?_
   intro p' c' h3 hs
   have hc':=UF hs .z
   obtain⟨g0,g1,gb⟩:=rdY (B:=[_,_]) hs
   refine⟨AH g0,AH (hs.ld zs2 rfl),?_⟩
   intro nb _ hn;replace hs:=Sat.new hs hn
   have one2:∀v,v∈[Value.int .i64 Y.key,.slice p' Y.bytes.length c']->v.oneCell'=true:=by
    intro v hv
    simp only[List.mem_cons,List.not_mem_nil,or_false]at hv
    rcases hv with rfl | rfl <;> rfl
   refine⟨AH (hs.ld zs3 rfl),_,hs.bv (i:=0) (l:=1) (sz:=2) .z rfl one2,?_⟩
   refine Sat.app hs (i:=4) (vs:=[Value.int .i64 Y.key,.slice p' Y.bytes.length c']) zs4 rfl rfl one2 (by omega) ?_
   intro lp2 lc2 h4 hs
   simp only[AV,AG]at hs
   refine⟨Sat.can hs zs3 (by simp),?_⟩
   intro h5 e
   replace hs:=Sat.wra (xs:=[.slice lp2 (R.length+1) lc2]) hs zs3 e rfl
   clear e
   simp only[AV,AG]at hs
   rw[A0 (by omega)]
   refine hk (R++[⟨Y.key,Y.bytes,p',c'⟩],lp2,lc2) h5 ⟨hg,?_,?_,?_⟩
   ·dsimp only
    rw[List.map_append,hR,vU ht,hkv];rfl
   ·intro x hx
    rcases List.mem_append.1 hx with hx | hx
    ·exact hgd x hx
    ·simp only[List.mem_cons,List.not_mem_nil,or_false]at hx
     subst hx
     exact⟨by dsimp only;omega,by dsimp only;omega,hby⟩
   ·dsimp only
    have e1:ES (R++[(⟨Y.key,Y.bytes,p',c'⟩:SR)])=ES R++[.int .i64 Y.key,.slice p' Y.bytes.length c']:=by rw[Al9];rfl
    have e2:(R++[(⟨Y.key,Y.bytes,p',c'⟩:SR)]).map SR.sl=R.map SR.sl++[slE p' Y.bytes.length c' 1 (AA .u8 Y.bytes)]:=by rw[List.map_append];rfl
    have e3:(R++[(⟨Y.key,Y.bytes,p',c'⟩:SR)]).length=R.length+1:=by simp
    unfold QC
    rw[e1,e2,e3]
    refine Sat.perm (hs.sub (B:=slE p' Y.bytes.length c' 1 (AA .u8 Y.bytes)::blk r [.slice lp2 (R.length+1) lc2]::slE lp2 (R.length+1) lc2 2 (ES R++[.int .i64 Y.key,.slice p' Y.bytes.length c'])::(R.map SR.sl++A)) (by(repeat (first | exact List.Sublist.refl _ | apply List.Sublist.cons_cons | apply List.Sublist.cons)))) ?_
    simp only[List.cons_append,List.append_assoc,List.nil_append]
    refine (List.Perm.swap _ _ _).trans (List.Perm.cons _ ?_)
    refine (List.Perm.swap _ _ _).trans (List.Perm.cons _ ?_)
    exact List.perm_middle.symm
  refine⟨q,hq,by omega,by omega,_,g0,?_⟩
  rw[AD]
  by_cases k0:Y.key<0
  ·rw[if_pos (by rw[decide_eq_true_iff];omega)]
   exact bad 2 (by decide) (by unfold EK;dsimp only;rw[if_pos k0])
  rw[if_neg (by rw[decide_eq_true_iff];omega)]
  refine⟨q,hq,by omega,by omega,_,g0,?_⟩
  rw[AD]
  by_cases k1:63<Y.key
  ·rw[if_pos (by rw[decide_eq_true_iff];omega)]
   exact bad 2 (by decide) (by unfold EK;dsimp only;rw[if_neg k0,if_pos k1])
  ·rw[if_neg (by rw[decide_eq_true_iff];omega)]
   exact way (by omega) (by omega)
 ·rintro⟨R,lp,lc⟩ h1 ⟨hg,hR,hgd,hs⟩
  dsimp only at hg hR hgd hs ⊢
  apply hJ9
  rw[AD,if_neg (by rw[decide_eq_true_iff];omega)]
  rw[List.take_of_length_le (Nat.le_refl _)]at hR
  rw[Nat.sub_self]at hg
  exact kT hg r lp lc R h1 hR hgd hs
 ·dsimp only
  have:=hs.sl_nil 2 none
  exact this.perm (List.Perm.swap _ _ _)
end
end Go.Proofs.YteedolonhdbieaaGreatDoor
end
section
namespace Go.Proofs.YteedolonhdbieaaGreatDoor
open Go Go.Vc Go.ChangeShapes Go.WideShapes Go.ChangeAt Go.RowKit
set_option maxRecDepth 100000
theorem An2:xsh PP 8 172=some [.int .i64,.slc 5]:=by kernel_rfl
section
variable {D:Type} {enc:TypeId×Value->D} {W:World}
theorem AlB{p:Option Addr}{l c:Nat}(h:Sli enc PP W 172 p l c):∃X:List SR,SecsAt W.heap p l X/\l<2^47/\∀i (hi:i<X.length),X[i].bytes.length≤X[i].c:=by
 have hb:Tryz.prog.bytesOf 172=32:=by kernel_rfl
 have hc:Tryz.prog.cellsOf 172=2:=by kernel_rfl
 obtain⟨ess,h1,h2,_,h4⟩:=h.els An2
 have hlc:=h.1
 have hr:=h.2.1
 rw[hb]at hr
 unfold reachBytes at hr
 have key:∀ess:List (List Value),(∀es,es∈ess->es.length=Tryz.prog.cellsOf 172/\XM enc PP W [.int .i64,.slc 5] es)->∃X:List SR,X.length=ess.length/\∀i (hi:i<X.length) (hi2:i<ess.length),ess[i]=[.int .i64 X[i].key,.slice X[i].p X[i].bytes.length X[i].c]/\hsv W.heap X[i].p 1 X[i].bytes.length (AA .u8 X[i].bytes)/\U0 X[i].bytes/\X[i].bytes.length<2^47/\X[i].bytes.length≤X[i].c:=by
  intro ess
  induction ess with
  | nil=>intro _;exact⟨[],rfl,fun i hi=>by simp at hi⟩
  | cons x r ih=>
   intro h
   obtain⟨X,e1,e2⟩:=ih fun es hes=>h es (by simp[hes])
   obtain⟨k,_,rfl,_,xp,xl,xc,_,rfl,hh,hr⟩:=(h x (by simp)).2
   simp only[XM]at hr
   subst hr
   obtain⟨bs,b1,b2,b3,b4⟩:=Ae1 hh
   have hbl:bs.length=xl:=by have:=b1.1;simpa using this
   refine⟨⟨k,bs,xp,xc⟩::X,by simp[e1],?_⟩
   intro i hi hi2
   cases i with
   | zero=>subst hbl;exact⟨rfl,b1,b2,by dsimp only[List.getElem_cons_zero];omega,b3⟩
   | succ i=>exact e2 i (by simpa using hi) (by simpa using hi2)
 obtain⟨X,e1,e2⟩:=key ess h2
 refine⟨X,⟨by omega,fun i hi=>?_⟩,by omega,fun i hi=>(e2 i hi (by omega)).2.2.2.2⟩
 obtain⟨e3,e4,e5,e6,_⟩:=e2 i hi (by omega)
 obtain⟨q,hq,g⟩:=h4 i (by omega)
 rw[e3,hc]at g
 have g0:=g 0 _ rfl
 rw[add_zero]at g0
 exact⟨q,hq,g0,g 1 _ rfl,e4,e5,e6⟩
theorem AlC{p:Option Addr}{l c:Nat}(h:Sli enc PP W 172 p l c):∃X:List SR,SecsAt W.heap p l X/\l<2^47:=by
 obtain⟨X,a,b,_⟩:=AlB h
 exact⟨X,a,b⟩
end
end Go.Proofs.YteedolonhdbieaaGreatDoor
end
section
namespace Go.Proofs.YteedolonhdbieaaGreatDoor
open Go Go.Vc
set_option maxRecDepth 100000
structure TkE where
 e:Int
 key:Int
 id:List Int
 tag:List Int
section
variable {h0 h:H} {A:List Ent} {i j d r m:Nat}
end
structure NkE where
 e:Int
 key:Int
 id:List Int
 cs:List CvM
 tag:List Int
section
variable {h0 h:H} {A:List Ent} {i j d r m:Nat}
theorem sZ{Q:Option Addr->Int->Int->HP}{X:List SR}{L:List Sec}{p:Option Addr}{l c:Nat}(hs:Sat h0 A h)(eL:X.map SR.kv=L)(rd:∀h',Sat h0 A h'->SecsAt h' p l X)(hl:l<2^47)
  (k:∀o e i h' B,Sat h0 (B++A) h'->(DT L=some (e,i)/\o=none)∨(DT L=none/\e=0/\∃r m R,o=some ⟨r,0,none⟩/\R.map SR.kv=L/\SR.good R/\B=KK r m R)->Q o e i h'):HF p l c Q h:=
 AhQ hs eL rd hl (fun e i h' he hs=>k none e i h' [] hs (Or.inl ⟨he,rfl⟩)) (fun hn r m R h' e1 e2 hs=>k _ 0 0 h' _ hs (Or.inr ⟨hn,rfl,r,m,R,rfl,e1,e2,rfl⟩))
theorem AkI{Q:Option Addr->Int->Int->HP}{X:List SR}{L:List Sec}{p:Option Addr}{l c:Nat}(hs:Sat h0 A h)(eL:X.map SR.kv=L)(rd:∀h',Sat h0 A h'->SecsAt h' p l X)(hl:l<2^47)
  (k:∀o e i h' B,Sat h0 (B++A) h'->(DT L=some (e,i)/\o=none)∨(DT L=none/\e=0/\∃r lp lc R,o=some ⟨r,0,none⟩/\R.map SR.kv=L/\SR.good R/\B=QC r lp lc R)->Q o e i h'):LV p l c Q h:=
 AkH hs eL rd hl (fun e i h' he hs=>k none e i h' [] hs (Or.inl ⟨he,rfl⟩)) (fun hn r lp lc R h' e1 e2 hs=>k _ 0 0 h' _ hs (Or.inr ⟨hn,rfl,r,lp,lc,R,rfl,e1,e2,rfl⟩))
theorem AiM{A:List Ent}{x:Nat}{E:Ent}(a:At A x E):E∈A:=by
 induction a with
 | z=>exact List.mem_cons_self
 | s _ ih=>exact List.mem_cons_of_mem _ ih
end
end Go.Proofs.YteedolonhdbieaaGreatDoor
end
section
namespace Go.Proofs.YteedolonhdbieaaGreatDoor
open Go Go.Vc
set_option maxRecDepth 100000
attribute [local irreducible] BC
structure PrM where
 key:List Int
 b:List Int
 tag:List Int
section
variable {h0 h:H} {A:List Ent} {i j d r m:Nat}
end
end Go.Proofs.YteedolonhdbieaaGreatDoor
end
section
namespace Go.Proofs.YteedolonhdbieaaGreatDoor
open Go Go.Vc
set_option maxRecDepth 100000
attribute [local irreducible] BC
theorem AjB{a x y:Int}(ha:0≤a/\a<256)(hx:0≤x/\x<256)(hy:0≤y/\y<256):bits .or .u8 a (bits .xor .u8 x y)=0↔a=0/\x=y:=by
 obtain⟨a,rfl⟩:=Int.eq_ofNat_of_zero_le ha.1
 obtain⟨x,rfl⟩:=Int.eq_ofNat_of_zero_le hx.1
 obtain⟨y,rfl⟩:=Int.eq_ofNat_of_zero_le hy.1
 have e1:bits .xor .u8 (x:Int) (y:Int)=((x ^^^ y:Nat):Int):=by
  have:bits .xor .u8 (x:Int) (y:Int)=IntKind.u8.wrap ((BitVec.ofInt 8 (x:Int) ^^^ BitVec.ofInt 8 (y:Int)).toNat:Int):=rfl
  rw[this,IntKind.wrap_u8]
  simp only[BitVec.toNat_xor,BitVec.toNat_ofInt]
  have ex:((x:Int) % ((2^8:Nat):Int)).toNat=x:=by omega
  have ey:((y:Int) % ((2^8:Nat):Int)).toNat=y:=by omega
  rw[ex,ey]
  have:x ^^^ y<2^8:=Nat.xor_lt_two_pow (by omega) (by omega)
  omega
 have hz:x ^^^ y<2^8:=Nat.xor_lt_two_pow (by omega) (by omega)
 rw[e1]
 obtain⟨z,hzz⟩:∃z,z=x ^^^ y:=⟨_,rfl⟩
 rw[←hzz]at hz ⊢
 have e2:bits .or .u8 (a:Int) (z:Int)=((a ||| z:Nat):Int):=by
  have:bits .or .u8 (a:Int) (z:Int)=IntKind.u8.wrap ((BitVec.ofInt 8 (a:Int) ||| BitVec.ofInt 8 (z:Int)).toNat:Int):=rfl
  rw[this,IntKind.wrap_u8]
  simp only[BitVec.toNat_or,BitVec.toNat_ofInt]
  have ex:((a:Int) % ((2^8:Nat):Int)).toNat=a:=by omega
  have ey:((z:Int) % ((2^8:Nat):Int)).toNat=z:=by omega
  rw[ex,ey]
  have:a ||| z<2^8:=Nat.or_lt_two_pow (by omega) hz
  omega
 rw[e2]
 have e3:((a ||| z:Nat):Int)=0↔a=0/\z=0:=by
  rw[Int.natCast_eq_zero,Nat.or_eq_zero_iff]
 have e4:x ^^^ y=0↔x=y:=by
  constructor
  ·intro g
   have:x=(x ^^^ y) ^^^ y:=by rw[Nat.xor_assoc,Nat.xor_self,Nat.xor_zero]
   rw[g,Nat.zero_xor]at this
   exact this
  ·rintro rfl;exact Nat.xor_self x
 rw[e3,hzz,e4]
 omega
section
variable {h0 h:H} {A:List Ent} {i j d r m:Nat}
theorem AfL{Q:Bool->HP}{px py:Addr}{c c2:Nat}{x y:List Int}(hx:BX x)(hy:BX y)(lx:x.length=32)(ly:y.length=32)(rx:hrow h px .u8 x)(ry:hrow h py .u8 y)(k:Q (decide (x=y)) h):OB (some px) 32 c (some py) 32 c2 Q h:=by
 unfold OB dB
 rw[if_neg (by simp)]
 intro J hJ
 refine jO 32 (fun t (s:Int)=>[.dv (.one (.int .u8 s)),si t]) (fun t s h'=>h'=h/\(0≤s/\s<256)/\(s=0↔x.take t=y.take t)) ?_ ?_ 0 0 _ (by omega) ⟨rfl,by decide,by simp⟩
 ·rintro t s h1 ht ⟨rfl,hs,he⟩ hk
  apply hJ
  rw[AD,if_pos (by rw[decide_eq_true_iff];omega)]
  have tx:t<x.length:=by omega
  have ty:t<y.length:=by omega
  have gx:=rx t (.int .u8 x[t]) (by rw[BR,List.getElem?_eq_getElem tx];rfl)
  have gy:=ry t (.int .u8 y[t]) (by rw[BR,List.getElem?_eq_getElem ty];rfl)
  refine⟨px,rfl,by omega,by omega,x[t],by simpa using gx,py,rfl,by omega,by omega,y[t],by simpa using gy,?_⟩
  have bx:=hx x[t] (List.getElem_mem tx)
  have by_:=hy y[t] (List.getElem_mem ty)
  rw[A0 (by omega)]
  refine hk (bits .or .u8 s (bits .xor .u8 x[t] y[t])) _ ⟨rfl,?_,?_⟩
  ·have:bits .or .u8 s (bits .xor .u8 x[t] y[t])=IntKind.u8.wrap ((BitVec.ofInt 8 s ||| BitVec.ofInt 8 (bits .xor .u8 x[t] y[t])).toNat:Int):=rfl
   rw[this,IntKind.wrap_u8];omega
  ·rw[AjB hs bx by_,he,kS _ tx,kS _ ty]
   constructor
   ·rintro⟨a,b⟩;rw[a,b]
   ·intro a
    have:=List.append_inj a (by simp;omega)
    exact⟨this.1,by simpa using this.2⟩
 ·rintro s h1 ⟨rfl,hs,he⟩
  apply hJ
  rw[AD,if_neg (by decide)]
  rw[List.take_of_length_le (by omega),List.take_of_length_le (by omega)]at he
  have:(s == 0)=decide (x=y):=by
   by_cases c:x=y
   ·rw[decide_eq_true c];simpa using he.2 c
   ·rw[decide_eq_false c];simpa using fun y=>c (he.1 y)
  rw[this]
  exact k
end
end Go.Proofs.YteedolonhdbieaaGreatDoor
end
section
namespace Go.Proofs.YteedolonhdbieaaGreatDoor
open Go Go.Vc
structure St.lays (c:Cfg) (s:St):Prop where
 fits:s.fits c
 pos:∀n,n∈s.erases->0≤n
def C7(c:Cfg)(s:St):Cm:=⟨c,s,0,false,-1,[]⟩
theorem jH{c:Cfg}{s:St}(m:c.may)(f:s.lays c)(t:s.typed):(C7 c s).ok:=
 ⟨m,f.fits,t,by simp[C7],by simp[C7],by intro n hn;simp[C7]at hn,by simp[C7],by simp[C7]⟩
section
variable {h0 h:H} {A:List Ent} {i p:Nat} {C:Cm}
theorem AeS{p:Option Addr}{l c:Nat}{ns:List Int}{Q:Bool->HP}(hs:Sat h0 A h)(rd:hsv h p 1 l (AA .i64 ns))(hl:l<2^62)(k:Q (ns.any fun n=>decide (n<0)) h):
  PC p l c (.func (.func rW) #[] #[]) Q h:=by
 unfold PC fP TV fR
 intro J hJ
 have hlen:ns.length=l:=by have:=rd.1;simpa using this
 refine BS l (fun i h'=>h'=h/\∀j (hj:j<ns.length),j<i->0≤ns[j]) ?_ ?_ 0 _ (by omega) ⟨rfl,fun j _ hj=>by omega⟩
 ·rintro i h' hi ⟨rfl,hb⟩ hk
  apply hJ
  rw[AD,if_pos (by simp;omega)]
  have hin:i<ns.length:=by omega
  obtain⟨q,hq,g⟩:=MJ rd (i:=i) (v:=.int .i64 ns[i]) (by rw[BR,List.getElem?_eq_getElem hin];rfl)
  refine⟨q,hq,by omega,by omega,_,by simpa using g,?_⟩
  refine WP AaH (by simp) (by simp) (by simp[DV.ok]) ?_
  show V5 ns[i] _ h'
  unfold V5 aW
  refine⟨_,_,rfl,_,rfl,rfl,?_⟩
  rw[AD]
  by_cases hn:ns[i]<0
  ·rw[if_pos (by simpa using hn)]
   have:(ns.any fun n=>decide (n<0))=true:=by rw[List.any_eq_true];exact⟨_,List.getElem_mem hin,by simpa using hn⟩
   rw[this]at k
   simpa using k
  ·rw[if_neg (by simpa using hn),A0 (by omega)]
   refine hk _ ⟨rfl,fun j hj hji=>?_⟩
   by_cases e:j=i
   ·subst e;omega
   ·exact hb j hj (by omega)
 ·rintro h' ⟨rfl,hb⟩
  apply hJ
  rw[AD,if_neg (by simp)]
  have:(ns.any fun n=>decide (n<0))=false:=by
   rw[List.any_eq_false]
   intro n hn
   obtain⟨j,hj,rfl⟩:=List.mem_iff_getElem.1 hn
   have:=hb j hj (by omega)
   simp;omega
  rw[this]at k
  simpa using k
theorem AeR{a:Sl}{rows:List (List Int)}{Q:Bool->HP}{b:Nat}{c:Cfg}(hs:Sat h0 A h)(m:At A i (blk b [.int .i64 c.cells,.int .i64 c.slots,.int .i64 c.fuses,.int .i64 c.step,.int .i64 c.keys,.int .i64 c.erases,.int .i64 c.area]))(rd:RdM h 32 a rows)(hl:a.2.1<2^62)
  (k:Q (rows.any fun r=>decide ((r.length:Int)≠32*c.cells)) h):
  PB a.1 a.2.1 a.2.2 (.func (.func rV) #[] #[.pointer (some ⟨b,0,none⟩)]) Q h:=by
 unfold PB fO TU fQ
 intro J hJ
 have hlen:=rd.len
 refine BS a.2.1 (fun i h'=>h'=h/\∀j (hj:j<rows.length),j<i->(rows[j].length:Int)=32*c.cells) ?_ ?_ 0 _ (by omega) ⟨rfl,fun j _ hj=>by omega⟩
 ·rintro i h' hi ⟨rfl,hb⟩ hk
  apply hJ
  rw[AD,if_pos (by simp;omega)]
  have hin:i<rows.length:=by omega
  obtain⟨q,x,hq,g,e⟩:=rd.at hin
  have hx:rows[i].length=x.2.1*32:=by have:=e.1;simpa using this
  refine⟨q,hq,by omega,by omega,_,_,_,by simpa using g,?_⟩
  refine WP AaG (by simp) (by simp) (by simp[DV.ok]) ?_
  show V4 x.1 x.2.1 x.2.2 ⟨b,0,none⟩ _ h'
  unfold V4 aV
  refine⟨_,hs.ld m rfl,?_⟩
  refine⟨_,_,rfl,_,rfl,rfl,?_⟩
  by_cases hn:(rows[i].length:Int)=32*c.cells
  ·rw[if_neg (by simp;omega),A0 (by omega)]
   refine hk _ ⟨rfl,fun j hj hji=>?_⟩
   by_cases e:j=i
   ·subst e;omega
   ·exact hb j hj (by omega)
  ·rw[if_pos (by simp;omega)]
   have:(rows.any fun r=>decide ((r.length:Int)≠32*c.cells))=true:=by rw[List.any_eq_true];exact⟨_,List.getElem_mem hin,by simpa using hn⟩
   rw[this]at k
   simpa using k
 ·rintro h' ⟨rfl,hb⟩
  apply hJ
  rw[AD,if_neg (by simp)]
  have:(rows.any fun r=>decide ((r.length:Int)≠32*c.cells))=false:=by
   rw[List.any_eq_false]
   intro n hn
   obtain⟨j,hj,rfl⟩:=List.mem_iff_getElem.1 hn
   have:=hb j hj (by omega)
   simp;omega
  rw[this]at k
  simpa using k
theorem zE{a b c':Sl}{s:St}(c:Cfg){Q:Option Addr->Int->HP}(hs:Sat h0 A h)(rd:∀h',Sat h0 A h'->RdS h' a b c' s)(ty:s.typed)
  (k1:¬c.may->∀h',Sat h0 A h'->Q none 1 h') (k2:c.may->¬s.lays c->∀h',Sat h0 A h'->Q none 5 h')
  (k3:c.may->s.lays c->∀p h',Sat h0 (AF p (C7 c s)::A) h'->Q (some ⟨p,0,none⟩) 0 h'):
  JC c.cells c.slots c.fuses c.step c.keys c.erases c.area a.1 a.2.1 a.2.2 b.1 b.2.1 b.2.2 c'.1 c'.2.1 c'.2.2 Q h:=by
 unfold JC aU
 try simp only[AI,Nat.zero_add]
 intro n1 _ hn;replace hs:=Sat.new hs hn
 intro n2 _ hn;replace hs:=Sat.new hs hn
 (repeat first | refine⟨_,Sat.ld hs (by repeat constructor) (by rfl),?_⟩ | refine⟨_,_,_,Sat.ld hs (by repeat constructor) (by rfl),?_⟩ | (intro _ _ hn;replace hs:=Sat.new hs hn) | refine⟨Sat.cs hs (by repeat constructor) (by rfl),?_⟩ | (refine⟨Sat.can hs (by repeat constructor) (by simp),?_⟩;intro _ e;replace hs:=Sat.wr hs (by repeat constructor) e;clear e;simp only[put,AO,List.set]at hs))
 refine gH c hs ?_
 intro h1 hs
 unfold Cfg.may?
 by_cases hm:c.may
 case neg=>
  rw[if_neg hm,if_pos (by decide)]
  exact k1 hm _ hs.drop.drop
 rw[if_pos hm,if_neg (by decide)]
 have hnp:=hm.np
 have hnf:=hm.nf
 intro J hJ
 have rd0:=rd _ hs.drop.drop
 have l1:=rd0.pg.len
 have l2:s.erases.length=b.2.1:=by have:=rd0.er.1;simpa using this
 have l3:s.blown.length=c'.2.1:=by have:=rd0.bl.1;simpa using this
 have bad:¬s.lays c->∀h',Sat h0 (blk n2 [a.v,b.v,c'.v]::blk n1 [.int .i64 c.cells,.int .i64 c.slots,.int .i64 c.fuses,.int .i64 c.step,.int .i64 c.keys,.int .i64 c.erases,.int .i64 c.area]::A) h'->J [SV.dv (DV.one (.bool true))] h':=by
  intro nf h' hs
  apply hJ
  rw[if_pos rfl]
  exact k2 hm nf _ hs.drop.drop
 (repeat first | refine⟨_,Sat.ld hs (by repeat constructor) (by rfl),?_⟩ | refine⟨_,_,_,Sat.ld hs (by repeat constructor) (by rfl),?_⟩ | (intro _ _ hn;replace hs:=Sat.new hs hn) | refine⟨Sat.cs hs (by repeat constructor) (by rfl),?_⟩ | (refine⟨Sat.can hs (by repeat constructor) (by simp),?_⟩;intro _ e;replace hs:=Sat.wr hs (by repeat constructor) e;clear e;simp only[put,AO,List.set]at hs))
 refine X6 c hm hs ?_
 intro h2 hs
 refine⟨Sat.cs hs (by repeat constructor) (by rfl),?_⟩
 by_cases e1:(s.pages.length:Int)=c.np
 case neg=>
  rw[if_pos (by simp;omega)]
  exact bad (fun f=>e1 f.fits.pages) _ hs
 rw[if_neg (by simp;omega)]
 (repeat first | refine⟨_,Sat.ld hs (by repeat constructor) (by rfl),?_⟩ | refine⟨_,_,_,Sat.ld hs (by repeat constructor) (by rfl),?_⟩ | (intro _ _ hn;replace hs:=Sat.new hs hn) | refine⟨Sat.cs hs (by repeat constructor) (by rfl),?_⟩ | (refine⟨Sat.can hs (by repeat constructor) (by simp),?_⟩;intro _ e;replace hs:=Sat.wr hs (by repeat constructor) e;clear e;simp only[put,AO,List.set]at hs))
 refine X6 c hm hs ?_
 intro h3 hs
 refine⟨Sat.cs hs (by repeat constructor) (by rfl),?_⟩
 by_cases e2:(s.erases.length:Int)=c.np
 case neg=>
  rw[if_pos (by simp;omega)]
  exact bad (fun f=>e2 f.fits.erases) _ hs
 rw[if_neg (by simp;omega)]
 (repeat first | refine⟨_,Sat.ld hs (by repeat constructor) (by rfl),?_⟩ | refine⟨_,_,_,Sat.ld hs (by repeat constructor) (by rfl),?_⟩ | (intro _ _ hn;replace hs:=Sat.new hs hn) | refine⟨Sat.cs hs (by repeat constructor) (by rfl),?_⟩ | (refine⟨Sat.can hs (by repeat constructor) (by simp),?_⟩;intro _ e;replace hs:=Sat.wr hs (by repeat constructor) e;clear e;simp only[put,AO,List.set]at hs))
 refine qR c hm hs ?_
 intro h4 hs
 refine⟨Sat.cs hs (by repeat constructor) (by rfl),?_⟩
 by_cases e3:(s.blown.length:Int)=c.nf
 case neg=>
  rw[if_pos (by simp;omega)]
  exact bad (fun f=>e3 f.fits.blown) _ hs
 rw[if_neg (by simp;omega)]
 refine⟨_,_,_,Sat.ld hs (by repeat constructor) (by rfl),?_⟩
 refine AeR (i:=1) (c:=c) hs zs1 (rd _ hs.drop.drop).pg (by omega) ?_
 by_cases e4:∀l,l∈s.pages->(l.length:Int)=32*c.cells
 case neg=>
  rw[if_pos (by
   rw[List.any_eq_true]
   have⟨l,h5⟩:=Classical.not_forall.1 e4
   have⟨h6,h7⟩:=Classical.not_imp.1 h5
   exact⟨l,h6,by simpa using h7⟩)]
  exact bad (fun f=>e4 f.fits.cells) _ hs
 rw[if_neg (by
  intro h5
  obtain⟨l,h6,h7⟩:=List.any_eq_true.1 h5
  have:=e4 l h6
  simp at h7;omega)]
 refine⟨_,_,_,Sat.ld hs (by repeat constructor) (by rfl),?_⟩
 refine AeS hs (rd _ hs.drop.drop).er (by omega) ?_
 by_cases e5:∀n,n∈s.erases->0≤n
 case neg=>
  have:(s.erases.any fun n=>decide (n<0))=true:=by
   rw[List.any_eq_true]
   have⟨l,h5⟩:=Classical.not_forall.1 e5
   have⟨h6,h7⟩:=Classical.not_imp.1 h5
   exact⟨l,h6,by simp;omega⟩
  rw[this]
  exact bad (fun f=>e5 f.pos) _ hs
 have:(s.erases.any fun n=>decide (n<0))=false:=by
  rw[List.any_eq_false]
  intro n hn
  have:=e5 n hn
  simp;omega
 rw[this]
 have ly:s.lays c:=⟨⟨e1,e4,e2,e3⟩,e5⟩
 have ok:=jH hm ly ty
 apply hJ
 rw[if_neg (by simp)]
 (repeat first | refine⟨_,Sat.ld hs (by repeat constructor) (by rfl),?_⟩ | refine⟨_,_,_,Sat.ld hs (by repeat constructor) (by rfl),?_⟩ | (intro _ _ hn;replace hs:=Sat.new hs hn) | refine⟨Sat.cs hs (by repeat constructor) (by rfl),?_⟩ | (refine⟨Sat.can hs (by repeat constructor) (by simp),?_⟩;intro _ e;replace hs:=Sat.wr hs (by repeat constructor) e;clear e;simp only[put,AO,List.set]at hs))
 refine AeT (a:=a) (b:=b) (c:=c') (s:=s) hs (fun h' hs'=>rd _ hs'.drop.drop) ok.small ?_
 intro a2 b2 c2 h5 hs
 replace hs:Sat h0 (CQ 32 a2 s.pages::sE b2 1 (AA .i64 s.erases)::sE c2 1 (BU s.blown)::blk n2 [a.v,b.v,c'.v]::blk n1 [.int .i64 c.cells,.int .i64 c.slots,.int .i64 c.fuses,.int .i64 c.step,.int .i64 c.keys,.int .i64 c.erases,.int .i64 c.area]::A) h5:=hs
 (repeat first | refine⟨_,Sat.ld hs (by repeat constructor) (by rfl),?_⟩ | refine⟨_,_,_,Sat.ld hs (by repeat constructor) (by rfl),?_⟩ | (intro _ _ hn;replace hs:=Sat.new hs hn) | refine⟨Sat.cs hs (by repeat constructor) (by rfl),?_⟩ | (refine⟨Sat.can hs (by repeat constructor) (by simp),?_⟩;intro _ e;replace hs:=Sat.wr hs (by repeat constructor) e;clear e;simp only[put,AO,List.set]at hs))
 refine k3 hm ly _ _ ?_
 replace hs:=hs.sl_nil 1 none
 replace hs:=Sat.front hs (e:=slE _ _ _ 1 (BU _)) (by repeat constructor)
 replace hs:=Sat.front hs (e:=slE _ _ _ 1 (AA .i64 _)) (by repeat constructor)
 replace hs:=Sat.front hs (e:=CQ 32 _ _) (by repeat constructor)
 replace hs:=Sat.front hs (e:=blk _ [_,_,_,_,_,_,_,_,_,_,_,_,_,_]) (by repeat constructor)
 simp only[del]at hs
 exact (pN (C:=C7 c s) (a:=a2) (b:=b2) (c:=c2) (m:=(none,0,0)) ok hs).sub (by(repeat (first | exact List.Sublist.refl _ | apply List.Sublist.cons_cons | apply List.Sublist.cons)))
end
end Go.Proofs.YteedolonhdbieaaGreatDoor
end
section
namespace Go.Proofs.YteedolonhdbieaaGreatDoor
open Go Go.Vc
section
variable {h0 h:H} {A:List Ent} {i p:Nat} {C:Cm}
theorem u6(n a b:Int)(Q:Bool->HP)(h:H):OZ n a b Q h=Q (decide (a≤n)&&decide (n≤b)) h:=by
 unfold OZ eQ
 by_cases h1:a≤n <;> simp[h1]
theorem uG(c:Cfg){Q:Int->HP}(hs:Sat h0 A h)(k:∀h',Sat h0 A h'->Q c.may? h'):
  JP c.cells c.slots c.fuses c.step c.keys c.erases c.area Q h:=by
 unfold JP eK
 try simp only[AI,Nat.zero_add]
 intro n1 h' hn;replace hs:=Sat.new hs hn
 replace k:=k h' hs.drop
 have kb:=hs.blkOf .z
 have hc0:=kb.hc
 intro J hJ
 have w3:1≤c.slots/\c.slots≤8->IntKind.i64.wrap (c.slots+3)=c.slots+3:=by
  intro h1;rw[IntKind.wrap_i64];omega
 have fin:∀r:Bool,(r=true↔(1≤c.slots/\c.slots≤8)/\(c.slots+3≤c.cells/\c.cells≤256)/\(1≤c.fuses/\c.fuses≤64)/\(1≤c.step/\c.step≤65536))->J [SV.dv (DV.one (Value.bool r))] h':=by
  intro r hr
  apply hJ
  simp only[hc0,u6,List.getElem?_cons_succ,List.getElem?_cons_zero,Option.some.injEq,Value.int.injEq,true_and,exists_eq_left',Bool.and_eq_true,decide_eq_true_eq]
  have bad:¬c.may->Q 1 h':=fun hm=>by unfold Cfg.may? at k;rwa [if_neg hm]at k
  have good:c.may->Q 0 h':=fun hm=>by unfold Cfg.may? at k;rwa [if_pos hm]at k
  by_cases h4:1≤c.keys/\c.keys≤64
  case neg=>rw[if_neg h4];split <;> exact bad fun m=>h4 m.keys
  rw[if_pos h4]
  by_cases h5:0≤c.erases/\c.erases≤65536
  case neg=>rw[if_neg h5];split <;> exact bad fun m=>h5 m.erases
  rw[if_pos h5]
  cases r with
  | false=>
   have:=mt hr.2 (by simp)
   simp only[Bool.not_false,if_true]
   exact bad fun m=>this ⟨m.slots,m.cells,m.fuses,m.step⟩
  | true=>
   obtain⟨a1,a2,a3,a4⟩:=hr.1 rfl
   rw[if_neg (by simp)]
   by_cases h6:0≤c.area/\c.area≤64
   ·rw[if_neg (by simp;omega)];exact good ⟨a1,a2,a3,a4,h4,h5,h6⟩
   ·rw[if_pos (by simp;omega)];exact bad fun m=>h6 m.area
 simp only[hc0,u6,List.getElem?_cons_succ,List.getElem?_cons_zero,Option.some.injEq,Value.int.injEq,true_and,exists_eq_left',Bool.and_eq_true,decide_eq_true_eq]
 split
 case isFalse h1=>exact fin false (by simp;intro a b;exact absurd ⟨a,b⟩ h1)
 rename_i h1
 rw[w3 h1]
 split
 case isFalse h2=>exact fin false (by simp;intro _ _ a b;exact absurd ⟨a,b⟩ h2)
 rename_i h2
 split
 case isFalse h3=>exact fin false (by simp;intro _ _ _ _ a b;exact absurd ⟨a,b⟩ h3)
 rename_i h3
 refine fin _ ?_
 simp only[Bool.and_eq_true,decide_eq_true_eq]
 exact⟨fun h4=>⟨h1,h2,h3,h4⟩,fun m=>m.2.2.2⟩
theorem AjU{Q:List Int->HP}(hs:Sat h0 A h)(k:∀h',Sat h0 A h'->Q blankCell h'):OU Q h:=by
 unfold OU eC
 try simp only[AI,Nat.zero_add,List.append_nil]
 (intro _ _ hn;replace hs:=Sat.new hs hn)
 (intro _ _ hn;replace hs:=Sat.new hs hn)
 (refine⟨Sat.can hs (by repeat constructor) (by simp),?_⟩;intro _ e;replace hs:=Sat.wra hs (by repeat constructor) e (by simp[*]);clear e;simp only[put]at hs)
 intro J hJ
 refine BS 32 (fun i h=>Sat h0 (blk _ (AA .u8 (B5 (fun _ _=>255) i (AB 32)))::blk _ (AA .u8 (AB 32))::A) h) ?_ ?_ 0 _ (by omega) (by rw[tM];exact hs)
 ·intro j h7 hjl hs hk'
  apply hJ
  rw[AD,if_pos (by simp;omega)]
  simp only[Int.toNat_natCast,Nat.mul_one]
  refine⟨by omega,by omega,hs.can .z (by simp;omega),?_⟩
  intro h8 e8
  replace hs:=hs.wr .z e8
  rw[A0 (by omega)]
  refine hk' _ ?_
  simp only[GK,VO,G1,put]at hs
  rw[XZ (fun _ _=>255) j (AB 32) (by simpa using hjl)]at hs
  exact hs
 ·intro h7 hs
  apply hJ
  rw[AD,if_neg (by simp)]
  rw[tL 32 255 _ (by simp)]at hs
  refine⟨blankCell,by simp[blankCell],hs.row0 .z,?_⟩
  have:(AA .u8 blankCell).length=32:=by simp[blankCell]
  refine⟨hs.can zs1 (by simp),?_⟩
  intro _ e
  replace hs:=Sat.wra hs zs1 e (by simp[blankCell])
  simp only[put]at hs
  refine⟨blankCell,by simp[blankCell],hs.row0 zs1,k _ hs.drop.drop⟩
theorem lM{a b c:Sl}{s:St}{Q:Option Addr->Nat->Nat->Option Addr->Nat->Nat->Option Addr->Nat->Nat->HP}(hs:Sat h0 A h)(rd:∀h',Sat h0 A h'->RdS h' a b c s)(sm:s.small)
  (k:∀(a' b' c':Sl) h',Sat h0 (stL a' b' c' s++A) h'->Q a'.1 a'.2.1 a'.2.2 b'.1 b'.2.1 b'.2.2 c'.1 c'.2.1 c'.2.2 h'):
  HG a.1 a.2.1 a.2.2 b.1 b.2.1 b.2.2 c.1 c.2.1 c.2.2 Q h:=by
 unfold HG eD
 try simp only[AI,Nat.zero_add]
 intro n1 _ hn;replace hs:=Sat.new hs hn
 intro n2 _ hn;replace hs:=Sat.new hs hn
 intro J hJ
 have rd0:=rd _ hs.drop.drop
 have l2:s.erases.length=b.2.1:=by have:=rd0.er.1;simpa using this
 have l3:s.blown.length=c.2.1:=by have:=rd0.bl.1;simpa using this
 have s2:=sm.erases
 have s3:=sm.blown
 have fin:∀q b2 b3 c2 c3 h',Sat h0 (blk q [.slice none 0 0,.slice b2 b.2.1 b3,.slice c2 c.2.1 c3]::sE (b2,b.2.1,b3) 1 (AA .i64 s.erases)::sE (c2,c.2.1,c3) 1 (BU s.blown) ::
   blk n1 [a.v,b.v,c.v]::blk n2 [.slice none 0 0,.slice none 0 0,.slice none 0 0]::A) h'->J [SV.dv (DV.addr ⟨q,0,none⟩)] h':=by
  intro q b2 b3 c2 c3 h' hs
  apply hJ
  intro J2 hJ2
  have hlen:=(rd _ hs.drop.drop.drop.drop.drop).pg.len
  replace hs:=hs.mat_nil 32 none
  refine BS a.2.1 (fun i h=>∃hd:Sl,hd.2.1=i/\Sat h0 (CQ 32 hd (s.pages.take i)::blk q [hd.v,.slice b2 b.2.1 b3,.slice c2 c.2.1 c3]::sE (b2,b.2.1,b3) 1 (AA .i64 s.erases)::sE (c2,c.2.1,c3) 1 (BU s.blown) ::
   blk n1 [a.v,b.v,c.v]::blk n2 [.slice none 0 0,.slice none 0 0,.slice none 0 0]::A) h) ?_ ?_ 0 _ (by omega) ⟨_,rfl,hs⟩
  ·rintro i h1 hi ⟨⟨hp,hl,hc⟩,e,hs⟩ hk
   simp only at e;subst e
   apply hJ2
   refine⟨_,_,_,Sat.ld hs (by repeat constructor) (by rfl),?_⟩
   rw[AD,if_pos (by simp;omega)]
   have hlt:hl<s.pages.length:=by omega
   obtain⟨q',x,e1,e2,e3⟩:=(rd _ hs.drop.drop.drop.drop.drop.drop).pg.at hlt
   refine⟨_,_,_,Sat.ld hs (by repeat constructor) (by rfl),?_⟩
   refine⟨_,_,_,Sat.ld hs (by repeat constructor) (by rfl),?_⟩
   obtain⟨ap,al,ac⟩:=a
   dsimp only at e1
   subst e1
   refine⟨_,rfl,by omega,by omega,?_⟩
   refine⟨_,_,_,e2,?_⟩
   intro n36 h37 hn
   have e2':=AH (IR hn.ext e2 (fun x=>x))
   have e3':=J8 hn.ext e3 (fun _ _ x=>x)
   replace hs:=Sat.new hs hn
   refine⟨e2',?_⟩
   refine⟨Sat.cs hs (by repeat constructor) (by rfl),?_⟩
   refine⟨Sat.cs hs (by repeat constructor) (by rfl),?_⟩
   have hr:=sm.rows _ (List.getElem_mem hlt)
   have hx:=e3.1
   simp only[BV]at hx
   refine⟨_,e3',Sat.app_new hs e3'.1 (by simp) (A9 _ _) (by omega) ?_⟩
   intro p' c' h2 hs
   refine⟨Sat.cs hs (by repeat constructor) (by rfl),?_⟩
   (intro _ _ hn;replace hs:=Sat.new hs hn)
   refine⟨Sat.cs hs (by repeat constructor) (by rfl),?_⟩
   refine⟨_,Sat.bv hs (.z) (by simp) (by simp),?_⟩
   replace hs:=Sat.front (e:=sE (p',x.2.1,c') 32 _) hs zs1
   have hpl:=sm.pages
   refine Sat.app_row hs zs2 (by dsimp only;omega) ?_
   intro p2 c2' h4 hs
   simp only[put,del]at hs
   (refine⟨Sat.can hs (by repeat constructor) (by simp),?_⟩;intro _ e;replace hs:=Sat.wr hs (by repeat constructor) e;clear e;simp only[put,AO,List.set]at hs)
   rw[A0 (by omega)]
   refine hk _ ⟨(p2,hl+1,c2'),rfl,?_⟩
   rw[List.take_succ_eq_append_getElem hlt]
   exact hs.sub (by(repeat (first | exact List.Sublist.refl _ | apply List.Sublist.cons_cons | apply List.Sublist.cons)))
  ·rintro h1 ⟨⟨hp,hl,hc⟩,e,hs⟩
   simp only at e;subst e
   apply hJ2
   refine⟨_,_,_,Sat.ld hs (by repeat constructor) (by rfl),?_⟩
   rw[AD,if_neg (by simp)]
   (repeat first | refine⟨_,Sat.ld hs (by repeat constructor) (by rfl),?_⟩ | refine⟨_,_,_,Sat.ld hs (by repeat constructor) (by rfl),?_⟩ | (intro _ _ hn;replace hs:=Sat.new hs hn) | refine⟨Sat.cs hs (by repeat constructor) (by rfl),?_⟩ | (refine⟨Sat.can hs (by repeat constructor) (by simp),?_⟩;intro _ e;replace hs:=Sat.wr hs (by repeat constructor) e;clear e;simp only[put,AO,List.set]at hs))
   refine k (hp,_,hc) (b2,_,b3) (c2,_,c3) _ ?_
   rw[←hlen,List.take_length]at hs
   replace hs:=Sat.front hs (e:=blk n2 _) (by repeat constructor)
   replace hs:=Sat.front hs (e:=blk n1 _) (by repeat constructor)
   replace hs:=Sat.front hs (e:=blk q _) (by repeat constructor)
   simp only[del]at hs
   have:=hs.drop.drop.drop
   rw[hlen]at this
   exact this
 repeat' (first
  | refine⟨_,Sat.ld hs (by repeat constructor) (by rfl),?_⟩
  | refine⟨_,_,_,Sat.ld hs (by repeat constructor) (by rfl),?_⟩
  | (intro _ _ hn;replace hs:=Sat.new hs hn)
  | refine⟨Sat.cs hs (by repeat constructor) (by rfl),?_⟩
  | (refine⟨Sat.can hs (by repeat constructor) (by simp),?_⟩;intro _ e;replace hs:=Sat.wr hs (by repeat constructor) e;clear e;simp only[put,AO,List.set]at hs)
  | (refine⟨_,(rd _ (hs.sub (by(repeat (first | exact List.Sublist.refl _ | apply List.Sublist.cons_cons | apply List.Sublist.cons))))).er,Sat.app_new hs (by simp;omega) rfl (A9 _ _) (by omega) ?_⟩;intro _ _ _ hs)
  | (refine⟨_,(rd _ (hs.sub (by(repeat (first | exact List.Sublist.refl _ | apply List.Sublist.cons_cons | apply List.Sublist.cons))))).bl,Sat.app_new hs (by simp;omega) rfl (iK _) (by omega) ?_⟩;intro _ _ _ hs)
  | refine And.intro ?_ ?_)
 all_goals
  replace hs:=Sat.front hs (e:=blk n2 _) (by repeat constructor)
  replace hs:=Sat.front hs (e:=blk n1 _) (by repeat constructor)
  replace hs:=Sat.front hs (e:=slE _ _ _ 1 (BU _)) (by repeat constructor)
  replace hs:=Sat.front hs (e:=slE _ _ _ 1 (AA .i64 _)) (by repeat constructor)
  replace hs:=Sat.front hs (e:=blk _ [.slice none 0 0,.slice _ b.2.1 _,.slice _ c.2.1 _]) (by repeat constructor)
  simp only[del]at hs
  exact fin _ _ _ _ _ _ (hs.sub (by(repeat (first | exact List.Sublist.refl _ | apply List.Sublist.cons_cons | apply List.Sublist.cons))))
end
end Go.Proofs.YteedolonhdbieaaGreatDoor
/- Contracts of the document's chip: new ones,laid ones,copies. Own work. -/
namespace Go.Proofs.YteedolonhdbieaaGreatDoor
open Go Go.Vc
section
variable {h0 h:H} {A:List Ent} {i p:Nat} {C:Cm}
theorem wnp{c:Cfg}(m:c.may):IntKind.i64.wrap (2+IntKind.i64.wrap (2*c.area))=c.np:=by
 have:=m.area;unfold Cfg.np;simp only[IntKind.wrap_i64];omega
theorem wnf{c:Cfg}(m:c.may):IntKind.i64.wrap (IntKind.i64.wrap (c.slots*c.fuses)+c.keys)=c.nf:=by
 have h1:=m.slots;have h2:=m.fuses;have h3:=m.keys
 have e1:0≤c.slots*c.fuses:=Int.mul_nonneg (by omega) (by omega)
 have e2:c.slots*c.fuses≤8*64:=Int.mul_le_mul (by omega) (by omega) (by omega) (by omega)
 unfold Cfg.nf;simp only[IntKind.wrap_i64];omega
theorem AgC(c:Cfg)(hm:c.may){Q:Option Addr->Nat->Nat->Option Addr->Nat->Nat->Option Addr->Nat->Nat->HP}(hs:Sat h0 A h)
  (k:∀(a' b' c':Sl) h',Sat h0 (stL a' b' c' (DR c)++A) h'->Q a'.1 a'.2.1 a'.2.2 b'.1 b'.2.1 b'.2.2 c'.1 c'.2.1 c'.2.2 h'):
  OY c.cells c.slots c.fuses c.step c.keys c.erases c.area Q h:=by
 unfold OY eO
 try simp only[AI,Nat.zero_add,List.append_nil]
 intro g _ hn;replace hs:=Sat.new hs hn
 intro n2 _ hn;replace hs:=Sat.new hs hn
 intro J hJ
 have hnp:=hm.np
 have hnf:=hm.nf
 have hmc:=hm.cells
 have hms:=hm.slots
 have fin:∀p a b h',Sat h0 (blk p [.slice none 0 0,.slice (some ⟨a,0,none⟩) c.np.toNat c.np.toNat,.slice (some ⟨b,0,none⟩) c.nf.toNat c.nf.toNat]::blk a (List.replicate c.np.toNat [Value.int .i64 0]).flatten::blk b (List.replicate c.nf.toNat [Value.bool false]).flatten ::
   blk g c.vals::blk n2 [.slice none 0 0,.slice none 0 0,.slice none 0 0]::A) h'->J [SV.dv (DV.addr ⟨p,0,none⟩)] h':=by
  intro p a b h' hs
  apply hJ
  simp only[Cfg.vals]at hs
  intro J2 hJ2
  replace hs:=hs.mat_nil 32 none
  refine BS c.np.toNat (fun i h=>∃hd:Sl,hd.2.1=i/\Sat h0 (CQ 32 hd (List.replicate i (E6 c))::blk p [hd.v,.slice (some ⟨a,0,none⟩) c.np.toNat c.np.toNat,.slice (some ⟨b,0,none⟩) c.nf.toNat c.nf.toNat]::blk a (List.replicate c.np.toNat [Value.int .i64 0]).flatten::blk b (List.replicate c.nf.toNat [Value.bool false]).flatten ::
   blk g c.vals::blk n2 [.slice none 0 0,.slice none 0 0,.slice none 0 0]::A) h) ?_ ?_ 0 _ (by omega) ⟨_,rfl,hs⟩
  ·rintro i h1 hi ⟨⟨hp,hl,hc⟩,e,hs⟩ hk
   simp only at e;subst e
   apply hJ2
   simp only[Cfg.vals]at hs
   refine⟨_,Sat.ld hs (by repeat constructor) (by rfl),?_⟩
   rw[wnp hm,AD,if_pos (by simp;omega)]
   refine⟨_,Sat.ld hs (by repeat constructor) (by rfl),?_⟩
   refine⟨by omega,by omega,by omega,by omega,?_⟩
   intro nr _ hn;replace hs:=Sat.new hs hn
   intro J3 hJ3
   have hrl:∀i,((List.replicate i blankCell).flatten++(List.replicate (c.cells.toNat-i) (AB 32)).flatten).length=i*32+(c.cells.toNat-i)*32:=fun i=>by
    simp[blankCell]
   refine BS c.cells.toNat (fun i h=>Sat h0 (blk nr (AA .u8 ((List.replicate i blankCell).flatten++(List.replicate (c.cells.toNat-i) (AB 32)).flatten))::CQ 32 (hp,hl,hc) (List.replicate hl (E6 c))::blk p [.slice hp hl hc,.slice (some ⟨a,0,none⟩) c.np.toNat c.np.toNat,.slice (some ⟨b,0,none⟩) c.nf.toNat c.nf.toNat]::blk a (List.replicate c.np.toNat [Value.int .i64 0]).flatten::blk b (List.replicate c.nf.toNat [Value.bool false]).flatten ::
    blk g c.vals::blk n2 [.slice none 0 0,.slice none 0 0,.slice none 0 0]::A) h) ?_ ?_ 0 _ (by omega) ?_
   ·intro j h2 hj hs hk2
    apply hJ3
    simp only[Cfg.vals]at hs
    refine⟨_,Sat.ld hs (by repeat constructor) (by rfl),?_⟩
    rw[AD,if_pos (by simp;omega)]
    refine AjU hs ?_
    intro h3 hs
    refine⟨_,rfl,by omega,by omega,?_⟩
    try simp only[AI,Nat.zero_add,Int.toNat_natCast]
    refine⟨hs.can .z (by rw[BV,hrl];omega),?_⟩
    intro h4 e4
    replace hs:=hs.wr .z e4
    rw[A0 (by omega)]
    refine hk2 _ ?_
    have esp:AO (AA .u8 ((List.replicate j blankCell).flatten++(List.replicate (c.cells.toNat-j) (AB 32)).flatten)) (j*32) (AA .u8 blankCell)=AA .u8 ((List.replicate (j+1) blankCell).flatten++(List.replicate (c.cells.toNat-(j+1)) (AB 32)).flatten):=by
     have e1:(List.replicate (c.cells.toNat-j) (AB 32)).flatten=AB 32++(List.replicate (c.cells.toNat-(j+1)) (AB 32)).flatten:=by
      rw[show c.cells.toNat-j=1+(c.cells.toNat-(j+1)) by omega,VH];simp
     have e2:(AA .u8 (List.replicate j blankCell).flatten).length=j*32:=by simp[blankCell]
     rw[e1,XI,XI,←List.append_assoc,←e2,TB _ _ _ _ (by simp[blankCell]),VH j 1]
     simp
    rw[esp]at hs
    exact hs
   ·intro h2 hs
    apply hJ3
    simp only[Cfg.vals]at hs
    refine⟨_,Sat.ld hs (by repeat constructor) (by rfl),?_⟩
    rw[AD,if_neg (by simp;omega)]
    refine⟨_,_,_,Sat.ld hs (by repeat constructor) (by rfl),?_⟩
    intro nh _ hn;replace hs:=Sat.new hs hn
    refine⟨_,Sat.bv hs (.z) (by simp) (by simp),?_⟩
    replace hs:=hs.as_sl (i:=1) (l:=c.cells.toNat) (sz:=32) zs1 (by rw[BV,hrl];omega) (A9 _ _)
    simp only[put]at hs
    replace hs:=Sat.front (e:=sE (some ⟨nr,0,none⟩,c.cells.toNat,c.cells.toNat) 32 _) hs zs1
    refine Sat.app_row hs zs1 (by omega) ?_
    intro p2 c2' h4 hs
    simp only[put,del]at hs
    (refine⟨Sat.can hs (by repeat constructor) (by simp),?_⟩;intro _ e;replace hs:=Sat.wr hs (by repeat constructor) e;clear e;simp only[put,AO,List.set]at hs)
    rw[A0 (by omega)]
    refine hk _ ⟨(p2,hl+1,c2'),rfl,?_⟩
    have e1:(List.replicate c.cells.toNat blankCell).flatten++(List.replicate (c.cells.toNat-c.cells.toNat) (AB 32)).flatten=E6 c:=by simp[E6]
    rw[e1]at hs
    rw[List.replicate_succ']
    exact hs.sub (by(repeat (first | exact List.Sublist.refl _ | apply List.Sublist.cons_cons | apply List.Sublist.cons)))
   ·have e0:(List.replicate c.cells.toNat (AA .u8 (AB 32))).flatten=AA .u8 ((List.replicate 0 blankCell).flatten++(List.replicate (c.cells.toNat-0) (AB 32)).flatten):=by
     simp[AA,List.map_flatten]
    rw[e0]at hs
    exact hs
  ·rintro h1 ⟨⟨hp,hl,hc⟩,e,hs⟩
   simp only at e;subst e
   apply hJ2
   simp only[Cfg.vals]at hs
   refine⟨_,Sat.ld hs (by repeat constructor) (by rfl),?_⟩
   rw[wnp hm,AD,if_neg (by simp;omega)]
   (repeat first | refine⟨_,Sat.ld hs (by repeat constructor) (by rfl),?_⟩ | refine⟨_,_,_,Sat.ld hs (by repeat constructor) (by rfl),?_⟩ | (intro _ _ hn;replace hs:=Sat.new hs hn) | refine⟨Sat.cs hs (by repeat constructor) (by rfl),?_⟩ | (refine⟨Sat.can hs (by repeat constructor) (by simp),?_⟩;intro _ e;replace hs:=Sat.wr hs (by repeat constructor) e;clear e;simp only[put,AO,List.set]at hs))
   refine k (hp,_,hc) (some ⟨a,0,none⟩,_,_) (some ⟨b,0,none⟩,_,_) _ ?_
   have eb:(List.replicate c.nf.toNat [Value.bool false]).flatten=BU (DR c).blown:=by simp[DR,BU]
   have ea:(List.replicate c.np.toNat [Value.int .i64 0]).flatten=AA .i64 (DR c).erases:=by simp[DR,AB,AA]
   rw[ea,eb]at hs
   replace hs:=Sat.front hs (e:=blk p _) (by repeat constructor)
   replace hs:=Sat.front hs (e:=blk g _) (by repeat constructor)
   replace hs:=Sat.front hs (e:=blk n2 _) (by repeat constructor)
   simp only[del]at hs
   replace hs:=hs.drop.drop.drop
   replace hs:=hs.as_sl (i:=1) (l:=c.np.toNat) (sz:=1) zs1 (by simp[DR]) (A9 _ _)
   replace hs:=hs.as_sl (i:=2) (l:=c.nf.toNat) (sz:=1) zs2 (by simp[DR]) (iK _)
   exact hs
 (repeat first | refine⟨_,Sat.ld hs (by repeat constructor) (by rfl),?_⟩ | refine⟨_,_,_,Sat.ld hs (by repeat constructor) (by rfl),?_⟩ | (intro _ _ hn;replace hs:=Sat.new hs hn) | refine⟨Sat.cs hs (by repeat constructor) (by rfl),?_⟩ | (refine⟨Sat.can hs (by repeat constructor) (by simp),?_⟩;intro _ e;replace hs:=Sat.wr hs (by repeat constructor) e;clear e;simp only[put,AO,List.set]at hs))
 simp only[wnp hm,wnf hm]
 repeat' (first
  | refine⟨_,Sat.ld hs (by repeat constructor) (by rfl),?_⟩
  | (intro _ _ hn;replace hs:=Sat.new hs hn)
  | refine⟨Sat.cs hs (by repeat constructor) (by rfl),?_⟩
  | (refine⟨Sat.can hs (by repeat constructor) (by simp),?_⟩;intro _ e;replace hs:=Sat.wr hs (by repeat constructor) e;clear e;simp only[put,AO,List.set]at hs)
  | refine⟨by omega,?_⟩
  | refine And.intro ?_ ?_)
 all_goals
  replace hs:=Sat.front hs (e:=blk n2 _) (by repeat constructor)
  replace hs:=Sat.front hs (e:=blk g _) (by repeat constructor)
  replace hs:=Sat.front hs (e:=blk _ (List.replicate c.nf.toNat [Value.bool false]).flatten) (by repeat constructor)
  replace hs:=Sat.front hs (e:=blk _ (List.replicate c.np.toNat [Value.int .i64 0]).flatten) (by repeat constructor)
  replace hs:=Sat.front hs (e:=blk _ [Value.slice none 0 0,Value.slice (some ⟨_,0,none⟩) _ _,Value.slice (some ⟨_,0,none⟩) _ _]) (by repeat constructor)
  exact fin _ _ _ _ hs
theorem AjW(c:Cfg){Q:Option Addr->Int->HP}(hs:Sat h0 A h)
  (k1:¬c.may->∀h',Sat h0 A h'->Q none 1 h')
  (k2:c.may->∀p h',Sat h0 (AF p (BP c)::A) h'->Q (some ⟨p,0,none⟩) 0 h'):
  OX c.cells c.slots c.fuses c.step c.keys c.erases c.area Q h:=by
 unfold OX eM
 try simp only[AI,Nat.zero_add]
 intro g _ hn;replace hs:=Sat.new hs hn
 (repeat first | refine⟨_,Sat.ld hs (by repeat constructor) (by rfl),?_⟩ | refine⟨_,_,_,Sat.ld hs (by repeat constructor) (by rfl),?_⟩ | (intro _ _ hn;replace hs:=Sat.new hs hn) | refine⟨Sat.cs hs (by repeat constructor) (by rfl),?_⟩ | (refine⟨Sat.can hs (by repeat constructor) (by simp),?_⟩;intro _ e;replace hs:=Sat.wr hs (by repeat constructor) e;clear e;simp only[put,AO,List.set]at hs))
 refine uG c hs ?_
 intro h1 hs
 unfold Cfg.may?
 by_cases hm:c.may
 case neg=>
  rw[if_neg hm,if_pos (by decide)]
  exact k1 hm _ hs.drop
 rw[if_pos hm,if_neg (by decide)]
 (repeat first | refine⟨_,Sat.ld hs (by repeat constructor) (by rfl),?_⟩ | refine⟨_,_,_,Sat.ld hs (by repeat constructor) (by rfl),?_⟩ | (intro _ _ hn;replace hs:=Sat.new hs hn) | refine⟨Sat.cs hs (by repeat constructor) (by rfl),?_⟩ | (refine⟨Sat.can hs (by repeat constructor) (by simp),?_⟩;intro _ e;replace hs:=Sat.wr hs (by repeat constructor) e;clear e;simp only[put,AO,List.set]at hs))
 refine AgC c hm hs ?_
 intro a b c' h2 hs
 replace hs:Sat h0 (CQ 32 a (DR c).pages::sE b 1 (AA .i64 (DR c).erases)::sE c' 1 (BU (DR c).blown)::blk g c.vals::A) h2:=hs
 simp only[Cfg.vals]at hs
 (repeat first | refine⟨_,Sat.ld hs (by repeat constructor) (by rfl),?_⟩ | refine⟨_,_,_,Sat.ld hs (by repeat constructor) (by rfl),?_⟩ | (intro _ _ hn;replace hs:=Sat.new hs hn) | refine⟨Sat.cs hs (by repeat constructor) (by rfl),?_⟩ | (refine⟨Sat.can hs (by repeat constructor) (by simp),?_⟩;intro _ e;replace hs:=Sat.wr hs (by repeat constructor) e;clear e;simp only[put,AO,List.set]at hs))
 refine k2 hm _ _ ?_
 replace hs:=hs.sl_nil 1 none
 replace hs:=Sat.front hs (e:=slE _ _ _ 1 (BU _)) (by repeat constructor)
 replace hs:=Sat.front hs (e:=slE _ _ _ 1 (AA .i64 _)) (by repeat constructor)
 replace hs:=Sat.front hs (e:=CQ 32 _ _) (by repeat constructor)
 replace hs:=Sat.front hs (e:=blk _ [_,_,_,_,_,_,_,_,_,_,_,_,_,_]) (by repeat constructor)
 simp only[del]at hs
 exact (pN (C:=BP c) (a:=a) (b:=b) (c:=c') (m:=(none,0,0)) (UP hm) hs).sub (by(repeat (first | exact List.Sublist.refl _ | apply List.Sublist.cons_cons | apply List.Sublist.cons)))
end
end Go.Proofs.YteedolonhdbieaaGreatDoor
/- Contracts of the document's chip: its methods. Own work. -/
namespace Go.Proofs.YteedolonhdbieaaGreatDoor
open Go Go.Vc
structure RefW (C:Cm) (w:Pl×List Int):Prop where
 ok:C.ok
 b:AW w.2
 l:w.2.length≤2^47
 m:0≤C.left->w.2=C.mask
abbrev MX(p:Nat)(C:Cm)(w:Pl×List Int):List Ent:=[blk p (C.cells w.1.a w.1.b w.1.c w.1.m),CQ 32 w.1.a C.s.pages,sE w.1.b 1 (AA .i64 C.s.erases),sE w.1.c 1 (BU C.s.blown),sE w.1.m 1 (AA .u8 w.2)]
def CT(p:Nat)(C:Cm):Ent:=exE 4 (RefW C) (MX p C)
section
variable {h0 h:H} {A:List Ent} {i p:Nat} {C:Cm}
theorem uQ{a b c m:Sl}{ms:List Int}(ok:C.ok)(mb:AW ms)(ml:ms.length≤2^47)(me:0≤C.left->ms=C.mask)
  (hs:Sat h0 (blk p (C.cells a b c m)::CQ 32 a C.s.pages::sE b 1 (AA .i64 C.s.erases)::sE c 1 (BU C.s.blown)::sE m 1 (AA .u8 ms)::A) h):Sat h0 (CT p C::A) h:=
 Sat.close (⟨a,b,c,m⟩,ms) ⟨ok,mb,ml,me⟩ hs
theorem AeN(hs:Sat h0 A h)(ci:At A i (AF p C)):Sat h0 (put A i (CT p C)) h:=by
 obtain⟨w,ok,hs⟩:=(hs.front ci).open_;dsimp only[DZ,List.cons_append,List.nil_append,Cm.cells]at hs
 exact Sat.back ci (uQ (a:=w.a) (b:=w.b) (c:=w.c) (m:=w.m) ok ok.mask ok.mlen (fun _=>rfl) hs)
end
end Go.Proofs.YteedolonhdbieaaGreatDoor
end
section
namespace Go.Proofs.YteedolonhdbieaaGreatDoor
open Go Go.Vc
section
variable {h0 h:H} {A:List Ent} {i p:Nat} {C:Cm}
theorem Ak0{h:H}{a:Sl}{rows:List (List Int)}(r:RdM h 32 a rows){j:Nat}(hj:j<rows.length):
  ∃q x,a.1=some q/\hc h (q.add (j*1))=some (Sl.v x)/\rows[j].length=x.2.1*32:=by
 obtain⟨q,x,h1,h2,h3⟩:=r.at hj
 exact⟨q,x,h1,h2,by have:=h3.1;simpa using this⟩
end
end Go.Proofs.YteedolonhdbieaaGreatDoor
/- Contracts of the document's chip: Copy,Lay. Own work. -/
namespace Go.Proofs.YteedolonhdbieaaGreatDoor
open Go Go.Vc
section
variable {h0 h:H} {A:List Ent} {i p:Nat} {C:Cm}
theorem zA{a b c':Sl}{s:St}(c:Cfg)(hm:c.may){Q:Bool->HP}(hs:Sat h0 A h)(rd:∀h',Sat h0 A h'->RdS h' a b c' s)
  (k1:¬s.lays c->∀h',Sat h0 A h'->Q false h') (k2:s.lays c->∀h',Sat h0 A h'->Q true h'):
  OV c.cells c.slots c.fuses c.step c.keys c.erases c.area a.1 a.2.1 a.2.2 b.1 b.2.1 b.2.2 c'.1 c'.2.1 c'.2.2 Q h:=by
 unfold OV eI
 try simp only[AI,Nat.zero_add]
 intro n1 _ hn;replace hs:=Sat.new hs hn
 intro n2 h2 hn;replace hs:=Sat.new hs hn
 refine⟨_,Sat.ld hs (by repeat constructor) (by rfl),?_⟩
 simp only[wnp hm,wnf hm]
 have hnp:=hm.np
 have hnf:=hm.nf
 have hcl:=hm.cells
 intro J25 hJ25
 have r1:=rd _ hs.drop.drop
 have l1:=r1.pg.len
 have l2:s.erases.length=b.2.1:=by have:=r1.er.1;simpa using this
 have l3:s.blown.length=c'.2.1:=by have:=r1.bl.1;simpa using this
 have bad:¬s.lays c->Q false h2:=fun nf=>k1 nf _ hs.drop.drop
 refine⟨_,_,_,Sat.ld hs (by repeat constructor) (by rfl),?_⟩
 by_cases e1:(s.pages.length:Int)=c.np
 case neg=>rw[if_pos (by simp;omega)];exact bad (fun f=>e1 f.fits.pages)
 rw[if_neg (by simp;omega)]
 refine⟨_,_,_,Sat.ld hs (by repeat constructor) (by rfl),?_⟩
 by_cases e2:(s.erases.length:Int)=c.np
 case neg=>rw[if_pos (by simp;omega)];exact bad (fun f=>e2 f.fits.erases)
 rw[if_neg (by simp;omega)]
 refine⟨_,_,_,Sat.ld hs (by repeat constructor) (by rfl),?_⟩
 refine⟨_,Sat.ld hs (by repeat constructor) (by rfl),?_⟩
 refine⟨_,Sat.ld hs (by repeat constructor) (by rfl),?_⟩
 refine⟨_,Sat.ld hs (by repeat constructor) (by rfl),?_⟩
 by_cases e3:(s.blown.length:Int)=c.nf
 case neg=>rw[wnf hm,if_pos (by simp;omega)];exact bad (fun f=>e3 f.fits.blown)
 rw[wnf hm,if_neg (by simp;omega)]
 apply hJ25
 intro J27 hJ27
 refine BS c.np.toNat (fun i h'=>h'=h2/\∀j (hj:j<s.pages.length) (hj2:j<s.erases.length),j<i->(s.pages[j].length:Int)=32*c.cells/\0≤s.erases[j]) ?_ ?_ 0 _ (by omega) ⟨rfl,fun j _ _ hj=>by omega⟩
 ·rintro j h' hj ⟨rfl,hinv⟩ hk
  apply hJ27
  rw[AD,if_pos (by simp;omega)]
  have hj1:j<s.pages.length:=by omega
  have hj2:j<s.erases.length:=by omega
  obtain⟨q1,x1,f1,f2,f3⟩:=Ak0 r1.pg hj1
  obtain⟨q2,g1,g2⟩:=MJ r1.er (i:=j) (v:=.int .i64 s.erases[j]) (by rw[BR,List.getElem?_eq_getElem hj2];rfl)
  refine⟨_,_,_,Sat.ld hs (by repeat constructor) (by rfl),?_⟩
  refine⟨_,f1,by omega,by omega,_,_,_,f2,?_⟩
  refine⟨_,Sat.ld hs (by repeat constructor) (by rfl),?_⟩
  by_cases e4:(s.pages[j].length:Int)=32*c.cells
  case neg=>rw[if_pos (by simp;omega)];exact bad (fun f=>e4 (f.fits.cells _ (List.getElem_mem hj1)))
  rw[if_neg (by simp;omega)]
  refine⟨_,_,_,Sat.ld hs (by repeat constructor) (by rfl),?_⟩
  refine⟨_,g1,by omega,by omega,_,by simpa using g2,?_⟩
  rw[AD]
  by_cases e5:s.erases[j]<0
  ·rw[if_pos (by simpa using e5)];exact bad (fun f=>by have:=f.pos _ (List.getElem_mem hj2);omega)
  ·rw[if_neg (by simpa using e5),A0 (by omega)]
   refine hk _ ⟨rfl,fun m hm1 hm2 hmj=>?_⟩
   by_cases e:m=j
   ·subst e;exact⟨e4,by omega⟩
   ·exact hinv m hm1 hm2 (by omega)
 ·rintro h' ⟨rfl,hinv⟩
  apply hJ27
  rw[AD,if_neg (by simp;omega)]
  refine k2 ⟨⟨e1,?_,e2,e3⟩,?_⟩ _ hs.drop.drop
  ·intro l hl
   obtain⟨j,hj,rfl⟩:=List.mem_iff_getElem.1 hl
   exact (hinv j hj (by omega) (by omega)).1
  ·intro n hn
   obtain⟨j,hj,rfl⟩:=List.mem_iff_getElem.1 hn
   exact (hinv j (by omega) hj (by omega)).2
theorem AjV{a b c':Sl}{s:St}(c:Cfg){Q:Option Addr->Int->HP}(hs:Sat h0 A h)(rd:∀h',Sat h0 A h'->RdS h' a b c' s)(ty:s.typed)
  (k1:¬c.may->∀h',Sat h0 A h'->Q none 1 h') (k2:c.may->¬s.lays c->∀h',Sat h0 A h'->Q none 5 h')
  (k3:c.may->s.lays c->∀p h',Sat h0 (CT p (C7 c s)::A) h'->Q (some ⟨p,0,none⟩) 0 h'):
  OW c.cells c.slots c.fuses c.step c.keys c.erases c.area a.1 a.2.1 a.2.2 b.1 b.2.1 b.2.2 c'.1 c'.2.1 c'.2.2 Q h:=by
 unfold OW eJ
 try simp only[AI,Nat.zero_add]
 intro n1 _ hn;replace hs:=Sat.new hs hn
 intro n2 _ hn;replace hs:=Sat.new hs hn
 (repeat first | refine⟨_,Sat.ld hs (by repeat constructor) (by rfl),?_⟩ | refine⟨_,_,_,Sat.ld hs (by repeat constructor) (by rfl),?_⟩ | (intro _ _ hn;replace hs:=Sat.new hs hn) | refine⟨Sat.cs hs (by repeat constructor) (by rfl),?_⟩ | (refine⟨Sat.can hs (by repeat constructor) (by simp),?_⟩;intro _ e;replace hs:=Sat.wr hs (by repeat constructor) e;clear e;simp only[put,AO,List.set]at hs))
 refine uG c hs ?_
 intro h1 hs
 unfold Cfg.may?
 by_cases hm:c.may
 case neg=>
  rw[if_neg hm,if_pos (by decide)]
  exact k1 hm _ hs.drop.drop
 rw[if_pos hm,if_neg (by decide)]
 (repeat first | refine⟨_,Sat.ld hs (by repeat constructor) (by rfl),?_⟩ | refine⟨_,_,_,Sat.ld hs (by repeat constructor) (by rfl),?_⟩ | (intro _ _ hn;replace hs:=Sat.new hs hn) | refine⟨Sat.cs hs (by repeat constructor) (by rfl),?_⟩ | (refine⟨Sat.can hs (by repeat constructor) (by simp),?_⟩;intro _ e;replace hs:=Sat.wr hs (by repeat constructor) e;clear e;simp only[put,AO,List.set]at hs))
 refine zA (a:=a) (b:=b) (c':=c') c hm hs (fun h' hs'=>rd _ hs'.drop.drop) ?_ ?_
 ·intro nf h2 hs
  rw[if_pos (by decide)]
  exact k2 hm nf _ hs.drop.drop
 intro ly h2 hs
 rw[if_neg (by decide)]
 have ok:=jH hm ly ty
 (repeat first | refine⟨_,Sat.ld hs (by repeat constructor) (by rfl),?_⟩ | refine⟨_,_,_,Sat.ld hs (by repeat constructor) (by rfl),?_⟩ | (intro _ _ hn;replace hs:=Sat.new hs hn) | refine⟨Sat.cs hs (by repeat constructor) (by rfl),?_⟩ | (refine⟨Sat.can hs (by repeat constructor) (by simp),?_⟩;intro _ e;replace hs:=Sat.wr hs (by repeat constructor) e;clear e;simp only[put,AO,List.set]at hs))
 refine lM (a:=a) (b:=b) (c:=c') (s:=s) hs (fun h' hs'=>rd _ hs'.drop.drop) ok.small ?_
 intro a2 b2 c2 h5 hs
 replace hs:Sat h0 (CQ 32 a2 s.pages::sE b2 1 (AA .i64 s.erases)::sE c2 1 (BU s.blown)::blk n2 [a.v,b.v,c'.v]::blk n1 [.int .i64 c.cells,.int .i64 c.slots,.int .i64 c.fuses,.int .i64 c.step,.int .i64 c.keys,.int .i64 c.erases,.int .i64 c.area]::A) h5:=hs
 (repeat first | refine⟨_,Sat.ld hs (by repeat constructor) (by rfl),?_⟩ | refine⟨_,_,_,Sat.ld hs (by repeat constructor) (by rfl),?_⟩ | (intro _ _ hn;replace hs:=Sat.new hs hn) | refine⟨Sat.cs hs (by repeat constructor) (by rfl),?_⟩ | (refine⟨Sat.can hs (by repeat constructor) (by simp),?_⟩;intro _ e;replace hs:=Sat.wr hs (by repeat constructor) e;clear e;simp only[put,AO,List.set]at hs))
 refine k3 hm ly _ _ ?_
 replace hs:=hs.sl_nil 1 none
 replace hs:=Sat.front hs (e:=slE _ _ _ 1 (BU _)) (by repeat constructor)
 replace hs:=Sat.front hs (e:=slE _ _ _ 1 (AA .i64 _)) (by repeat constructor)
 replace hs:=Sat.front hs (e:=CQ 32 _ _) (by repeat constructor)
 replace hs:=Sat.front hs (e:=blk _ [_,_,_,_,_,_,_,_,_,_,_,_,_,_]) (by repeat constructor)
 simp only[del]at hs
 exact (uQ (C:=C7 c s) (a:=a2) (b:=b2) (c:=c2) (m:=(none,0,0)) (ms:=[]) ok (by intro n hn;simp at hn) (by simp) (fun _=>rfl) hs).sub (by(repeat (first | exact List.Sublist.refl _ | apply List.Sublist.cons_cons | apply List.Sublist.cons)))
end
end Go.Proofs.YteedolonhdbieaaGreatDoor
end
section
namespace Go.Proofs.YteedolonhdbieaaGreatDoor
open Go Go.Vc
section
variable {h0 h:H} {A:List Ent} {i p:Nat} {C:Cm}
end
end Go.Proofs.YteedolonhdbieaaGreatDoor
/- Contracts of the chip's statements: pairs of chips. Own work. -/
set_option maxRecDepth 100000
namespace Go.Proofs.YteedolonhdbieaaGreatDoor
open Go Go.Vc
section
variable {h0 h:H} {A:List Ent} {i j p r:Nat} {C:Cm}
theorem CW(hs:Sat h0 A h)(ci:At A i (AF p C)):C.ok:=by
 obtain⟨w,ok,_⟩:=(hs.front ci).open_
 exact ok
end
end Go.Proofs.YteedolonhdbieaaGreatDoor
end
section
namespace Go.Proofs.YteedolonhdbieaaGreatDoor
open Go Go.Vc
set_option maxRecDepth 100000
structure Stp where
 kind:Int
 a:Int
 b:Int
 x:List Int
 mask:List Int
structure Stp.ok (s:Stp):Prop where
 a:-(2^63)≤s.a/\s.a<2^63
 x:s.x.length=32
 mb:AW s.mask
 ml:s.mask.length+4096≤2^47
section
variable {h0 h:H} {A:List Ent} {i j p r:Nat} {C:Cm}
end
end Go.Proofs.YteedolonhdbieaaGreatDoor
/- Contracts of the chip's statements: games;calls whose answers are fixed. Own work. -/
set_option maxRecDepth 100000
namespace Go.Proofs.YteedolonhdbieaaGreatDoor
open Go Go.Vc
section
variable {h0 h:H} {A:List Ent} {i j p r:Nat} {C:Cm}
structure ScriptRd (h:H) (p:Option Addr) (l:Nat) (sc:List Stp):Prop where
 len:sc.length=l
 small:l<2^62
 el:∀i (hi:i<sc.length),∃(q:Addr) (mp:Option Addr) (ml mc:Nat),p=some q/\hc h (q.add (i*36))=some (.int .i64 sc[i].kind)/\hc h ((q.add (i*36)).add 1)=some (.int .i64 sc[i].a)/\
  hc h ((q.add (i*36)).add 2)=some (.int .i64 sc[i].b)/\hrow h ((q.add (i*36)).add 3) .u8 sc[i].x/\hc h ((q.add (i*36)).add 35)=some (.slice mp ml mc)/\hsv h mp 1 ml (AA .u8 sc[i].mask)/\sc[i].ok
end
end Go.Proofs.YteedolonhdbieaaGreatDoor
/- Contracts of the chip's statements: ChipLays. Own work. -/
set_option maxRecDepth 100000
namespace Go.Proofs.YteedolonhdbieaaGreatDoor
open Go Go.Vc
section
variable {h0 h:H} {A:List Ent} {i j p r:Nat} {C:Cm}
end
end Go.Proofs.YteedolonhdbieaaGreatDoor
end
section
namespace Go.Proofs.YteedolonhdbieaaGreatDoor
open Go Go.Vc
set_option maxRecDepth 100000
theorem MP{J:List SV->HP}{σ:Type}(N:Nat)(S:Nat->σ->List SV)(Inv:Nat->σ->HP)(step:∀i s h,i<N->Inv i s h->(∀s' h',Inv (i+1) s' h'->J (S (i+1) s') h')->J (S i s) h)
  (exit:∀s h,Inv N s h->J (S N s) h) (i:Nat) (s:σ) (h:H) (hi:i≤N) (inv:Inv i s h):J (S i s) h:=by
 generalize e:N-i=n
 induction n generalizing i s h with
 | zero=>
  have:i=N:=by omega
  subst this;exact exit s h inv
 | succ n ih=>exact step i s h (by omega) inv fun s' h' inv'=>ih (i+1) s' h' (by omega) inv' (by omega)
def cnt(bl:List Bool)(a:Nat):Nat->Nat
 | 0=>0
 | n+1=>cnt bl a n+(if bl.getD (a+n) false=true then 1 else 0)
def lst(bl:List Bool)(a:Nat):Nat->Option Nat
 | 0=>none
 | n+1=>match lst bl a n with | some k=>some k | none=>if bl.getD (a+n) false=true then none else some (a+n)
def KH:Option Nat->Int
 | none=>-1
 | some k=>k
theorem pO(bl:List Bool)(a n:Nat):cnt bl a n≤n:=by
 induction n with
 | zero=>exact Nat.le_refl _
 | succ n ih=>unfold cnt;split <;> omega
theorem tH{bl:List Bool}{a n:Nat}(h:lst bl a n=none):cnt bl a n=n:=by
 induction n with
 | zero=>rfl
 | succ n ih=>
  unfold lst at h
  cases e:lst bl a n with
  | some k=>rw[e]at h;simp at h
  | none=>
   rw[e]at h
   dsimp only at h
   unfold cnt
   split at h
   ·rename_i h1;rw[if_pos h1,ih e]
   ·simp at h
theorem tI{bl:List Bool}{a n k:Nat}(h:lst bl a n=some k):a≤k/\k<a+n/\bl.getD k false=false:=by
 induction n with
 | zero=>simp[lst]at h
 | succ n ih=>
  unfold lst at h
  cases e:lst bl a n with
  | some k'=>
   rw[e]at h
   dsimp only at h
   rw[h]at e
   obtain⟨h1,h2,h3⟩:=ih e
   exact⟨h1,by omega,h3⟩
  | none=>
   rw[e]at h
   dsimp only at h
   split at h
   ·simp at h
   ·rename_i h1
    injection h with h;subst h
    exact⟨by omega,by omega,by simpa using h1⟩
theorem pP{bl:List Bool}{a k:Nat}(n:Nat)(hk:k<bl.length)(hf:bl.getD k false=false):cnt (bl.set k true) a n=cnt bl a n+(if a≤k/\k<a+n then 1 else 0):=by
 induction n with
 | zero=>rw[if_neg (by omega)];rfl
 | succ n ih=>
  unfold cnt
  rw[ih]
  by_cases e:a+n=k
  ·subst e
   have:(bl.set (a+n) true).getD (a+n) false=true:=by simp[List.getD,hk]
   rw[this,hf,if_neg (by omega),if_pos rfl,if_neg (by simp),if_pos (by omega)]
  ·have:(bl.set k true).getD (a+n) false=bl.getD (a+n) false:=by simp only[List.getD,List.getElem?_set_ne (Ne.symm e)]
   rw[this]
   by_cases h1:a≤k/\k<a+n
   ·rw[if_pos h1,if_pos (show a≤k/\k<a+(n+1) by omega)];omega
   ·rw[if_neg h1,if_neg (show ¬(a≤k/\k<a+(n+1)) by omega)];omega
def D0(C:Cm)(slot:Int):Int×Int:=
 if AT C slot C.cfg.slots≠0 then (0,AT C slot C.cfg.slots) else (cnt C.s.blown (slot*C.cfg.fuses).toNat C.cfg.fuses.toNat,0)
def D8(a f:Nat)(n:Int):Nat->Cm->Cm×Int
 | 0,C=>(C,0)
 | m+1,C=>if n≤cnt C.s.blown a f then (C,0) else
  match lst C.s.blown a f with
  | none=>(C,0)
  | some k=>if (B9 C k).2≠0 then B9 C k else D8 a f n m (B9 C k).1
def QA(C:Cm)(slot n:Int):Cm×Int:=
 if AT C slot C.cfg.slots≠0 then (C,AT C slot C.cfg.slots) else if n<0 then (C,2) else if C.cfg.fuses<n then (C,2)
 else D8 (slot*C.cfg.fuses).toNat C.cfg.fuses.toNat n C.cfg.fuses.toNat C
def CJ(C:Cm)(key:Int):Bool×Int:=
 if AT C key C.cfg.keys≠0 then (false,AT C key C.cfg.keys) else (C.s.blown.getD (C.cfg.slots*C.cfg.fuses+key).toNat false,0)
def FA(C:Cm)(key:Int):Cm×Int:=
 if (CJ C key).2≠0 then (C,(CJ C key).2) else if (CJ C key).1=true then (C,(CJ C key).2) else B9 C (C.cfg.slots*C.cfg.fuses+key)
theorem DB{C:Cm}{i n:Int}(ho:C.out=false)(h1:0≤i)(h2:i<n):AT C i n=0:=by
 unfold AT;rw[if_neg (by simp[ho]),if_neg (by omega),if_neg (by omega)]
theorem UE{C:Cm}{k:Nat}(ho:C.out=false)(hk:k<C.s.blown.length)(hl:C.left≠0):
  B9 C k=({ C.act with s:={ C.s with blown:=C.s.blown.set k true } },0):=by
 unfold B9
 rw[if_neg (by rw[DB ho (by omega) (by omega)];simp),Int.toNat_natCast]
 unfold BT CL
 rw[if_pos hl,if_pos hl,if_pos (by decide)]
theorem UD{C:Cm}{k:Nat}(ho:C.out=false)(hk:k<C.s.blown.length)(hl:C.left=0):
  (B9 C k).2=8/\(B9 C k).1.cfg=C.cfg/\((B9 C k).1.s.blown=C.s.blown∨(B9 C k).1.s.blown=C.s.blown.set k true):=by
 unfold B9
 rw[if_neg (by rw[DB ho (by omega) (by omega)];simp),Int.toNat_natCast]
 have e8:CL C=8:=by unfold CL;rw[if_neg (by simpa using hl)]
 refine⟨e8,?_,?_⟩
 all_goals dsimp only
 ·split
  ·exact DA C
  ·exact DA C
 ·split
  ·exact Or.inr rfl
  ·exact Or.inl (by rw[B3])
theorem JX{C:Cm}(ho:C.out=false)(hl:C.left≠0):C.act.out=false:=by
 unfold Cm.act;rw[if_pos hl];exact ho
theorem kD{C:Cm}(ok:C.ok){slot:Int}(h1:0≤slot)(h2:slot<C.cfg.slots):((slot*C.cfg.fuses).toNat:Int)=slot*C.cfg.fuses/\(C.cfg.fuses.toNat:Int)=C.cfg.fuses/\(slot*C.cfg.fuses).toNat+C.cfg.fuses.toNat≤C.s.blown.length/\
  C.s.blown.length≤576/\(slot*C.cfg.fuses).toNat+C.cfg.fuses.toNat≤(C.cfg.slots*C.cfg.fuses).toNat/\C.cfg.fuses.toNat≤64:=by
 have hb:=ok.fits.blown
 have hf:=ok.may.fuses
 have hn:=ok.may.nf
 have hk:=ok.may.keys
 unfold Cfg.nf at hb hn
 have e1:0≤slot*C.cfg.fuses:=Int.mul_nonneg h1 (by omega)
 have e2:(slot+1)*C.cfg.fuses≤C.cfg.slots*C.cfg.fuses:=Int.mul_le_mul_of_nonneg_right (by omega) (by omega)
 rw[Int.add_mul]at e2
 omega
structure Raised (a f:Nat) (n:Int) (C D:Cm) (e:Int):Prop where
 cfg:D.cfg=C.cfg
 len:D.s.blown.length=C.s.blown.length
 same:∀k,k<a∨a+f≤k->D.s.blown.getD k false=C.s.blown.getD k false
 up:∀k,C.s.blown.getD k false=true->D.s.blown.getD k false=true
 ge:cnt C.s.blown a f≤cnt D.s.blown a f
 le:(cnt D.s.blown a f:Int)≤max n (cnt C.s.blown a f)
 good:e=0->(cnt D.s.blown a f:Int)=max n (cnt C.s.blown a f)
 on:e=0->D.out=false
 bad:e≠0->e=8/\0≤C.left/\C.left<n-cnt C.s.blown a f
theorem vB{bl:List Bool}{k j:Nat}(h:bl.getD j false=true):(bl.set k true).getD j false=true:=by
 by_cases e:k=j
 ·subst e
  have hk:k<bl.length:=by
   by_cases hk:k<bl.length
   ·exact hk
   ·rw[List.getD_eq_getElem?_getD,List.getElem?_eq_none (by omega)]at h;simp at h
  simp[List.getD,hk]
 ·simp only[List.getD,List.getElem?_set_ne e]at h ⊢;exact h
theorem AjZ(a f:Nat)(n:Int)(hn:n≤f):∀(m:Nat) (C:Cm),C.out=false->-1≤C.left->a+f≤C.s.blown.length->n-cnt C.s.blown a f≤m->Raised a f n C (D8 a f n m C).1 (D8 a f n m C).2:=by
 intro m
 induction m with
 | zero=>
  intro C ho hl1 hl hm
  unfold D8
  exact⟨rfl,rfl,fun _ _=>rfl,fun _ x=>x,by simp,by simp;omega,fun _=>by simp;omega,fun _=>ho,fun x=>absurd rfl x⟩
 | succ m ih=>
  intro C ho hl1 hl hm
  unfold D8
  by_cases h1:n≤cnt C.s.blown a f
  ·rw[if_pos h1]
   exact⟨rfl,rfl,fun _ _=>rfl,fun _ x=>x,by simp,by simp;omega,fun _=>by simp;omega,fun _=>ho,fun x=>absurd rfl x⟩
  ·rw[if_neg h1]
   cases e:lst C.s.blown a f with
   | none=>
    have:=tH e
    omega
   | some k=>
    dsimp only
    obtain⟨k1,k2,k3⟩:=tI e
    have hc:=pP (a:=a) f (show k<C.s.blown.length by omega) k3
    rw[if_pos ⟨k1,k2⟩]at hc
    have far:∀j,j<a∨a+f≤j->(C.s.blown.set k true).getD j false=C.s.blown.getD j false:=by
     intro j hj
     simp only[List.getD,List.getElem?_set_ne (show k≠j by omega)]
    by_cases h2:C.left=0
    ·obtain⟨b1,b2,b3⟩:=UD ho (show k<C.s.blown.length by omega) h2
     rw[if_pos (by rw[b1];simp)]
     rcases b3 with b3 | b3
     ·exact⟨b2,by rw[b3],fun j _=>by rw[b3],fun j x=>by rw[b3];exact x,by rw[b3];omega,by rw[b3];omega,fun x=>by rw[b1]at x;simp at x,fun x=>by rw[b1]at x;simp at x,fun _=>⟨b1,by omega,by omega⟩⟩
     ·exact⟨b2,by rw[b3,List.length_set],fun j x=>by rw[b3];exact far j x,fun j x=>by rw[b3];exact vB x,by rw[b3,hc];omega,by rw[b3,hc];omega,fun x=>by rw[b1]at x;simp at x,fun x=>by rw[b1]at x;simp at x,fun _=>⟨b1,by omega,by omega⟩⟩
    ·rw[UE ho (by omega) h2,if_neg (by simp)]
     have hact:-1≤C.act.left:=by unfold Cm.act;rw[if_pos h2];dsimp only;split <;> omega
     have r:=ih { C.act with s:={ C.s with blown:=C.s.blown.set k true } } (JX ho h2) hact (by simpa using hl) (by dsimp only;rw[hc];omega)
     dsimp only
     obtain⟨X,hX⟩:∃X,X=D8 a f n m { C.act with s:={ C.s with blown:=C.s.blown.set k true } }:=⟨_,rfl⟩
     rw[←hX]at r ⊢
     have hl3:0≤C.act.left->0≤C.left/\C.act.left=C.left-1:=by
      unfold Cm.act;rw[if_pos h2];dsimp only;intro x;split at x
      ·rename_i h3;rw[if_pos h3];omega
      ·omega
     have r4:=r.ge;have r5:=r.le;have r6:=r.good;have r7:=r.bad
     dsimp only at r4 r5 r6 r7
     rw[hc]at r4 r5 r6 r7
     refine⟨r.cfg.trans (DA C),by have:=r.len;simpa using this,fun j x=>(r.same j x).trans (far j x),fun j x=>r.up j (vB x),by omega,by omega,fun x=>by have:=r6 x;omega,r.on,fun x=>?_⟩
     obtain⟨x1,x2,x3⟩:=r7 x
     obtain⟨x4,x5⟩:=hl3 x2
     exact⟨x1,x4,by omega⟩
end Go.Proofs.YteedolonhdbieaaGreatDoor
/- Contracts of the fuses' package. Own work. -/
set_option maxRecDepth 100000
namespace Go.Proofs.YteedolonhdbieaaGreatDoor
open Go Go.Vc
section
variable {h0 h:H} {A:List Ent} {i j p r:Nat} {C:Cm}
theorem iT{Q:Int->HP}(hs:Sat h0 A h)(ci:At A i (AF p C))(n j:Int)(k:Q (AT C j n) h):HE ⟨p,0,none⟩ j n Q h:=by
 unfold HE bQ
 refine PH hs ci ?_
 unfold AT at k
 simp only[AD,BQ,decide_eq_true_eq]
 split
 ·simpa[*]using k
 ·split
  ·simpa[*]using k
  ·split <;> simpa[*]using k
abbrev YH(bl:List Bool)(a:Nat)(n:Nat):List SV:=[.dv (.one (.int .i64 (cnt bl a n:Int))),.dv (.one (.int .i64 (KH (lst bl a n)))),.dv (.one (.int .i64 (n:Int)))]
theorem AiF(bl:List Bool)(a n:Nat):lst bl a (n+1)=match lst bl a n with | some k=>some k | none=>if bl.getD (a+n) false=true then none else some (a+n):=rfl
theorem iV{Q:Int->Int->Int->HP}(hs:Sat h0 A h)(ci:At A i (AF p C))(ho:C.out=false){slot:Int}(h1:0≤slot)(h2:slot<C.cfg.slots)
  (k:∀h',Sat h0 A h'->Q (cnt C.s.blown (slot*C.cfg.fuses).toNat C.cfg.fuses.toNat) (KH (lst C.s.blown (slot*C.cfg.fuses).toNat C.cfg.fuses.toNat)) 0 h'):IN ⟨p,0,none⟩ slot Q h:=by
 unfold IN bS
 refine CO hs ci ?_
 intro h1' hs
 have ok:=CW hs ci
 obtain⟨e1,e2,e3,e4,e5,e6⟩:=kD ok h1 h2
 have hsl:=ok.may.slots
 intro J hJ
 generalize hf:C.cfg.fuses.toNat=f at *
 generalize ha:(slot*C.cfg.fuses).toNat=a at *
 refine MP f (fun n (_:Unit)=>YH C.s.blown a n) (fun _ _ h=>Sat h0 A h) ?_ ?_ 0 () _ (by omega) hs
 ·intro n _ h2 hn hs hk
  apply hJ
  rw[AD,if_pos (by simp;omega)]
  have ew:IntKind.i64.wrap (IntKind.i64.wrap (slot*C.cfg.fuses)+n)=((a+n:Nat):Int):=by
   rw[AQ (n:=slot*C.cfg.fuses) (by omega),AQ (by omega)];omega
  rw[ew]
  have eb:L6 C ((a+n:Nat):Int)=(C.s.blown.getD (a+n) false,0):=by
   unfold L6;rw[DB ho (by omega) (by omega),if_neg (by simp),Int.toNat_natCast]
  refine lK hs ci _ ?_
  rw[eb]
  rw[if_neg (by simp)]
  have hcl:=pO C.s.blown a n
  have hk:=hk () _ hs
  have ls:=AiF C.s.blown a n
  by_cases hb:C.s.blown.getD (a+n) false=true
  ·rw[if_pos (by simpa using hb),A0 (by omega),A0 (by omega)]
   have e7:cnt C.s.blown a (n+1)=cnt C.s.blown a n+1:=by rw[cnt,if_pos hb]
   have e8:lst C.s.blown a (n+1)=lst C.s.blown a n:=by
    rw[ls]
    cases lst C.s.blown a n with
    | none=>exact if_pos hb
    | some k=>rfl
   simp only[YH,e7,e8]at hk
   exact hk
  ·rw[if_neg (by simpa using hb),A0 (by omega)]
   have e7:cnt C.s.blown a (n+1)=cnt C.s.blown a n:=by rw[cnt,if_neg hb];rfl
   cases e:lst C.s.blown a n with
   | none=>
    rw[e]at ls
    dsimp only at ls
    rw[if_neg hb]at ls
    rw[AD,if_pos (by simp[KH])]
    simp only[YH,e7,ls,KH]at hk
    exact hk
   | some x=>
    rw[e]at ls
    dsimp only at ls
    have e10:¬(decide (KH (some x)<0)=true):=by
     have:(0:Int)≤(x:Int):=Int.natCast_nonneg x
     rw[decide_eq_true_eq]
     exact Int.not_lt.2 this
    rw[AD,if_neg e10]
    simp only[YH,e7,ls,KH]at hk
    exact hk
 ·intro _ h2 hs
  apply hJ
  rw[AD,if_neg (by simp;omega)]
  exact k _ hs
theorem xH{Q:Int->Int->HP}(hs:Sat h0 A h)(ci:At A i (AF p C))(slot:Int)(k:∀h',Sat h0 A h'->Q (D0 C slot).1 (D0 C slot).2 h'):NR ⟨p,0,none⟩ slot Q h:=by
 unfold NR bM
 refine CO hs ci ?_
 intro h1 hs
 refine iT hs ci _ _ ?_
 unfold D0 at k
 by_cases e:AT C slot C.cfg.slots=0
 ·obtain⟨ho,h1,h2⟩:=EA e
  rw[if_neg (by simpa using e)]at k ⊢
  exact iV hs ci ho h1 h2 fun h' hs'=>k _ hs'
 ·rw[if_pos (by simpa using e)]at k ⊢
  exact k _ hs
theorem AjY{Q:Int->HP}{slot n:Int}(a f:Nat)(n2:n≤f):∀(m:Nat) (C:Cm) (h:H) (A:List Ent) (ci:At A i (AF p C)) (hs:Sat h0 A h) (ho:C.out=false) (h1:0≤slot) (h2:slot<C.cfg.slots) (ea:(slot*C.cfg.fuses).toNat=a) (ef:C.cfg.fuses.toNat=f) (hm:n-cnt C.s.blown a f≤m)
  (k:∀h',Sat h0 (put A i (AF p (D8 a f n m C).1)) h'->Q (D8 a f n m C).2 h') (J:List SV->HP)
  (hJ:∀h,IN ⟨p,0,none⟩ slot (fun x y e h=>if (e != 0)=true then Q e h else if leI n x=true then Q e h else IK ⟨p,0,none⟩ y (fun e h=>if (e != 0)=true then Q e h else J [] h) h) h->J [] h),J [] h:=by
 intro m
 induction m with
 | zero=>
  intro C h A ci hs ho h1 h2 ea ef hm k J hJ
  apply hJ
  refine iV hs ci ho h1 h2 ?_
  intro h3 hs
  rw[ea,ef]
  rw[if_neg (by simp),BQ,if_pos (by simp;omega)]
  exact k _ (by unfold D8;rw[ci.put_self];exact hs)
 | succ m ih=>
  intro C h A ci hs ho h1 h2 ea ef hm k J hJ
  have ok:=CW hs ci
  obtain⟨e1,e2,e3,e4,e5,e6⟩:=kD ok h1 h2
  apply hJ
  refine iV hs ci ho h1 h2 ?_
  intro h3 hs
  rw[ea,ef]
  rw[ea,ef]at e3
  rw[ea]at e1
  rw[ef]at e2
  unfold D8 at k
  by_cases hn:n≤cnt C.s.blown a f
  ·rw[if_pos hn]at k
   rw[if_neg (by simp),BQ,if_pos (by simpa using hn)]
   exact k _ (by rw[ci.put_self];exact hs)
  ·rw[if_neg hn]at k
   rw[if_neg (by simp),BQ,if_neg (by simpa using hn)]
   cases e:lst C.s.blown a f with
   | none=>have:=tH e;omega
   | some x=>
    rw[e]at k
    dsimp only at k
    obtain⟨k1,k2,k3⟩:=tI e
    refine lJ hs ci _ ?_
    intro h4 hs
    dsimp only[KH]
    dsimp only[KH]at hs
    by_cases hl:C.left=0
    ·obtain⟨b1,b2,b3⟩:=UD ho (show x<C.s.blown.length by omega) hl
     rw[if_pos (by rw[b1];simp)]at k ⊢
     exact k _ hs
    ·rw[UE ho (show x<C.s.blown.length by omega) hl]at k hs ⊢
     dsimp only at k hs ⊢
     rw[if_neg (by simp)]at k ⊢
     have hc:=pP (a:=a) f (show x<C.s.blown.length by omega) k3
     rw[if_pos ⟨k1,k2⟩]at hc
     refine ih _ _ _ (ci.put _) hs (JX ho hl) h1 (by dsimp only;rw[DA];exact h2) (by dsimp only;rw[DA];exact ea) (by dsimp only;rw[DA];exact ef) (by dsimp only;rw[hc];omega) ?_ J hJ
     intro h5 hs
     rw[DU]at hs
     exact k _ hs
theorem AcU{Q:Int->HP}(hs:Sat h0 A h)(ci:At A i (AF p C))(slot n:Int)(k:∀h',Sat h0 (put A i (AF p (QA C slot n).1)) h'->Q (QA C slot n).2 h'):NS ⟨p,0,none⟩ slot n Q h:=by
 unfold NS bN
 refine CO hs ci ?_
 intro h1 hs
 refine iT hs ci _ _ ?_
 unfold QA at k
 by_cases e:AT C slot C.cfg.slots=0
 case neg=>
  rw[if_pos (by simpa using e)]at k ⊢
  exact k _ (by rw[ci.put_self];exact hs)
 obtain⟨ho,h1,h2⟩:=EA e
 rw[if_neg (by simpa using e)]at k ⊢
 intro J hJ
 by_cases hn:n<0
 ·rw[if_pos hn]at k
  rw[AD,if_pos (by simpa using hn)]
  exact k _ (by rw[ci.put_self];exact hs)
 rw[if_neg hn]at k
 rw[AD,if_neg (by simpa using hn)]
 refine CO hs ci ?_
 intro h3 hs
 by_cases hf:C.cfg.fuses<n
 ·rw[if_pos hf]at k
  rw[AD,if_pos (by simpa using hf)]
  exact k _ (by rw[ci.put_self];exact hs)
 rw[if_neg hf]at k
 rw[AD,if_neg (by simpa using hf)]
 apply hJ
 intro J2 hJ2
 exact AjY _ _ (by omega) _ C h3 A ci hs ho h1 h2 rfl rfl (by omega) k J2 hJ2
theorem sY(ok:C.ok){key:Int}(h1:0≤key)(h2:key<C.cfg.keys):IntKind.i64.wrap (IntKind.i64.wrap (C.cfg.slots*C.cfg.fuses)+key)=C.cfg.slots*C.cfg.fuses+key/\0≤C.cfg.slots*C.cfg.fuses+key/\C.cfg.slots*C.cfg.fuses+key<C.s.blown.length:=by
 have hb:=ok.fits.blown
 have hn:=ok.may.nf
 have hk:=ok.may.keys
 have hf:=ok.may.fuses
 have hsl:=ok.may.slots
 unfold Cfg.nf at hb hn
 have e1:0≤C.cfg.slots*C.cfg.fuses:=Int.mul_nonneg (by omega) (by omega)
 refine⟨?_,by omega,by omega⟩
 rw[AQ (n:=C.cfg.slots*C.cfg.fuses) (by omega),AQ (by omega)]
theorem tU{Q:Int->HP}(hs:Sat h0 A h)(ci:At A i (AF p C))(key:Int)(h1:0≤key)(h2:key<C.cfg.keys)(k:∀h',Sat h0 A h'->Q (C.cfg.slots*C.cfg.fuses+key) h'):JE ⟨p,0,none⟩ key Q h:=by
 unfold JE bR
 refine CO hs ci ?_
 intro h3 hs
 refine CO hs ci ?_
 intro h4 hs
 rw[(sY (CW hs ci) h1 h2).1]
 exact k _ hs
theorem n0{Q:Bool->Int->HP}(hs:Sat h0 A h)(ci:At A i (AF p C))(key:Int)(k:∀h',Sat h0 A h'->Q (CJ C key).1 (CJ C key).2 h'):JD ⟨p,0,none⟩ key Q h:=by
 unfold JD bP
 refine CO hs ci ?_
 intro h1 hs
 refine iT hs ci _ _ ?_
 unfold CJ at k
 by_cases e:AT C key C.cfg.keys=0
 case neg=>
  rw[if_pos (by simpa using e)]at k ⊢
  exact k _ hs
 obtain⟨ho,h1,h2⟩:=EA e
 rw[if_neg (by simpa using e)]at k ⊢
 refine tU hs ci key h1 h2 ?_
 intro h3 hs
 obtain⟨x1,x2,x3⟩:=sY (CW hs ci) h1 h2
 refine lK hs ci _ ?_
 have eb:L6 C (C.cfg.slots*C.cfg.fuses+key)=(C.s.blown.getD (C.cfg.slots*C.cfg.fuses+key).toNat false,0):=by
  unfold L6;rw[DB ho x2 x3,if_neg (by simp)]
 rw[eb]
 exact k _ hs
theorem AkF{key:Int}(e:(CJ C key).2=0):0≤key/\key<C.cfg.keys:=by
 unfold CJ at e
 split at e
 ·rename_i h1;exact absurd e h1
 ·rename_i h1
  obtain⟨_,h2,h3⟩:=EA (show AT C key C.cfg.keys=0 by simpa using h1)
  exact⟨h2,h3⟩
theorem AcZ{Q:Int->HP}(hs:Sat h0 A h)(ci:At A i (AF p C))(key:Int)(k:∀h',Sat h0 (put A i (AF p (FA C key).1)) h'->Q (FA C key).2 h'):NT ⟨p,0,none⟩ key Q h:=by
 unfold NT bO
 refine n0 hs ci key ?_
 intro h1 hs
 unfold FA at k
 by_cases e:(CJ C key).2=0
 case neg=>
  rw[if_pos (by simpa using e)]at k ⊢
  exact k _ (by rw[ci.put_self];exact hs)
 obtain⟨h1,h2⟩:=AkF e
 rw[if_neg (by simpa using e)]at k ⊢
 by_cases e2:(CJ C key).1=true
 ·rw[if_pos e2]at k ⊢
  exact k _ (by rw[ci.put_self];exact hs)
 rw[if_neg e2]at k ⊢
 refine tU hs ci key h1 h2 ?_
 intro h3 hs
 exact lJ hs ci _ fun h' hs'=>k _ hs'
end
end Go.Proofs.YteedolonhdbieaaGreatDoor
/- Contracts of the document's fuses. Own work. -/
set_option maxRecDepth 100000
namespace Go.Proofs.YteedolonhdbieaaGreatDoor
open Go Go.Vc
section
variable {h0 h:H} {A:List Ent} {i j p r:Nat} {C:Cm}
end
end Go.Proofs.YteedolonhdbieaaGreatDoor
end
section
namespace Go.Proofs.YteedolonhdbieaaGreatDoor
open Go Go.Vc
set_option maxRecDepth 100000
section
variable {h0 h:H} {A:List Ent} {i j p r:Nat} {C:Cm}
structure Stp7 where
 kind:Int
 a:Int
 n:Int
structure Stp7.ok (s:Stp7):Prop where
 n:s.n<2^63
structure Script7 (h:H) (p:Option Addr) (l:Nat) (sc:List Stp7):Prop where
 len:sc.length=l
 small:l<2^62
 el:∀i (hi:i<sc.length),∃(q:Addr),p=some q/\hc h (q.add (i*3))=some (.int .i64 sc[i].kind)/\hc h ((q.add (i*3)).add 1)=some (.int .i64 sc[i].a)/\
  hc h ((q.add (i*3)).add 2)=some (.int .i64 sc[i].n)/\sc[i].ok
end
end Go.Proofs.YteedolonhdbieaaGreatDoor
end
