/- LoaderWhole and its parts, laid together by a program of ours: Sh2 Sh3 Sh4 Mac1 Tk1 Tk2 Tk3 Tk4 Tk6 Tk7 Tr2 Tr6 At Rs1 Rs2 Rm1 -/
import Derived.Test.YteedolonhdbieaaGreatDoorRows
import Derived.Test.YteedolonhdbieaaGreatDoorK9
set_option autoImplicit false
set_option linter.all false
section
namespace Go.Proofs.YteedolonhdbieaaGreatDoor
open Go Go.Vc
set_option maxRecDepth 100000
theorem Ad5(a:Addr)(i j:Nat):(a.add i).add j=a.add (i+j):=by
 unfold Addr.add
 by_cases h:i=0
 ·subst h;simp
 ·by_cases h2:j=0
  ·subst h2;simp
  ·have:¬i+j=0:=by omega
   simp[h,h2];omega
theorem M2{h:H}{q:Option Addr}{l o n m:Nat}{k:IntKind}{bs:List Int}(rd:hsv h q 1 l (AA k bs))(ho:o+n≤l)(hm:m=o->n=0):hsv h (AK q o m 1) 1 n (AA k ((bs.drop o).take n)):=by
 have hl:bs.length=l:=by have:=rd.1;simpa using this
 refine⟨by rw[BV,List.length_take,List.length_drop];omega,A9 _ _,?_⟩
 by_cases c:n=0
 ·subst c;exact Or.inl rfl
 unfold AK
 rw[if_neg (fun y=>c (hm y))]
 obtain⟨_,_,rd⟩:=rd
 rcases rd with rd | ⟨q',rfl,g⟩
 ·have:=congrArg List.length rd
  rw[BV,List.length_nil]at this;omega
 ·refine Or.inr ⟨_,rfl,?_⟩
  intro i v hv
  have hi:i<n:=by
   have h1:i<(AA k ((bs.drop o).take n)).length:=(List.getElem?_eq_some_iff.1 hv).1
   rw[BV,List.length_take]at h1
   exact Nat.lt_of_lt_of_le h1 (Nat.min_le_left _ _)
  have e:=g (o+i) v (by
   rw[BR]at hv ⊢
   rw[List.getElem?_take_of_lt hi,List.getElem?_drop]at hv
   exact hv)
  rw[Nat.mul_one,Ad5]
  exact e
theorem VL(l:List Int)(j k:Nat)(v:Int):(l.set j v).getD k 0=if j=k/\k<l.length then v else l.getD k 0:=by
 rw[List.getD_eq_getElem?_getD,List.getElem?_set]
 by_cases c:j=k
 ·subst c
  by_cases d:j<l.length
  ·simp[d]
  ·simp[d]
 ·simp[c]
theorem AlE(l:List Int)(k:Nat):l.set k (l.getD k 0)=l:=by
 apply List.ext_getElem?
 intro j
 rw[List.getElem?_set]
 by_cases c:k=j
 ·subst c
  by_cases d:k<l.length
  ·simp[d,List.getD,List.getElem?_eq_getElem d]
  ·simp[d]
 ·simp[c]
theorem wJ(bs:List Int):∀t k,t≤k->(wM bs t).getD k 0=0
 | 0,k,_=>by
  show (AB 64).getD k 0=0
  rw[List.getD_eq_getElem?_getD]
  unfold AB
  rw[List.getElem?_replicate];split <;> rfl
 | t+1,k,h=>by
  show ((wM bs t).set t _).getD k 0=0
  rw[VL,if_neg (by omega)]
  exact wJ bs t k (by omega)
theorem IE{h:H}{Q:Int->HP}(x:Int)(m:Nat){mi:Int}(e:mi=(m:Int))(hm:bits .and .u64 (IntKind.u64.wrap (IntKind.i64.wrap (0-(m:Int)))) 31=((32-m:Nat):Int))(h1:1≤m)(h2:m<32)(q:Q (FJ x m) h):LX x mi Q h:=by
 subst e
 exact AlG x m hm h1 h2 q
section
variable {h0 h:H} {A:List Ent} {i d:Nat}
theorem vV{Q:HP}{s sm bs:List Int}{n:Int}{bp:Option Addr}{bc:Nat}(hs:Sat h0 A h)(cd:At A i (blk d (dgL s sm n)))(l1:s.length=8)(l2:sm.length=64)(hbc:64≤bc)(rd:∀h',Sat h0 A h'->hsv h' bp 1 64 (AA .u8 bs))
  (k:∀h',Sat h0 (put A i (blk d (dgL (HX s bs) sm n))) h'->Q h'):LW ⟨d,0,none⟩ bp 64 bc Q h:=by
 unfold LW fH
 try simp only[AI,Nat.zero_add,List.append_nil]
 intro wn _ hn;replace hs:=Sat.new hs hn
 intro J10 hJ10
 refine BS 16 (fun t h=>Sat h0 (blk wn (AA .u32 (wM bs t))::A) h) ?_ ?_ 0 _ (by omega) hs
 ·intro t h1 ht hs hk
  apply hJ10
  rw[AD,if_pos (by simp;omega)]
  have e4:IntKind.i64.wrap (4*(t:Int))=((4*t:Nat):Int):=by rw[AQ (by omega)];push_cast;rfl
  have e8:IntKind.i64.wrap (((4*t:Nat):Int)+4)=((4*t+4:Nat):Int):=by rw[AQ (by omega)];push_cast;rfl
  rw[e4,e8]
  simp only[Int.toNat_natCast,Nat.mul_one]
  refine⟨by omega,by omega,by omega,?_⟩
  rw[show 4*t+4-4*t=4 by omega]
  obtain⟨pc,hpc⟩:∃pc,pc=(bs.drop (4*t)).take 4:=⟨_,rfl⟩
  have hlen:=I3 bs t
  intro J13 hJ13
  refine BS 4 (fun j h=>Sat h0 (blk wn (AA .u32 ((wM bs t).set t (FQ pc j)))::A) h) ?_ ?_ 0 _ (by omega) (by
   have:(wM bs t).set t (FQ pc 0)=wM bs t:=by
    have:=AlE (wM bs t) t
    rw[wJ bs t t (Nat.le_refl _)]at this
    exact this
   rw[this];exact hs)
  ·intro j h2 hj hs hk2
   apply hJ13
   rw[AD,if_pos (by simp;omega)]
   obtain⟨q,hq,g⟩:=XF (M2 (o:=4*t) (n:=4) (m:=bc) (rd _ hs.drop) (by omega) (by omega)) (x:=j) (by omega)
   rw[←hpc]at g
   refine⟨q,hq,by omega,by omega,_,g,by omega,by omega,?_⟩
   have gw:=hs.ld (i:=0) (b:=wn) .z (E9 (k:=.u32) (l:=(wM bs t).set t (FQ pc j)) (i:=t) (by simp[hlen];omega))
   rw[VL,if_pos ⟨rfl,by omega⟩]at gw
   refine⟨_,gw,by decide,by omega,by omega,?_⟩
   refine⟨Sat.can hs .z (by simp[hlen];omega),?_⟩
   intro h3 e
   replace hs:=Sat.wr hs .z e
   clear e
   rw[HR,List.set_set]at hs
   rw[A0 (by omega)]
   exact hk2 _ hs
  ·intro h2 hs
   apply hJ13
   rw[AD,if_neg (by decide),A0 (by omega)]
   refine hk _ ?_
   show Sat h0 (blk wn (AA .u32 ((wM bs t).set t _))::A) h2
   rw[if_pos ht,←hpc]
   exact hs
 ·intro h1 hs
  apply hJ10
  rw[AD,if_neg (by decide)]
  clear hJ10 J10
  intro J23 hJ23
  refine BS 64 (fun t h=>16≤t/\Sat h0 (blk wn (AA .u32 (wM bs t))::A) h) ?_ ?_ 16 _ (by omega) ⟨by omega,hs⟩
  ·rintro t h2 ht ⟨ht2,hs⟩ hk
   apply hJ23
   rw[AD,if_pos (by simp;omega)]
   have hlen:=I3 bs t
   have e15:IntKind.i64.wrap ((t:Int)-15)=((t-15:Nat):Int):=by rw[AQ (by omega)];omega
   have e2:IntKind.i64.wrap ((t:Int)-2)=((t-2:Nat):Int):=by rw[AQ (by omega)];omega
   have e16:IntKind.i64.wrap ((t:Int)-16)=((t-16:Nat):Int):=by rw[AQ (by omega)];omega
   have e7:IntKind.i64.wrap ((t:Int)-7)=((t-7:Nat):Int):=by rw[AQ (by omega)];omega
   rw[e15,e2,e16,e7]
   simp only[Int.toNat_natCast,Nat.mul_one]
   have g:=fun(x:Nat) (hx:x<64)=>hs.ld (i:=0) (b:=wn) .z (E9 (k:=.u32) (l:=wM bs t) (i:=x) (by omega))
   refine⟨by omega,by omega,_,g _ (by omega),by omega,by omega,_,g _ (by omega),by omega,by omega,_,g _ (by omega),by decide,by omega,by omega,_,g _ (by omega),by decide,?_⟩
   refine IE _ 7 rfl (by decide +kernel) (by decide) (by decide) ?_
   refine⟨AH (g _ (by omega)),AH (g _ (by omega)),?_⟩
   refine IE _ 18 rfl (by decide +kernel) (by decide) (by decide) ?_
   refine⟨AH (g _ (by omega)),AH (g _ (by omega)),?_⟩
   refine IE _ 17 rfl (by decide +kernel) (by decide) (by decide) ?_
   refine⟨AH (g _ (by omega)),AH (g _ (by omega)),?_⟩
   refine IE _ 19 rfl (by decide +kernel) (by decide) (by decide) ?_
   refine⟨AH (g _ (by omega)),AH (g _ (by omega)),by omega,by omega,?_⟩
   refine⟨Sat.can hs .z (by simp[hlen];omega),?_⟩
   intro h3 e
   replace hs:=Sat.wr hs .z e
   clear e
   rw[HR]at hs
   rw[A0 (by omega)]
   refine hk _ ⟨by omega,?_⟩
   show Sat h0 (blk wn (AA .u32 ((wM bs t).set t _))::A) h3
   rw[if_neg (by omega)]
   exact hs
  ·rintro h2 ⟨_,hs⟩
   apply hJ23
   rw[AD,if_neg (by decide)]
   clear hJ23 J23
   refine⟨s,l1,hs.row (i:=i+1) (.s cd) (fun x hx=>by rw[Nat.zero_add,PV l1 (by omega),List.getElem?_eq_getElem hx];simp[List.getD,List.getElem?_eq_getElem hx]),?_⟩
   intro sn _ hn;replace hs:=Sat.new hs hn
   refine⟨Sat.can hs .z (by simp[l1,AB]),?_⟩
   intro h3 e
   replace hs:=Sat.wra hs .z e (by simp[l1,AB])
   clear e
   simp only[AG]at hs
   obtain⟨w,hw⟩:∃w,w=wM bs 64:=⟨_,rfl⟩
   have hwl:w.length=64:=by rw[hw];exact I3 _ _
   rw[←hw]at hs
   intro J46 hJ46
   refine BS 64 (fun t h=>Sat h0 (blk sn (AA .u32 (rM w s t))::blk wn (AA .u32 w)::A) h) ?_ ?_ 0 _ (by omega) hs
   ·intro t h4 ht hs hk
    apply hJ46
    rw[AD,if_pos (by simp;omega)]
    obtain⟨a,b,c,dd,e,f,g,hh,hr⟩:=jM (YC w s l1 t)
    rw[hr]at hs
    simp only[Int.toNat_natCast,Nat.mul_one]
    have gk:hc h4 ⟨d,73+t,none⟩=some (.int .u32 (kM.getD t 0)):=hs.ld (i:=i+2) (.s (.s cd)) (WU l1 l2 ht)
    have gw:hc h4 ⟨wn,t,none⟩=some (.int .u32 (w.getD t 0)):=hs.ld zs1 (E9 (by omega))
    have g0:hc h4 ⟨sn,0,none⟩=some (.int .u32 a):=hs.ld .z rfl
    have g1:hc h4 ⟨sn,1,none⟩=some (.int .u32 b):=hs.ld .z rfl
    have g2:hc h4 ⟨sn,2,none⟩=some (.int .u32 c):=hs.ld .z rfl
    have g3:hc h4 ⟨sn,3,none⟩=some (.int .u32 dd):=hs.ld .z rfl
    have g4:hc h4 ⟨sn,4,none⟩=some (.int .u32 e):=hs.ld .z rfl
    have g5:hc h4 ⟨sn,5,none⟩=some (.int .u32 f):=hs.ld .z rfl
    have g6:hc h4 ⟨sn,6,none⟩=some (.int .u32 g):=hs.ld .z rfl
    have g7:hc h4 ⟨sn,7,none⟩=some (.int .u32 hh):=hs.ld .z rfl
    refine⟨by decide,by decide,_,g7,by decide,by decide,_,g4,by decide,by decide,_,g4,by decide,by decide,_,g4,by decide,by decide,_,g4,by decide,by decide,_,g5,by decide,by decide,_,g4,by decide,by decide,_,g6,by omega,by omega,_,gk,by omega,by omega,_,gw,?_⟩
    refine IE _ 6 rfl (by decide +kernel) (by decide) (by decide) ?_
    refine⟨AH gw,AH gk,AH g6,AH g4,AH g5,AH g4,AH g4,AH g4,AH g7,?_⟩
    refine IE _ 11 rfl (by decide +kernel) (by decide) (by decide) ?_
    refine⟨AH gw,AH gk,AH g6,AH g4,AH g5,AH g4,AH g4,AH g7,?_⟩
    refine IE _ 25 rfl (by decide +kernel) (by decide) (by decide) ?_
    refine⟨AH gw,AH gk,AH g6,AH g4,AH g5,AH g4,AH g7,?_⟩
    refine⟨by decide,by decide,_,g0,by decide,by decide,_,g0,by decide,by decide,_,g0,by decide,by decide,_,g0,by decide,by decide,_,g1,by decide,by decide,_,g0,by decide,by decide,_,g2,by decide,by decide,_,g1,by decide,by decide,_,g2,?_⟩
    refine IE _ 2 rfl (by decide +kernel) (by decide) (by decide) ?_
    refine⟨AH g2,AH g1,AH g2,AH g0,AH g1,AH g0,AH g0,AH g0,?_⟩
    refine IE _ 13 rfl (by decide +kernel) (by decide) (by decide) ?_
    refine⟨AH g2,AH g1,AH g2,AH g0,AH g1,AH g0,AH g0,?_⟩
    refine IE _ 22 rfl (by decide +kernel) (by decide) (by decide) ?_
    refine⟨AH g2,AH g1,AH g2,AH g0,AH g1,AH g0,?_⟩
    refine⟨by decide,by decide,_,g0,by decide,by decide,_,g1,by decide,by decide,_,g2,by decide,by decide,_,g3,by decide,by decide,_,g4,by decide,by decide,_,g5,by decide,by decide,_,g6,?_⟩
    refine⟨Sat.can hs .z (by simp),?_⟩
    intro h5 e5
    replace hs:=Sat.wra hs .z e5 rfl
    clear e5
    simp only[AG]at hs
    rw[A0 (by omega)]
    refine hk _ ?_
    show Sat h0 (blk sn (AA .u32 (Y2 (rM w s t) _ _))::blk wn (AA .u32 w)::A) h5
    rw[hr]
    exact hs
   ·intro h4 hs
    apply hJ46
    rw[AD,if_neg (by decide)]
    clear hJ46 J46
    obtain⟨r,hr⟩:∃r,r=rM w s 64:=⟨_,rfl⟩
    have hrl:r.length=8:=by rw[hr];exact YC _ _ l1 _
    rw[←hr]at hs
    intro J89 hJ89
    refine BS 8 (fun x h=>Sat h0 (blk sn (AA .u32 r)::blk wn (AA .u32 w)::put A i (blk d (dgL (aM s r x) sm n))) h) ?_ ?_ 0 _ (by omega) (by
     have:put A i (blk d (dgL (aM s r 0) sm n))=A:=cd.put_self
     rw[this];exact hs)
    ·intro x h5 hx hs hk
     apply hJ89
     rw[AD,if_pos (by simp;omega)]
     have cd2:=cd.put (blk d (dgL (aM s r x) sm n))
     have hal:=WD s r l1 x
     simp only[Int.toNat_natCast,Nat.mul_one]
     refine⟨by omega,by omega,_,hs.ld (i:=i+2) (.s (.s cd2)) (PV hal hx),by omega,by omega,_,hs.ld .z (E9 (by omega)),by omega,by omega,?_⟩
     refine⟨Sat.can hs (i:=i+2) (.s (.s cd2)) (by rw[MC hal l2];omega),?_⟩
     intro h6 e
     replace hs:=Sat.wr hs (i:=i+2) (.s (.s cd2)) e
     clear e
     rw[Af8 hal hx]at hs
     simp only[AV,DU]at hs
     rw[A0 (by omega)]
     exact hk _ hs
    ·intro h5 hs
     apply hJ89
     rw[AD,if_neg (by decide)]
     refine k _ ?_
     unfold HX
     rw[←hw,←hr]
     exact hs.drop.drop
end
def F9(ms:List Int)(i:Nat):List Int:=(ms.drop (64*i)).take 64
def stM(ms:List Int):Nat->List Int
 | 0=>sM
 | k+1=>HX (stM ms k) (F9 ms k)
theorem VP(ms:List Int)(k:Nat):(stM ms k).length=8:=by
 induction k with
 | zero=>rfl
 | succ k ih=>exact t7 ih
theorem AdU{ms xs:List Int}{i:Nat}(h:64*(i+1)≤ms.length):F9 (ms++xs) i=F9 ms i:=by
 unfold F9
 rw[List.drop_append_of_le_length (by omega),List.take_append_of_le_length (by rw[List.length_drop];omega)]
theorem vN{ms xs:List Int}:∀{k:Nat},64*k≤ms.length->stM (ms++xs) k=stM ms k
 | 0,_=>rfl
 | k+1,h=>by
  show HX (stM (ms++xs) k) (F9 (ms++xs) k)=HX (stM ms k) (F9 ms k)
  rw[vN (k:=k) (by omega),AdU h]
structure DgOk (ms s sm:List Int) (n:Int):Prop where
 s:s=stM ms (ms.length / 64)
 n:n=(ms.length:Int)
 l:sm.length=64
 m:sm.take (ms.length % 64)=ms.drop (64*(ms.length / 64))
theorem DgOk.sl{ms s sm:List Int}{n:Int}(D:DgOk ms s sm n):s.length=8:=by rw[D.s];exact VP _ _
section
variable {s sm:List Int} {n:Int}
theorem pQ(h1:s.length=8)(h2:sm.length=64){o:Nat}{xs:List Int}(hx:o+xs.length≤64):AO (dgL s sm n) (8+o) (AA .u8 xs)=dgL s (sm.take o++xs++sm.drop (o+xs.length)) n:=by
 have hl2:(sm.take o++xs++sm.drop (o+xs.length)).length=64:=by simp[h2];omega
 apply List.ext_getElem?
 intro j
 rw[VN,BV,MC h1 h2]
 by_cases c1:j<8
 ·rw[if_neg (by omega),PV h1 c1,PV h1 c1]
 by_cases c2:j<72
 ·obtain⟨y,rfl⟩:∃y,j=8+y:=⟨j-8,by omega⟩
  rw[WV h1 h2 (by omega),WV h1 hl2 (by omega)]
  by_cases c3:o≤y/\y<o+xs.length
  ·rw[if_pos (by omega),show 8+y-(8+o)=y-o by omega,E9 (by omega)]
   congr 2
   rw[List.getD_eq_getElem?_getD,List.getD_eq_getElem?_getD,List.getElem?_append_left (by simp[h2];omega),List.getElem?_append_right (by simp[h2];omega)]
   congr 2
   simp[h2];omega
  ·rw[if_neg (by omega)]
   congr 2
   rw[List.getD_eq_getElem?_getD,List.getD_eq_getElem?_getD]
   by_cases c4:y<o
   ·rw[List.append_assoc,List.getElem?_append_left (by simp[h2];omega),List.getElem?_take_of_lt c4]
   ·rw[List.getElem?_append_right (by simp[h2];omega),List.getElem?_drop]
    congr 2
    simp[h2];omega
 by_cases c3:j=72
 ·subst c3
  rw[if_neg (by omega),MD h1 h2,MD h1 hl2]
 by_cases c4:j<137
 ·obtain⟨y,rfl⟩:∃y,j=73+y:=⟨j-73,by omega⟩
  rw[if_neg (by omega),WU h1 h2 (by omega),WU h1 hl2 (by omega)]
 ·rw[if_neg (by omega),List.getElem?_eq_none (by rw[MC h1 h2];omega),List.getElem?_eq_none (by rw[MC h1 hl2];omega)]
end
section
variable {h0 h:H} {A:List Ent} {i d:Nat}
theorem Af9{s sm:List Int}{n:Int}(hs:Sat h0 A h)(cd:At A i (blk d (dgL s sm n)))(h1:s.length=8)(h2:sm.length=64):hsv h (some ⟨d,8,none⟩) 1 64 (AA .u8 sm):=by
 refine⟨by simp[h2],A9 _ _,Or.inr ⟨_,rfl,?_⟩⟩
 refine hs.cs1 cd ?_
 intro x hx
 rw[BV,h2]at hx
 rw[WV h1 h2 hx,E9 (by omega)]
theorem wN{Q:HP}{T sm:List Int}{N:Int}{j:Nat}{o:Option Addr}{l c:Nat}(hs:Sat h0 (put A i (blk d (dgL (stM T j) sm N))) h)(cd0:∃e,At A i e)(hN:N=(T.length:Int))(hl:64*j+l=T.length)(hc:l≤c)(h2:sm.length=64)
  (rd:∀s' sm' h',Sat h0 (put A i (blk d (dgL s' sm' N))) h'->hsv h' o 1 l (AA .u8 (T.drop (64*j))))
  (k:∀s' sm' h',DgOk T s' sm' N->Sat h0 (put A i (blk d (dgL s' sm' N))) h'->Q h'):
  ∀(J16:List SV->HP),(∀(o17:Option Addr) (n18 n19:Nat) (h20:H),(if leI 64 (n18:Int)=true then (0:Int)≤64/\64≤(n19:Int)/\LW ⟨d,0,none⟩ (AK o17 0 n19 1) 64 (n19-0)
   (fun h21=>(0:Int)≤64/\64≤(n18:Int)/\J16 [.dv (.one (.slice (AK o17 64 n19 1) (n18-64) (n19-64)))] h21) h20
   else ∃l22:List Value,hsv h20 o17 1 (n18.min 64) l22/\(l22=[]∨∃p23:Addr,AK (some ⟨d,8,none⟩) 0 64 1=some p23/\AC h20 p23 (n18.min 64*1))/\∀h24:H,h24=E8 h20 (AK (some ⟨d,8,none⟩) 0 64 1) l22->Q h24)->J16 [.dv (.one (.slice o17 n18 n19))] h20)->J16 [.dv (.one (.slice o l c))] h:=by
 intro J hJ
 obtain⟨e0,cd0⟩:=cd0
 induction hn:l / 64 generalizing j o l c h sm with
 | zero=>
  apply hJ
  have hl64:l<64:=by omega
  rw[BQ,if_neg (by rw[decide_eq_true_iff];omega)]
  have cd:=cd0.put (blk d (dgL (stM T j) sm N))
  have hsl:=VP T j
  have R:=rd _ _ _ hs
  have hmin:l.min 64=l:=Nat.min_eq_left (by omega)
  rw[hmin]
  have FC:AK (some ⟨d,8,none⟩) 0 64 1=some ⟨d,8,none⟩:=by unfold AK;simp
  rw[FC]
  have hxl:(T.drop (64*j)).length=l:=by rw[List.length_drop];omega
  refine⟨_,R,Or.inr ⟨_,rfl,Sat.can hs cd (by rw[MC hsl h2];omega)⟩,?_⟩
  intro h1 e
  replace hs:=Sat.wr hs cd e
  clear e
  have sp:=pQ (n:=N) (o:=0) (xs:=T.drop (64*j)) hsl h2 (by omega)
  rw[show 8+0=8 from rfl]at sp
  rw[sp]at hs
  simp only[DU,List.take_zero,List.nil_append,Nat.zero_add]at hs
  refine k _ _ _ ⟨?_,hN,by simp[h2];omega,?_⟩ hs
  ·rw[show T.length / 64=j by omega]
  ·rw[show T.length % 64=l by omega,show T.length / 64=j by omega,List.take_append_of_le_length (by omega),List.take_of_length_le (by omega)]
 | succ m ih=>
  apply hJ
  rw[BQ,if_pos (by rw[decide_eq_true_iff];omega)]
  refine⟨by decide,by omega,?_⟩
  have cd:=cd0.put (blk d (dgL (stM T j) sm N))
  have hsl:=VP T j
  refine vV (bs:=F9 T j) hs cd hsl h2 (by omega) ?_ ?_
  ·intro h' hs'
   have:=M2 (o:=0) (n:=64) (m:=c) (rd _ _ _ hs') (by omega) (by omega)
   rw[List.drop_zero]at this
   exact this
  ·intro h1 hs
   rw[DU]at hs
   refine⟨by decide,by omega,?_⟩
   refine ih (j:=j+1) (l:=l-64) hs (by omega) (by omega) h2 ?_ (by omega)
   intro s' sm' h' hs'
   have:=M2 (o:=64) (n:=l-64) (m:=c) (rd _ _ _ hs') (by omega) (by omega)
   rw[List.drop_drop,List.take_of_length_le (by rw[List.length_drop];omega),show 64*j+64=64*(j+1) by omega]at this
   exact this
theorem S9{Q:HP}{ms xs s sm:List Int}{n:Int}{bp:Option Addr}{bl bc:Nat}(hs:Sat h0 A h)(cd:At A i (blk d (dgL s sm n)))(D:DgOk ms s sm n)(hml:ms.length+xs.length<2^61)(hbc:bl≤bc)
  (rd:∀s' sm' n' h',Sat h0 (put A i (blk d (dgL s' sm' n'))) h'->hsv h' bp 1 bl (AA .u8 xs))
  (k:∀s' sm' n' h',DgOk (ms++xs) s' sm' n'->Sat h0 (put A i (blk d (dgL s' sm' n'))) h'->Q h'):FF ⟨d,0,none⟩ bp bl bc Q h:=by
 unfold FF fG
 try simp only[AI,Nat.zero_add,List.append_nil]
 have l1:=D.sl
 have l2:=D.l
 have hn:=D.n
 have hxl:xs.length=bl:=by
  have:=(rd s sm n h (by rw[cd.put_self];exact hs)).1
  simpa using this
 refine⟨_,hs.ld cd (MD l1 l2),by decide,_,hs.ld cd (MD l1 l2),?_⟩
 refine⟨Sat.can hs cd (by rw[MC l1 l2];omega),?_⟩
 intro h1 e
 replace hs:=Sat.wr hs cd e
 clear e
 rw[Af7 l1 l2]at hs
 have eN:IntKind.u64.wrap (n+IntKind.u64.wrap (bl:Int))=((ms++xs).length:Int):=by
  rw[TF,TF,List.length_append,hn];push_cast;omega
 rw[eN]at hs
 obtain⟨hv,hhv⟩:∃hv,hv=ms.length % 64:=⟨_,rfl⟩
 have eH:IntKind.i64.wrap (n.tmod 64)=(hv:Int):=by
  have:n.tmod 64=(hv:Int):=by
   rw[hn,hhv,Int.tmod_eq_emod_of_nonneg (by omega)];omega
  rw[this,AQ (by omega)]
 rw[eH]
 obtain⟨T,hT⟩:∃T,T=ms++xs:=⟨_,rfl⟩
 have hTl:T.length=ms.length+bl:=by rw[hT,List.length_append,hxl]
 rw[←hT]at hs k
 have hmod:=Nat.div_add_mod ms.length 64
 have est:s=stM T (ms.length / 64):=by rw[hT,vN (by omega)];exact D.s
 have hdm:ms.drop (64*(ms.length / 64))=sm.take hv:=by rw[hhv];exact D.m.symm
 by_cases g:0<hv
 ·rw[AD,if_pos (by simp;exact g)]
  refine⟨by omega,by omega,?_⟩
  simp only[Int.toNat_natCast]
  obtain⟨m,hm⟩:∃m,m=bl.min (64-hv):=⟨_,rfl⟩
  have hm1:m≤bl:=by rw[hm];exact Nat.min_le_left _ _
  have hm2:m≤64-hv:=by rw[hm];exact Nat.min_le_right _ _
  have hm3:m=bl∨m=64-hv:=by rw[hm];rcases Nat.le_total bl (64-hv) with z | z;exact Or.inl (Nat.min_eq_left z);exact Or.inr (Nat.min_eq_right z)
  rw[←hm]
  have cd1:=cd.put (blk d (dgL s sm (T.length:Int)))
  have sub1:AK (some ⟨d,8,none⟩) hv 64 1=some ⟨d,8+hv,none⟩:=by
   unfold AK
   rw[if_neg (by omega)];simp
  rw[sub1]
  have R:=rd _ _ _ _ hs
  have R2:=M2 (o:=0) (n:=m) (m:=m+1) R (by omega) (by omega)
  have FC:AK bp 0 (m+1) 1=bp:=by
   unfold AK
   rw[if_neg (by omega)]
   cases bp with
   | none=>rfl
   | some q=>simp[add_zero]
  rw[FC,List.drop_zero]at R2
  have hxt:(xs.take m).length=m:=by rw[List.length_take];omega
  refine⟨_,R2,Or.inr ⟨_,rfl,Sat.can hs cd1 (by rw[MC l1 l2];omega)⟩,?_⟩
  intro h2 e
  replace hs:=Sat.wr hs cd1 e
  clear e
  rw[pQ l1 l2 (by omega)]at hs
  rw[DU,hxt]at hs
  refine⟨by omega,by omega,?_⟩
  rw[AQ (n:=(hv:Int)+(m:Int)) (by omega),AD]
  obtain⟨sm1,hsm1⟩:∃sm1,sm1=sm.take hv++xs.take m++sm.drop (hv+m):=⟨_,rfl⟩
  rw[←hsm1]at hs
  have hl1:sm1.length=64:=by rw[hsm1];simp[l2];omega
  have hst:(sm.take hv).length=hv:=by rw[List.length_take];omega
  by_cases gs:hv+m<64
  ·rw[if_pos (by rw[decide_eq_true_iff];omega)]
   have hmb:m=bl:=by omega
   refine k _ _ _ _ ⟨?_,rfl,hl1,?_⟩ hs
   ·rw[est,show T.length / 64=ms.length / 64 by omega]
   ·rw[show T.length % 64=hv+m by omega,show T.length / 64=ms.length / 64 by omega,hsm1,List.take_append_of_le_length (by simp[l2];omega),List.take_of_length_le (by simp[l2];omega)]
    rw[hT,List.drop_append_of_le_length (by omega),hdm,List.take_of_length_le (l:=xs) (i:=m) (by omega)]
  ·rw[if_neg (by rw[decide_eq_true_iff];omega)]
   have hm64:hv+m=64:=by omega
   have cd2:=cd.put (blk d (dgL s sm1 (T.length:Int)))
   have FN:AK (some ⟨d,8,none⟩) 0 64 1=some ⟨d,8,none⟩:=by unfold AK;simp
   rw[FN]
   refine vV (bs:=sm1) hs cd2 l1 hl1 (by omega) (fun h' hs'=>Af9 hs' cd2 l1 hl1) ?_
   intro h3 hs
   rw[DU]at hs
   have hb:sm1=F9 T (ms.length / 64):=by
    unfold F9
    rw[hT,List.drop_append_of_le_length (by omega),hdm,hsm1,List.drop_of_length_le (by omega),List.append_nil,List.take_append,List.take_of_length_le (l:=sm.take hv) (i:=64) (by omega),hst,show 64-hv=m by omega]
   rw[est,show HX (stM T (ms.length / 64)) sm1=stM T (ms.length / 64+1) by rw[hb];rfl]at hs
   refine wN (T:=T) (j:=ms.length / 64+1) (l:=bl-m) (c:=bc-m) hs ⟨_,cd⟩ rfl (by omega) (by omega) hl1 ?_ (fun s' sm' h' D' hs'=>k s' sm' _ h' D' hs')
   intro s' sm' h' hs'
   have:=M2 (o:=m) (n:=bl-m) (m:=bc) (rd _ _ _ _ hs') (by omega) (by omega)
   rw[List.take_of_length_le (by rw[List.length_drop];omega)]at this
   have hd:T.drop (64*(ms.length / 64+1))=xs.drop m:=by
    rw[hT,List.drop_append,List.drop_of_length_le (by omega),List.nil_append,show 64*(ms.length / 64+1)-ms.length=m by omega]
   rw[hd]
   exact this
 ·rw[AD,if_neg (by simp;omega)]
  have hv0:hv=0:=by omega
  rw[est]at hs
  refine wN (T:=T) (j:=ms.length / 64) (l:=bl) (c:=bc) hs ⟨_,cd⟩ rfl (by omega) hbc l2 ?_ (fun s' sm' h' D' hs'=>k s' sm' _ h' D' hs')
  intro s' sm' h' hs'
  have hd:T.drop (64*(ms.length / 64))=xs:=by
   rw[hT,List.drop_append,List.drop_of_length_le (by omega),List.nil_append,show 64*(ms.length / 64)-ms.length=0 by omega,List.drop_zero]
  rw[hd]
  exact rd _ _ _ _ hs'
end
def zM(n:Nat):Nat:=(119-n % 64) % 64
def KF(n i:Nat):Int:=IntKind.u8.wrap ((IntKind.u64.wrap (8*(n:Int))).fdiv (2^min (56-8*i) 64))
def GA(n:Nat):Nat->List Int
 | 0=>(AB 73).set 0 128
 | i+1=>(GA n i).set (1+zM n+i) (KF n i)
def LP(n:Nat):List Int:=(GA n 8).take (9+zM n)
def VA(s:List Int)(t:Nat):Int:=IntKind.u8.wrap ((s.getD (t / 4) 0).fdiv (2^min (24-8*(t % 4)) 32))
def oM(s:List Int):Nat->List Int
 | 0=>AB 32
 | t+1=>(oM s t).set t (VA s t)
def EP(ms:List Int):List Int:=ms++LP ms.length
def EI(ms:List Int):List Int:=oM (stM (EP ms) ((EP ms).length / 64)) 32
theorem WY(n i:Nat):(GA n i).length=73:=by
 induction i with
 | zero=>simp[GA,AB]
 | succ i ih=>simp[GA,ih]
theorem P7(s:List Int)(t:Nat):(oM s t).length=32:=by
 induction t with
 | zero=>simp[oM,AB]
 | succ t ih=>simp[oM,ih]
theorem CY(ms:List Int):(EI ms).length=32:=P7 _ _
theorem TG(n:Nat):zM n<64:=Nat.mod_lt _ (by decide)
theorem Y5(n:Nat):(LP n).length=9+zM n:=by
 have:=TG n
 unfold LP
 rw[List.length_take,WY];omega
theorem iR:DgOk [] sM (AB 64) 0:=⟨rfl,rfl,by simp[AB],rfl⟩
section
variable {h0 h:H} {A:List Ent} {i d:Nat}
theorem WO{b:Nat}{k:IntKind}{ms:List Int}(hs:Sat h0 A h)(m:At A i (blk b (AA k ms))){n:Nat}(hn:n≤ms.length):hsv h (some ⟨b,0,none⟩) 1 n (AA k (ms.take n)):=by
 refine⟨by rw[BV,List.length_take];omega,A9 _ _,Or.inr ⟨_,rfl,?_⟩⟩
 refine hs.cs1 m ?_
 intro x hx
 rw[BV,List.length_take]at hx
 rw[Nat.zero_add,BR,BR,List.getElem?_take_of_lt (by omega)]
theorem W8{l:List Int}{k:IntKind}{x:Nat}(hx:x<l.length):l[x]?.map (Value.int k)=some (.int k (l.getD x 0)):=by
 rw[List.getElem?_eq_getElem hx];simp[List.getD,List.getElem?_eq_getElem hx]
theorem AlX{Q:List Int->HP}(hs:Sat h0 A h)(k:∀h',Sat h0 A h'->Q sM h'):PA Q h:=by
 unfold PA fL
 intro b _ hn;replace hs:=Sat.new hs hn
 refine⟨Sat.can hs .z (by simp[AB]),?_⟩
 intro h2 e
 replace hs:=Sat.wra hs .z e (by simp[AB])
 clear e
 simp only[AG]at hs
 exact⟨sM,rfl,hs.row0 .z,k _ hs.drop⟩
theorem AkN{Q:List Int->HP}(hs:Sat h0 A h)(k:∀h',Sat h0 A h'->Q kM h'):O9 Q h:=by
 unfold O9 fK
 intro b _ hn;replace hs:=Sat.new hs hn
 refine⟨Sat.can hs .z (by simp[AB]),?_⟩
 intro h2 e
 replace hs:=Sat.wra hs .z e (by simp[AB])
 clear e
 simp only[AG]at hs
 exact⟨kM,rfl,hs.row0 .z,k _ hs.drop⟩
theorem gI{Q:Option Addr->HP}(hs:Sat h0 A h)(k:∀d h',Sat h0 (blk d (dgL sM (AB 64) 0)::A) h'->Q (some ⟨d,0,none⟩) h'):HI Q h:=by
 unfold HI fI
 refine AlX hs ?_
 intro h1 hs
 refine AkN hs ?_
 intro h2 hs
 intro d _ hn;replace hs:=Sat.new hs hn
 exact k _ _ hs
theorem AlF{Q:Option Addr->HP}{s sm:List Int}{n:Int}(hs:Sat h0 A h)(cd:At A i (blk d (dgL s sm n)))(l1:s.length=8)(l2:sm.length=64)
  (k:∀c h',Sat h0 (blk c (dgL s sm n)::A) h'->Q (some ⟨c,0,none⟩) h'):O7 ⟨d,0,none⟩ Q h:=by
 unfold O7 fE
 try simp only[AI,Nat.zero_add]
 refine⟨s,l1,hs.row cd (fun x hx=>by rw[Nat.zero_add,PV l1 (by omega),W8 hx]),sm,l2,hs.row cd (fun x hx=>by rw[WV l1 l2 (by omega),W8 hx]),n,hs.ld cd (MD l1 l2),kM,HT,hs.row cd (fun x hx=>by rw[WU l1 l2 (by rw[HT]at hx;exact hx),W8 hx]),?_⟩
 intro c _ hn;replace hs:=Sat.new hs hn
 refine⟨Sat.can hs .z (by simp[AB,l1,l2,HT]),?_⟩
 intro h2 e
 replace hs:=Sat.wra hs .z e (by simp[AB,l1,l2,HT])
 clear e
 simp only[AG]at hs
 exact k _ _ hs
theorem gX{Q:List Int->HP}{ms s sm:List Int}{n:Int}(hs:Sat h0 A h)(cd:At A i (blk d (dgL s sm n)))(D:DgOk ms s sm n)(hml:ms.length<2^60)(k:∀h',Sat h0 A h'->Q (EI ms) h'):JR ⟨d,0,none⟩ Q h:=by
 unfold JR fF
 try simp only[AI,Nat.zero_add,List.append_nil]
 have l1:=D.sl
 have l2:=D.l
 have hn:=D.n
 have hz:=TG ms.length
 intro ob _ hn5;replace hs:=Sat.new hs hn5;clear hn5
 refine AlF hs cd.s l1 l2 ?_
 intro c h1 hs
 intro eb _ hn10;replace hs:=Sat.new hs hn10;clear hn10
 refine⟨by decide,by decide,?_⟩
 refine⟨Sat.can hs .z (by simp[AB]),?_⟩
 intro h2 e
 replace hs:=Sat.wr hs .z e
 clear e
 rw[HR]at hs
 simp only[AG]at hs
 replace hs:Sat h0 (blk eb (AA .u8 (GA ms.length 0))::blk c (dgL s sm n)::blk ob (AA .u8 (AB 32))::A) h2:=hs
 refine⟨_,hs.ld cd.s.s.s (MD l1 l2),by decide,by decide,?_⟩
 have e1:n.tmod 64=((ms.length % 64:Nat):Int):=by rw[hn,Int.tmod_eq_emod_of_nonneg (by omega)];omega
 have e2:(IntKind.i64.wrap (119-IntKind.i64.wrap (n.tmod 64))).tmod 64=(zM ms.length:Int):=by
  rw[e1,AQ (n:=((ms.length % 64:Nat):Int)) (by omega),AQ (by omega)]
  unfold zM
  rw[Int.tmod_eq_emod_of_nonneg (by omega)];omega
 rw[e2,AQ (n:=1+(zM ms.length:Int)) (by omega)]
 intro J16 hJ16
 refine BS 8 (fun t h=>Sat h0 (blk eb (AA .u8 (GA ms.length t))::blk c (dgL s sm n)::blk ob (AA .u8 (AB 32))::A) h) ?_ ?_ 0 _ (by omega) hs
 ·intro t h3 ht hs hk
  apply hJ16
  rw[AD,if_pos (by simp;omega)]
  have hel:=WY ms.length t
  have e3:IntKind.i64.wrap (56-IntKind.i64.wrap (8*(t:Int)))=((56-8*t:Nat):Int):=by rw[AQ (n:=8*(t:Int)) (by omega),AQ (by omega)];omega
  have e4:IntKind.i64.wrap (1+(zM ms.length:Int)+(t:Int))=((1+zM ms.length+t:Nat):Int):=by rw[AQ (by omega)];push_cast;rfl
  rw[e3,e4]
  simp only[Int.toNat_natCast,Nat.mul_one]
  refine⟨_,hs.ld cd.s.s.s (MD l1 l2),by omega,by omega,by omega,?_⟩
  refine⟨Sat.can hs .z (by simp[hel];omega),?_⟩
  intro h4 e
  replace hs:=Sat.wr hs .z e
  clear e
  rw[HR]at hs
  simp only[AG]at hs
  rw[A0 (by omega)]
  refine hk _ ?_
  rw[hn]at hs ⊢
  exact hs
 ·intro h3 hs
  apply hJ16
  rw[AD,if_neg (by decide)]
  clear hJ16 J16
  have hel:=WY ms.length 8
  have e4:IntKind.i64.wrap (1+(zM ms.length:Int)+8)=((9+zM ms.length:Nat):Int):=by rw[AQ (by omega)];push_cast;omega
  rw[e4]
  simp only[Int.toNat_natCast,Nat.mul_one]
  have FC:AK (some ⟨eb,0,none⟩) 0 73 1=some ⟨eb,0,none⟩:=by unfold AK;simp
  rw[FC,Nat.sub_zero]
  refine⟨by omega,by omega,_,rfl,?_⟩
  have htl:=Y5 ms.length
  refine S9 (xs:=LP ms.length) hs zs1 D (by omega) (by omega) ?_ ?_
  ·intro s' sm' n' h' hs'
   simp only[AV,AG]at hs'
   exact WO hs' .z (by omega)
  intro s' sm' n' h4 D' hs
  simp only[AV,AG]at hs
  intro hb _ hn24;replace hs:=Sat.new hs hn24;clear hn24
  refine⟨_,rfl,s',D'.sl,hs.row zs2 (fun x hx=>by rw[Nat.zero_add,PV D'.sl (by have:=D'.sl;omega),W8 hx]),?_⟩
  have hs8:=D'.sl
  have hst:s'=stM (EP ms) ((EP ms).length / 64):=D'.s
  intro J29 hJ29
  refine BS 8 (fun t h=>Sat h0 (blk hb (AA .u8 (oM s' (4*t)))::blk eb (AA .u8 (GA ms.length 8))::blk c (dgL s' sm' n')::blk ob (AA .u8 (AB 32))::A) h) ?_ ?_ 0 _ (by omega) hs
  ·intro t h5 ht hs hk
   apply hJ29
   rw[AD,if_pos (by simp;omega)]
   refine⟨by omega,by omega,?_⟩
   simp only[Int.toNat_natCast]
   intro J32 hJ32
   refine BS 4 (fun x h=>Sat h0 (blk hb (AA .u8 (oM s' (4*t+x)))::blk eb (AA .u8 (GA ms.length 8))::blk c (dgL s' sm' n')::blk ob (AA .u8 (AB 32))::A) h) ?_ ?_ 0 _ (by omega) hs
   ·intro x h6 hx hs hk2
    apply hJ32
    rw[AD,if_pos (by simp;omega)]
    have hol:=P7 s' (4*t+x)
    have e5:IntKind.i64.wrap (24-IntKind.i64.wrap (8*(x:Int)))=((24-8*x:Nat):Int):=by rw[AQ (n:=8*(x:Int)) (by omega),AQ (by omega)];omega
    have e6:IntKind.i64.wrap (IntKind.i64.wrap (4*(t:Int))+(x:Int))=((4*t+x:Nat):Int):=by rw[AQ (n:=4*(t:Int)) (by omega),AQ (by omega)];push_cast;rfl
    rw[e5,e6]
    simp only[Int.toNat_natCast,Nat.mul_one]
    refine⟨by omega,by omega,by omega,?_⟩
    refine⟨Sat.can hs .z (by simp[hol];omega),?_⟩
    intro h7 e
    replace hs:=Sat.wr hs .z e
    clear e
    rw[HR]at hs
    simp only[AG]at hs
    rw[A0 (by omega)]
    refine hk2 _ ?_
    have eo:VA s' (4*t+x)=IntKind.u8.wrap ((s'.getD t 0).fdiv (2^min (24-8*x) 32)):=by
     unfold VA
     rw[show (4*t+x) / 4=t by omega,show (4*t+x) % 4=x by omega]
    rw[←eo]at hs
    exact hs
   ·intro h6 hs
    apply hJ32
    rw[AD,if_neg (by decide),A0 (by omega)]
    exact hk _ hs
  ·intro h5 hs
   apply hJ29
   rw[AD,if_neg (by decide)]
   refine⟨_,P7 _ _,hs.row0 .z,?_⟩
   refine⟨Sat.can hs zs3 (by simp[AB]),?_⟩
   intro h6 e
   replace hs:=Sat.wra hs zs3 e (by simp[AB,P7])
   clear e
   simp only[AV,AG]at hs
   refine⟨_,P7 _ _,hs.row0 zs3,?_⟩
   rw[hst]
   exact k _ hs.drop.drop.drop.drop
theorem Ad0{Q:List Int->HP}{bs:List Int}{bp:Option Addr}{bl bc:Nat}(hs:Sat h0 A h)(hbc:bl≤bc)(hbl:bl<2^60)(rd:∀h',Sat h0 A h'->hsv h' bp 1 bl (AA .u8 bs))(k:∀h',Sat h0 A h'->Q (EI bs) h'):O8 bp bl bc Q h:=by
 unfold O8 fJ
 simp only[List.append_nil]
 have hxl:bs.length=bl:=by have:=(rd _ hs).1;simpa using this
 intro ob _ hn;replace hs:=Sat.new hs hn
 refine gI hs ?_
 intro d h1 hs
 refine⟨_,rfl,?_⟩
 refine S9 (xs:=bs) hs .z iR (by simp;omega) hbc (fun s' sm' n' h' hs'=>rd _ hs'.drop.drop) ?_
 intro s' sm' n' h2 D hs
 simp only[AG]at hs
 refine⟨_,rfl,?_⟩
 refine gX hs .z D (by simp;omega) ?_
 intro h3 hs
 rw[List.nil_append]
 refine⟨Sat.can hs zs1 (by simp[AB,CY]),?_⟩
 intro h4 e
 replace hs:=Sat.wra hs zs1 e (by simp[AB,CY])
 clear e
 simp only[AV,AG]at hs
 exact⟨_,CY _,hs.row0 zs1,k _ hs.drop.drop⟩
end
def EY(key:List Int):List Int:=if 64<key.length then EI key else key
def kbM(key:List Int):List Int:=EY key++AB (64-(EY key).length)
def xM(kb:List Int)(x:Int):Nat->List Int
 | 0=>AB 64
 | t+1=>(xM kb x t).set t (bits .xor .u8 (kb.getD t 0) x)
def ML(key:List Int):List Int:=xM (kbM key) 54 64
def IX(key:List Int):List Int:=xM (kbM key) 92 64
def BC(key b:List Int):List Int:=EI (IX key++EI (ML key++b))
theorem IH(kb:List Int)(x:Int)(t:Nat):(xM kb x t).length=64:=by
 induction t with
 | zero=>simp[xM,AB]
 | succ t ih=>simp[xM,ih]
theorem sV(key:List Int):(EY key).length≤64:=by
 unfold EY
 split
 ·rw[CY];omega
 ·omega
theorem sS(key:List Int):(kbM key).length=64:=by
 have:=sV key
 unfold kbM
 simp[AB];omega
theorem G3(key b:List Int):(BC key b).length=32:=CY _
theorem AlP{k:IntKind}{l xs:List Int}{o:Nat}(h:o+xs.length≤l.length):AO (AA k l) o (AA k xs)=AA k (l.take o++xs++l.drop (o+xs.length)):=by
 apply List.ext_getElem?
 intro j
 rw[VN,BV,BV]
 by_cases c:o≤j/\j<o+xs.length/\j<l.length
 ·rw[if_pos c,BR,BR,List.getElem?_append_left (by simp;omega),List.getElem?_append_right (by simp;omega)]
  congr 2
  simp;omega
 ·rw[if_neg c,BR,BR]
  congr 1
  by_cases c2:j<o
  ·rw[List.append_assoc,List.getElem?_append_left (by simp;omega),List.getElem?_take_of_lt c2]
  ·by_cases c3:j<l.length
   ·rw[List.getElem?_append_right (by simp;omega),List.getElem?_drop]
    congr 1
    simp;omega
   ·rw[List.getElem?_eq_none (by omega),List.getElem?_eq_none (by simp;omega)]
section
variable {h0 h:H} {A:List Ent} {i d m:Nat}
abbrev tJ(d:Nat)(key:List Int):List Value:=.pointer (some ⟨d,0,none⟩)::AA .u8 (IX key)
theorem AdV{b:Nat}{k:IntKind}{pre:List Value}{ms:List Int}(hs:Sat h0 A h)(m:At A i (blk b (pre++AA k ms))):hsv h (some ⟨b,pre.length,none⟩) 1 ms.length (AA k ms):=by
 refine⟨by simp,A9 _ _,Or.inr ⟨_,rfl,?_⟩⟩
 refine hs.cs1 m ?_
 intro x hx
 rw[List.getElem?_append_right (by omega)]
 congr 1;omega
theorem zW{Q:Option Addr->HP}{key:List Int}{kp:Option Addr}{kl kc:Nat}(hs:Sat h0 A h)(hkc:kl≤kc)(hkl:kl<2^60)(rd:∀h',Sat h0 A h'->hsv h' kp 1 kl (AA .u8 key))
  (k:∀m d s sm n h',DgOk (ML key) s sm n->Sat h0 (blk d (dgL s sm n)::blk m (tJ d key)::A) h'->Q (some ⟨m,0,none⟩) h'):OD kp kl kc Q h:=by
 unfold OD dD
 try simp only[AI,Nat.zero_add,List.append_nil]
 have hxl:key.length=kl:=by have:=(rd _ hs).1;simpa using this
 intro kb _ hn;replace hs:=Sat.new hs hn
 intro J11 hJ11
 -- the block key
 have way:∀(p:Option Addr) (l c:Nat) h',Sat h0 (blk kb (AA .u8 (AB 64))::A) h'->hsv h' p 1 l (AA .u8 (EY key))->J11 [.dv (.one (.slice p l c))] h':=by
  intro p l c h2 hs rd2
  have hl2:(EY key).length=l:=by have:=rd2.1;simpa using this
  have hk64:=sV key
  apply hJ11
  have FC:∀x,AK (some ⟨x,0,none⟩) 0 64 1=some ⟨x,0,none⟩:=by intro x;unfold AK;simp
  rw[show l.min 64=l from Nat.min_eq_left (by omega),FC]
  refine⟨_,rd2,Or.inr ⟨_,rfl,Sat.can hs .z (by simp[AB];omega)⟩,?_⟩
  intro h3 e
  replace hs:=Sat.wr hs .z e
  clear e
  rw[AlP (by simp[AB];omega)]at hs
  have ekb:(AB 64).take 0++EY key++(AB 64).drop (0+(EY key).length)=kbM key:=by
   unfold kbM
   rw[List.take_zero,List.nil_append,Nat.zero_add]
   unfold AB
   rw[List.drop_replicate]
  rw[ekb]at hs
  simp only[AG]at hs
  refine gI hs ?_
  intro d h4 hs
  intro m _ hn;replace hs:=Sat.new hs hn
  intro ib _ hn;replace hs:=Sat.new hs hn
  have kl64:=sS key
  refine⟨_,kl64,hs.row0 zs3,?_⟩
  intro J29 hJ29
  refine BS 64 (fun t h=>Sat h0 (blk ib (AA .u8 (xM (kbM key) 54 t))::blk m (.pointer (some ⟨d,0,none⟩)::AA .u8 (xM (kbM key) 92 t))::blk d (dgL sM (AB 64) 0)::blk kb (AA .u8 (kbM key))::A) h) ?_ ?_ 0 _ (by omega) hs
  ·intro t h5 ht hs hk
   apply hJ29
   rw[AD,if_pos (by simp;omega)]
   have x1:=IH (kbM key) 54 t
   have x2:=IH (kbM key) 92 t
   simp only[Int.toNat_natCast,Nat.mul_one]
   refine⟨by omega,by omega,by omega,by omega,?_⟩
   refine⟨Sat.can hs .z (by simp[x1];omega),?_⟩
   intro h6 e
   replace hs:=Sat.wr hs .z e
   clear e
   rw[HR]at hs
   simp only[AG]at hs
   refine⟨by omega,by omega,?_⟩
   refine⟨Sat.can hs zs1 (by simp[x2];omega),?_⟩
   intro h7 e
   replace hs:=Sat.wr hs zs1 e
   clear e
   have es:AO (.pointer (some ⟨d,0,none⟩)::AA .u8 (xM (kbM key) 92 t)) (1+t) [.int .u8 (bits .xor .u8 ((kbM key).getD t 0) 92)]=.pointer (some ⟨d,0,none⟩)::AA .u8 (xM (kbM key) 92 (t+1)):=by
    show (Value.pointer (some ⟨d,0,none⟩)::AA .u8 (xM (kbM key) 92 t)).set (1+t) _=_
    rw[show 1+t=t+1 by omega,List.set_cons_succ,G1];rfl
   rw[es]at hs
   simp only[AV,AG]at hs
   rw[A0 (by omega)]
   exact hk _ hs
  ·intro h5 hs
   apply hJ29
   rw[AD,if_neg (by decide)]
   refine⟨_,hs.ld zs1 rfl,_,rfl,?_⟩
   have il:(ML key).length=64:=IH _ _ _
   refine S9 (xs:=ML key) hs zs2 iR (by simp[il]) (by omega) ?_ ?_
   ·intro s' sm' n' h' hs'
    simp only[AV,AG]at hs'
    have:=WO hs' .z (n:=64) (by rw[IH];omega)
    rw[List.take_of_length_le (by rw[IH];omega)]at this
    exact this
   ·intro s' sm' n' h6 D hs
    simp only[AV,AG]at hs
    rw[List.nil_append]at D
    replace hs:=hs.front zs2
    simp only[del]at hs
    exact k m d s' sm' n' _ D (hs.sub (by(repeat (first | exact List.Sublist.refl _ | apply List.Sublist.cons_cons | apply List.Sublist.cons))))
 by_cases g:64<kl
 ·rw[AD,if_pos (by rw[decide_eq_true_iff];omega)]
  refine Ad0 (bs:=key) hs hkc hkl (fun h' hs'=>rd _ hs'.drop) ?_
  intro h2 hs
  intro hb _ hn;replace hs:=Sat.new hs hn
  refine⟨Sat.can hs .z (by simp[AB]),?_⟩
  intro h3 e
  replace hs:=Sat.wra hs .z e (by simp[AB,CY])
  clear e
  simp only[AG]at hs
  have ek:EY key=EI key:=by unfold EY;rw[if_pos (by omega)]
  refine way _ _ _ _ hs.drop ?_
  rw[ek]
  have:=WO hs .z (n:=32) (by rw[CY];omega)
  rw[List.take_of_length_le (by rw[CY];omega)]at this
  have FC:AK (some ⟨hb,0,none⟩) 0 32 1=some ⟨hb,0,none⟩:=by unfold AK;simp
  rw[FC]
  exact this
 ·rw[AD,if_neg (by rw[decide_eq_true_iff];omega)]
  have ek:EY key=key:=by unfold EY;rw[if_neg (by omega)]
  refine way _ _ _ _ hs ?_
  rw[ek]
  exact rd _ hs.drop
theorem zY{Q:List Int->HP}{key ms s sm:List Int}{n:Int}{j:Nat}(hs:Sat h0 A h)(cm:At A j (blk m (tJ d key)))(cd:At A i (blk d (dgL s sm n)))(D:DgOk ms s sm n)(hml:ms.length<2^60)
  (k:∀h',Sat h0 A h'->Q (EI (IX key++EI ms)) h'):OC ⟨m,0,none⟩ Q h:=by
 unfold OC dC
 try simp only[AI,Nat.zero_add,List.append_nil]
 have FC:∀x o l,0<l->AK (some ⟨x,o,none⟩) 0 l 1=some ⟨x,o,none⟩:=by
  intro x o l hl
  unfold AK
  rw[if_neg (by omega)];simp
 have ol:(IX key).length=64:=IH _ _ _
 have cm2:At A j (blk m ([.pointer (some ⟨d,0,none⟩)]++AA .u8 (IX key))):=by simpa only[List.cons_append,List.nil_append]using cm
 intro ob _ hn;replace hs:=Sat.new hs hn
 refine⟨_,hs.ld cm.s rfl,_,rfl,?_⟩
 refine gX hs cd.s D hml ?_
 intro h1 hs
 intro hb _ hn;replace hs:=Sat.new hs hn
 refine⟨Sat.can hs .z (by simp[AB]),?_⟩
 intro h2 e
 replace hs:=Sat.wra hs .z e (by simp[AB,CY])
 clear e
 simp only[AG]at hs
 refine gI hs ?_
 intro d2 h3 hs
 rw[FC _ _ _ (by decide),FC _ _ _ (by decide)]
 refine⟨_,rfl,?_⟩
 refine S9 (xs:=IX key) hs .z iR (by simp[ol]) (by omega) ?_ ?_
 ·intro s' sm' n' h' hs'
  simp only[AG]at hs'
  have:=AdV (k:=.u8) (ms:=IX key) (pre:=[.pointer (some ⟨d,0,none⟩)]) hs' cm2.s.s.s
  rw[ol]at this
  exact this
 intro s1 sm1 n1 h4 D1 hs
 simp only[AG]at hs
 rw[List.nil_append]at D1
 refine⟨_,rfl,?_⟩
 refine S9 (xs:=EI ms) hs .z D1 (by simp[ol,CY]) (by omega) ?_ ?_
 ·intro s' sm' n' h' hs'
  simp only[AG]at hs'
  have:=WO hs' zs1 (n:=32) (by rw[CY];omega)
  rw[List.take_of_length_le (by rw[CY];omega)]at this
  exact this
 intro s2 sm2 n2 h5 D2 hs
 simp only[AG]at hs
 refine⟨_,rfl,?_⟩
 refine gX hs .z D2 (by simp[ol,CY]) ?_
 intro h6 hs
 refine⟨Sat.can hs zs2 (by simp[AB,CY]),?_⟩
 intro h7 e
 replace hs:=Sat.wra hs zs2 e (by simp[AB,CY])
 clear e
 simp only[AV,AG]at hs
 exact⟨_,CY _,hs.row0 zs2,k _ hs.drop.drop.drop⟩
theorem zX{Q:List Int->HP}{key b:List Int}{kp bp:Option Addr}{kl kc bl bc:Nat}(hs:Sat h0 A h)(hkc:kl≤kc)(hkl:kl<2^60)(hbc:bl≤bc)(hbl:bl<2^59)
  (rk:∀h',Sat h0 A h'->hsv h' kp 1 kl (AA .u8 key)) (rb:∀h',Sat h0 A h'->hsv h' bp 1 bl (AA .u8 b)) (k:∀h',Sat h0 A h'->Q (BC key b) h'):OE kp kl kc bp bl bc Q h:=by
 unfold OE dE
 try simp only[AI,Nat.zero_add,List.append_nil]
 have hxl:b.length=bl:=by have:=(rb _ hs).1;simpa using this
 have il:(ML key).length=64:=IH _ _ _
 intro ob _ hn;replace hs:=Sat.new hs hn
 refine zW (key:=key) hs hkc hkl (fun h' hs'=>rk _ hs'.drop) ?_
 intro m d s sm n h1 D hs
 refine⟨_,rfl,_,hs.ld zs1 rfl,_,rfl,?_⟩
 refine S9 (xs:=b) hs .z D (by rw[il];omega) hbc (fun s' sm' n' h' hs'=>rb _ hs'.drop.drop.drop) ?_
 intro s' sm' n' h2 D2 hs
 simp only[AG]at hs
 refine⟨_,rfl,?_⟩
 refine zY hs (j:=1) zs1 .z D2 (by rw[List.length_append,il];omega) ?_
 intro h3 hs
 refine⟨Sat.can hs zs2 (by simp[AB,CY]),?_⟩
 intro h4 e
 replace hs:=Sat.wra hs zs2 e (by simp[AB,CY])
 clear e
 simp only[AV,AG]at hs
 exact⟨_,CY _,hs.row0 zs2,k _ hs.drop.drop.drop⟩
end
structure CvM where
 kind:Int
 slot:Int
 frm:Int
 to:Int
 set:Int
abbrev cvV(c:CvM):List Value:=[.int .i64 c.kind,.int .i64 c.slot,.int .i64 c.frm,.int .i64 c.to,.int .u64 c.set]
def CvM.may(c:CvM):Prop:=
 (c.kind=1/\(0≤c.slot/\c.slot<8)/\c.frm=0/\c.to=0/\c.set=0) ∨
 (c.kind=2/\(0≤c.frm/\c.frm≤c.to/\c.to<4294967296)/\c.slot=0/\c.set=0) ∨
 (c.kind=3/\(c.set≠0/\bits .andNot .u64 c.set 16382=0)/\c.slot=0/\c.frm=0/\c.to=0) ∨
 (c.kind=4/\(0≤c.slot/\c.slot<8)/\(0≤c.frm/\c.frm≤4611686018427387904)/\c.to=0/\c.set=0) ∨
 (c.kind=5/\(0≤c.slot/\c.slot<8)/\(0≤c.to/\c.to≤4611686018427387904)/\c.frm=0/\c.set=0)
instance instDecCv (c:CvM):Decidable c.may:=by unfold CvM.may;infer_instance
section
variable {h0 h:H} {A:List Ent} {i d:Nat}
end
def iQ:List CvM->List Value
 | []=>[]
 | c::r=>cvV c++iQ r
section
variable {h0 h:H} {A:List Ent} {i d:Nat}
end
theorem jO{J:List SV->HP}{σ:Type}(N:Nat)(S:Nat->σ->List SV)(Inv:Nat->σ->HP)(step:∀i s h,i<N->Inv i s h->(∀s' h',Inv (i+1) s' h'->J (S (i+1) s') h')->J (S i s) h)
  (exit:∀s h,Inv N s h->J (S N s) h) (i:Nat) (s:σ) (h:H) (hi:i≤N) (inv:Inv i s h):J (S i s) h:=by
 generalize e:N-i=n
 induction n generalizing i s h with
 | zero=>
  have:i=N:=by omega
  subst this;exact exit s h inv
 | succ n ih=>exact step i s h (by omega) inv fun s' h' inv'=>ih (i+1) s' h' (by omega) inv' (by omega)
theorem UF{h0 h:H}{A:List Ent}(hs:Sat h0 A h){i:Nat}{p:Option Addr}{l c sz:Nat}{vs:List Value}(m:At A i (slE p l c sz vs)):l≤c:=by
 obtain⟨f,hp,_⟩:=hs.take m
 obtain⟨bs,o,_⟩:=slE_P.1 hp
 exact o.2.1
section
variable {h0 h:H} {A:List Ent} {i d:Nat}
theorem AeP{Q:Option Addr->Nat->Nat->HP}{p:Option Addr}{l c:Nat}{vs:List Value}(hs:Sat h0 A h)(hl:l<2^47)(rd:∀h',Sat h0 A h'->hsv h' p 1 l vs)
  (k:∀p' c' h',(p.isNone=true->p'=none/\l=0)->Sat h0 (slE p' l c' 1 vs::A) h'->Q p' l c' h'):HJ p l c Q h:=by
 unfold HJ fN
 have R:=rd _ hs
 by_cases g:p.isNone=true
 ·rw[if_pos g]
  have hp:p=none:=by simpa using g
  subst hp
  have e:=rP R
  subst e
  have hl0:l=0:=by have:=R.1;simp at this;omega
  subst hl0
  exact k none 0 h (fun _=>⟨rfl,rfl⟩) (hs.sl_nil 1 none)
 ·rw[if_neg g]
  intro b _ hn;replace hs:=Sat.new hs hn
  have R2:=rd _ hs.drop
  refine⟨vs,R2,?_⟩
  refine Sat.app_new hs R2.1 rfl R2.2.1 (by omega) ?_
  intro p' c' h1 hs
  exact k _ _ _ (fun y=>absurd y g) (hs.sub (by(repeat (first | exact List.Sublist.refl _ | apply List.Sublist.cons_cons | apply List.Sublist.cons))))
def oG(key:Int)(id:List Int)(cs:List CvM):Prop:=(0≤key/\key<64)/\(1≤id.length/\id.length≤64)/\cs.length≤32/\∀c∈cs,c.may
instance (key:Int) (id:List Int) (cs:List CvM):Decidable (oG key id cs):=by unfold oG;infer_instance
theorem UX(k:IntKind)(a b:List Int):AA k (a++b)=AA k a++AA k b:=by unfold AA;rw[List.map_append]
end
theorem DL(n:Nat):(AB n).length=n:=by simp[AB]
section
variable {h0 h:H} {A:List Ent} {i j d r m:Nat}
theorem rD{Q:Bool->HP}(key:Int){es:List (Value×DV)}{b:Bool}{op:Option Addr}{ol oc:Nat}(hs:Sat h0 A h)(cr:At A i (blk r [.map (some m)]))(cm:At A j (EQ m es))(hl:D7 (.int .i64 key) (.one (.slice none 0 0)) es=some (.one (.slice op ol oc),b))
  (q:Q b h):IO ⟨r,0,none⟩ key Q h:=by
 unfold IO cH
 exact⟨_,hs.ld cr rfl,_,_,_,hs.mapAt cm,hl,_,_,_,rfl,q⟩
theorem AlJ{Q:List Int->Int->HP}{key:Int}{es:List (Value×DV)}{sp bp:Option Addr}{sl sc bl bc:Nat}{secret b:List Int}(hs:Sat h0 A h)(cr:At A i (blk r [.map (some m)]))(cm:At A j (EQ m es))(hl:D7 (.int .i64 key) (.one (.slice none 0 0)) es=some (.one (.slice sp sl sc),true))
  (hsc:sl≤sc) (hsl:sl<2^40) (hbc:bl≤bc) (hbl:bl<2^40) (rs:∀h',Sat h0 A h'->hsv h' sp 1 sl (AA .u8 secret)) (rb:∀h',Sat h0 A h'->hsv h' bp 1 bl (AA .u8 b)) (k:∀h',Sat h0 A h'->Q (BC secret b) 0 h'):N4 ⟨r,0,none⟩ key bp bl bc Q h:=by
 unfold N4 cI
 simp only[List.append_nil]
 intro ob _ hn;replace hs:=Sat.new hs hn
 refine⟨_,hs.ld cr.s rfl,_,_,_,hs.mapAt cm.s,hl,_,_,_,rfl,?_⟩
 rw[if_neg (by decide)]
 refine zX (key:=secret) (b:=b) hs hsc (by omega) hbc (by omega) (fun h' hs'=>rs _ hs'.drop) (fun h' hs'=>rb _ hs'.drop) ?_
 intro h2 hs
 refine⟨Sat.can hs .z (by simp[AB]),?_⟩
 intro h3 e
 replace hs:=Sat.wra hs .z e (by simp[AB,G3])
 clear e
 simp only[AG]at hs
 exact⟨_,G3 _ _,hs.row0 .z,k _ hs.drop⟩
end
structure TkM where
 key:Int
 id:List Int
 cs:List CvM
 tag:List Int
def U0(bs:List Int):Prop:=∀n,n∈bs->0≤n/\n<256
section
variable {h0 h:H} {A:List Ent} {i j d:Nat}
end
set_option maxRecDepth 1000000
theorem nIF(t:TypeId)(v:Value):¬P3 (.iface t v)=true:=Bool.false_ne_true
section
variable {h0 h:H} {A:List Ent} {i j d:Nat}
end
theorem kS{α:Type}(l:List α){t:Nat}(h:t<l.length):l.take (t+1)=l.take t++[l[t]]:=by rw[List.take_succ,List.getElem?_eq_getElem h];rfl
section
variable {h0 h:H} {A:List Ent} {i j d:Nat}
end
def CvM.typed(c:CvM):Prop:=has .i64 c.kind/\has .i64 c.slot/\has .i64 c.frm/\has .i64 c.to/\has .u64 c.set
end Go.Proofs.YteedolonhdbieaaGreatDoor
end
section
namespace Go.Proofs.YteedolonhdbieaaGreatDoor
open Go Go.Vc Go.ChangeShapes Go.WideShapes Go.ChangeAt Go.RowKit
set_option maxRecDepth 100000
theorem AmZ:xsh PP 8 5=some [.int .u8]:=by kernel_rfl
section
variable {D:Type} {enc:TypeId×Value->D} {W:World}
theorem Ae1{p:Option Addr}{l c:Nat}(h:Sli enc PP W 5 p l c):∃ns:List Int,hsv W.heap p 1 l (AA .u8 ns)/\U0 ns/\l≤c/\l+4096≤2^47:=by
 have hb:Tryz.prog.bytesOf 5=1:=by kernel_rfl
 have hc:Tryz.prog.cellsOf 5=1:=by kernel_rfl
 obtain⟨ess,h1,h2,h3,_⟩:=h.els AmZ
 have hlc:=h.1
 have hr:=h.2.1
 rw[hb]at hr
 rw[hc]at h3
 have key:∀ess:List (List Value),(∀es,es∈ess->es.length=Tryz.prog.cellsOf 5/\XM enc PP W [XSh.int .u8] es)->∃ns:List Int,ess.flatten=AA .u8 ns/\U0 ns:=by
  intro ess
  induction ess with
  | nil=>intro _;exact⟨[],rfl,by intro n hn;simp at hn⟩
  | cons x r ih=>
   intro h
   obtain⟨ns,e,hn⟩:=ih fun es hes=>h es (by simp[hes])
   obtain⟨n,rest,rfl,hh,hr⟩:=(h x (by simp)).2
   simp only[XM]at hr
   subst hr
   refine⟨n::ns,by simp[e],?_⟩
   intro m hm
   rcases List.mem_cons.1 hm with rfl | hm
   ·exact rE hh
   ·exact hn m hm
 obtain⟨ns,e,hn⟩:=key ess h2
 rw[e]at h3
 refine⟨ns,h3,hn,hlc,?_⟩
 unfold reachBytes at hr
 omega
theorem vH{t e:TypeId}{v:Value}{base:Nat}(u:Tryz.prog.underlying t=some (.slice e))(h:Rdt enc PP W t v.cells.toList)(ho:Value.okWide PP W .any base t v):∃p l c,v=.slice p l c/\Sli enc PP W e p l c:=by
 obtain⟨p,l,c,e1,hs⟩:=Rdt.slice u h
 exact⟨p,l,c,Aj6 (by rw[u]) ho e1,hs⟩
structure TokIn (h:H) (key:Int) (id tag:List Int) (cs:List CvM) (ip:Option Addr) (il:Nat) (cp:Option Addr) (cl:Nat):Prop where
 key:has .i64 key
 ri:hsv h ip 1 il (AA .u8 id)
 rb:U0 id
 ii:il+4096≤2^47
 rc:hsv h cp 5 cl (iQ cs)
 ct:∀c,c∈cs->c.typed
 cc:cl*40+4096≤2^47
 tl:tag.length=32
 tb:U0 tag
end
end Go.Proofs.YteedolonhdbieaaGreatDoor
end
section
namespace Go.Proofs.YteedolonhdbieaaGreatDoor
open Go Go.Vc
set_option maxRecDepth 100000
def BX(bs:List Int):Prop:=∀n,n∈bs->0≤n/\n<256
theorem XJ{bs:List Int}(hb:BX bs)(x:Nat):0≤bs.getD x 0/\bs.getD x 0<256:=by
 rw[List.getD_eq_getElem?_getD]
 cases e:bs[x]? with
 | none=>exact⟨by decide,by decide⟩
 | some v=>exact hb v (List.mem_iff_getElem?.2 ⟨x,e⟩)
theorem Aj8(a b:Int):bits .or .u32 a b=bits .or .u32 b a:=by
 have e:∀x y:Int,bits .or .u32 x y=IntKind.u32.wrap ((BitVec.ofInt 32 x ||| BitVec.ofInt 32 y).toNat:Int):=fun _ _=>rfl
 rw[e,e,BitVec.or_comm]
theorem G7(n:Int):IntKind.u32.wrap n=n % 4294967296:=by simp[IntKind.wrap,IntKind.signed,IntKind.bits]
theorem Aj9{x y:Nat}(hx:x<2^32)(hy:y<2^32):bits .or .u32 (x:Int) (y:Int)=((x ||| y:Nat):Int):=by
 have:bits .or .u32 (x:Int) (y:Int)=IntKind.u32.wrap ((BitVec.ofInt 32 (x:Int) ||| BitVec.ofInt 32 (y:Int)).toNat:Int):=rfl
 rw[this,BitVec.ofInt_natCast,BitVec.ofInt_natCast,BitVec.toNat_or,BitVec.toNat_ofNat,BitVec.toNat_ofNat,Nat.mod_eq_of_lt hx,Nat.mod_eq_of_lt hy,G7]
 have h3:x ||| y<2^32:=Nat.or_lt_two_pow hx hy
 omega
theorem MU{a b k:Nat}(hb:b<2^k)(h:2^k*a+b<2^32):bits .or .u32 ((2^k*a:Nat):Int) (b:Int)=((2^k*a+b:Nat):Int):=by
 rw[Aj9 (by omega) (by omega),←Nat.two_pow_add_eq_or_of_lt hb]
theorem AmQ{a b c d:Int}(ha:0≤a/\a<256)(hb:0≤b/\b<256)(hc:0≤c/\c<256)(hd:0≤d/\d<256):
  bits .or .u32 (bits .or .u32 (bits .or .u32 (IntKind.u32.wrap (IntKind.u32.wrap a*2^24)) (IntKind.u32.wrap (IntKind.u32.wrap b*2^16))) (IntKind.u32.wrap (IntKind.u32.wrap c*2^8))) (IntKind.u32.wrap d)=FQ [a,b,c,d] 4:=by
 obtain⟨a,rfl⟩:=Int.eq_ofNat_of_zero_le ha.1
 obtain⟨b,rfl⟩:=Int.eq_ofNat_of_zero_le hb.1
 obtain⟨c,rfl⟩:=Int.eq_ofNat_of_zero_le hc.1
 obtain⟨d,rfl⟩:=Int.eq_ofNat_of_zero_le hd.1
 have wa:IntKind.u32.wrap (a:Int)=(a:Int):=by rw[G7];omega
 have wb:IntKind.u32.wrap (b:Int)=(b:Int):=by rw[G7];omega
 have wc:IntKind.u32.wrap (c:Int)=(c:Int):=by rw[G7];omega
 have wd:IntKind.u32.wrap (d:Int)=(d:Int):=by rw[G7];omega
 have x24:IntKind.u32.wrap ((a:Int)*2^24)=((2^24*a:Nat):Int):=by rw[G7];omega
 have x16:IntKind.u32.wrap ((b:Int)*2^16)=((2^16*b:Nat):Int):=by rw[G7];omega
 have x8:IntKind.u32.wrap ((c:Int)*2^8)=((2^8*c:Nat):Int):=by rw[G7];omega
 rw[wa,wb,wc,wd,x24,x16,x8]
 rw[MU (by omega) (by omega)]
 have e1:(2^24*a+2^16*b:Nat)=2^16*(2^8*a+b):=by omega
 rw[e1,MU (by omega) (by omega)]
 have e2:(2^16*(2^8*a+b)+2^8*c:Nat)=2^8*(2^16*a+2^8*b+c):=by omega
 rw[e2,MU (by omega) (by omega)]
 have s0:FQ [(a:Int),b,c,d] 1=((2^0*0+a:Nat):Int):=by
  show bits .or .u32 (IntKind.u32.wrap (0*2^8)) (IntKind.u32.wrap (a:Int))=_
  rw[wa]
  exact MU (k:=8) (a:=0) (b:=a) (by omega) (by omega)
 have s1:FQ [(a:Int),b,c,d] 2=((2^8*a+b:Nat):Int):=by
  show bits .or .u32 (IntKind.u32.wrap (FQ [(a:Int),b,c,d] 1*2^8)) (IntKind.u32.wrap (b:Int))=_
  rw[s0,wb,show IntKind.u32.wrap (((2^0*0+a:Nat):Int)*2^8)=((2^8*a:Nat):Int) by rw[G7];omega]
  exact MU (by omega) (by omega)
 have s2:FQ [(a:Int),b,c,d] 3=((2^8*(2^8*a+b)+c:Nat):Int):=by
  show bits .or .u32 (IntKind.u32.wrap (FQ [(a:Int),b,c,d] 2*2^8)) (IntKind.u32.wrap (c:Int))=_
  rw[s1,wc,show IntKind.u32.wrap (((2^8*a+b:Nat):Int)*2^8)=((2^8*(2^8*a+b):Nat):Int) by rw[G7];omega]
  exact MU (by omega) (by omega)
 have s3:FQ [(a:Int),b,c,d] 4=((2^8*(2^8*(2^8*a+b)+c)+d:Nat):Int):=by
  show bits .or .u32 (IntKind.u32.wrap (FQ [(a:Int),b,c,d] 3*2^8)) (IntKind.u32.wrap (d:Int))=_
  rw[s2,wd,show IntKind.u32.wrap (((2^8*(2^8*a+b)+c:Nat):Int)*2^8)=((2^8*(2^8*(2^8*a+b)+c):Nat):Int) by rw[G7];omega]
  exact MU (by omega) (by omega)
 rw[s3]
 congr 1
 omega
theorem Am4{bs:List Int}{o:Nat}(h:o+4≤bs.length):(bs.drop o).take 4=[bs.getD o 0,bs.getD (o+1) 0,bs.getD (o+2) 0,bs.getD (o+3) 0]:=by
 apply List.ext_getElem (by simp;omega)
 intro i h1 h2
 simp only[List.length_cons,List.length_nil,Nat.zero_add]at h2
 rw[List.getElem_take,List.getElem_drop]
 have g:∀x (hx:x<bs.length),bs.getD x 0=bs[x]:=fun x hx=>by rw[List.getD_eq_getElem?_getD,List.getElem?_eq_getElem hx];rfl
 have:i=0∨i=1∨i=2∨i=3:=by omega
 rcases this with rfl | rfl | rfl | rfl
 ·exact (g o (by omega)).symm
 ·exact (g (o+1) (by omega)).symm
 ·exact (g (o+2) (by omega)).symm
 ·exact (g (o+3) (by omega)).symm
section
variable {h0 h:H} {A:List Ent} {i d:Nat}
theorem IF{Q:Int->HP}(x:Int)(m:Nat){mi:Int}(e:mi=(m:Int))(h1:1≤m)(h2:m<32)(q:Q (FJ x m) h):JO x mi Q h:=by
 subst e
 unfold JO dW
 have e:IntKind.i64.wrap (32-(m:Int))=((32-m:Nat):Int):=by rw[AQ (by omega)];omega
 rw[e]
 refine⟨by omega,by omega,?_⟩
 rw[Int.toNat_natCast,Int.toNat_natCast,Nat.min_eq_left (by omega),Nat.min_eq_left (by omega),Aj8]
 exact q
theorem AmR{Q:List Int->HP}{bs:List Int}{p:Option Addr}{l c:Nat}(hs:Sat h0 A h)(hb:BX bs)(hl:64≤l)(rd:∀h',Sat h0 A h'->hsv h' p 1 l (AA .u8 bs))(k:∀h',Sat h0 A h'->Q (wM bs 64) h'):OQ p l c Q h:=by
 unfold OQ dX
 try simp only[AI,Nat.zero_add,List.append_nil]
 have hbl:bs.length=l:=by have:=(rd _ hs).1;simpa using this
 intro rb _ hn;replace hs:=Sat.new hs hn
 intro wn _ hn;replace hs:=Sat.new hs hn
 refine⟨Sat.can hs .z (by simp[AB]),?_⟩
 intro h2 e
 replace hs:=Sat.wra hs .z e rfl
 clear e
 simp only[AG]at hs
 obtain⟨q,hq,_⟩:=XF (rd _ hs.drop.drop) (x:=0) (by omega)
 subst hq
 intro J14 hJ14
 refine BS 16 (fun t h=>Sat h0 (blk wn (AA .u32 (wM bs t))::blk rb (AA .u32 (AB 64))::A) h) ?_ ?_ 0 _ (by omega) hs
 ·intro t h1 ht hs hk
  apply hJ14
  rw[AD,if_pos (by simp;omega)]
  have e0:IntKind.i64.wrap (4*(t:Int))=((4*t:Nat):Int):=by rw[AQ (by omega)];push_cast;rfl
  have e1:IntKind.i64.wrap (((4*t:Nat):Int)+1)=((4*t+1:Nat):Int):=by rw[AQ (by omega)];push_cast;rfl
  have e2:IntKind.i64.wrap (((4*t:Nat):Int)+2)=((4*t+2:Nat):Int):=by rw[AQ (by omega)];push_cast;rfl
  have e3:IntKind.i64.wrap (((4*t:Nat):Int)+3)=((4*t+3:Nat):Int):=by rw[AQ (by omega)];push_cast;rfl
  rw[e0,e1,e2,e3]
  simp only[Int.toNat_natCast,Nat.mul_one]
  have g:∀x,x<l->hc h1 (q.add x)=some (.int .u8 (bs.getD x 0)):=by
   intro x hx
   obtain⟨q',hq',g⟩:=XF (rd _ hs.drop.drop) (x:=x) hx
   injection hq' with hq'
   subst hq'
   exact g
  refine⟨q,rfl,by omega,by omega,_,g _ (by omega),by decide,q,rfl,by omega,by omega,_,g _ (by omega),by decide,q,rfl,by omega,by omega,_,g _ (by omega),by decide,q,rfl,by omega,by omega,_,g _ (by omega),by omega,by omega,?_⟩
  have hlen:=I3 bs t
  refine⟨Sat.can hs .z (by simp[hlen];omega),?_⟩
  intro h3 e
  replace hs:=Sat.wr hs .z e
  clear e
  rw[HR]at hs
  simp only[AG]at hs
  rw[A0 (by omega)]
  refine hk _ ?_
  show Sat h0 (blk wn (AA .u32 ((wM bs t).set t _))::blk rb (AA .u32 (AB 64))::A) h3
  rw[if_pos ht,Am4 (by omega),←AmQ (XJ hb _) (XJ hb _) (XJ hb _) (XJ hb _)]
  exact hs
 ·intro h1 hs
  apply hJ14
  rw[AD,if_neg (by decide)]
  clear hJ14 J14
  intro J27 hJ27
  refine BS 64 (fun t h=>16≤t/\Sat h0 (blk wn (AA .u32 (wM bs t))::blk rb (AA .u32 (AB 64))::A) h) ?_ ?_ 16 _ (by omega) ⟨by omega,hs⟩
  ·rintro t h2 ht ⟨ht2,hs⟩ hk
   apply hJ27
   rw[AD,if_pos (by simp;omega)]
   have hlen:=I3 bs t
   have e15:IntKind.i64.wrap ((t:Int)-15)=((t-15:Nat):Int):=by rw[AQ (by omega)];omega
   have e2:IntKind.i64.wrap ((t:Int)-2)=((t-2:Nat):Int):=by rw[AQ (by omega)];omega
   have e16:IntKind.i64.wrap ((t:Int)-16)=((t-16:Nat):Int):=by rw[AQ (by omega)];omega
   have e7:IntKind.i64.wrap ((t:Int)-7)=((t-7:Nat):Int):=by rw[AQ (by omega)];omega
   rw[e15,e2,e16,e7]
   simp only[Int.toNat_natCast,Nat.mul_one]
   have g:=fun(x:Nat) (hx:x<64)=>hs.ld (i:=0) (b:=wn) .z (E9 (k:=.u32) (l:=wM bs t) (i:=x) (by omega))
   refine⟨by omega,by omega,_,g _ (by omega),by omega,by omega,_,g _ (by omega),?_⟩
   refine IF _ 7 rfl (by decide) (by decide) ?_
   refine IF _ 18 rfl (by decide) (by decide) ?_
   refine⟨by decide,?_⟩
   refine IF _ 17 rfl (by decide) (by decide) ?_
   refine IF _ 19 rfl (by decide) (by decide) ?_
   refine⟨by decide,by omega,by omega,_,g _ (by omega),by omega,by omega,_,g _ (by omega),by omega,by omega,?_⟩
   refine⟨Sat.can hs .z (by simp[hlen];omega),?_⟩
   intro h3 e
   replace hs:=Sat.wr hs .z e
   clear e
   rw[HR]at hs
   simp only[AG]at hs
   rw[A0 (by omega)]
   refine hk _ ⟨by omega,?_⟩
   show Sat h0 (blk wn (AA .u32 ((wM bs t).set t _))::blk rb (AA .u32 (AB 64))::A) h3
   rw[if_neg (by omega)]
   exact hs
  ·rintro h2 ⟨_,hs⟩
   apply hJ27
   rw[AD,if_neg (by decide)]
   refine⟨_,I3 bs 64,hs.row0 .z,?_⟩
   refine⟨Sat.can hs zs1 (by simp[AB]),?_⟩
   intro h3 e
   replace hs:=Sat.wra hs zs1 e (by simp[AB,I3])
   clear e
   simp only[AV,AG]at hs
   exact⟨_,I3 bs 64,hs.row0 zs1,k _ hs.drop.drop⟩
theorem AjN{Q:List Int->HP}{s bs:List Int}{p:Option Addr}{l c:Nat}(hs:Sat h0 A h)(l1:s.length=8)(hb:BX bs)(hl:64≤l)(rd:∀h',Sat h0 A h'->hsv h' p 1 l (AA .u8 bs))(k:∀h',Sat h0 A h'->Q (HX s bs) h'):OP s p l c kM Q h:=by
 unfold OP dU
 try simp only[AI,Nat.zero_add,List.append_nil]
 intro sb _ hn;replace hs:=Sat.new hs hn
 intro kb _ hn;replace hs:=Sat.new hs hn
 intro rb _ hn;replace hs:=Sat.new hs hn
 refine AmR hs hb hl (fun h' hs'=>rd _ hs'.drop.drop.drop) ?_
 intro h1 hs
 obtain⟨w,hw⟩:∃w,w=wM bs 64:=⟨_,rfl⟩
 have hwl:w.length=64:=by rw[hw];exact I3 _ _
 rw[←hw]
 intro wn _ hn;replace hs:=Sat.new hs hn
 refine⟨Sat.can hs .z (by simp[AB]),?_⟩
 intro h2 e
 replace hs:=Sat.wra hs .z e (by simp[AB,hwl])
 clear e
 simp only[AG]at hs
 refine⟨s,l1,hs.row0 zs3,?_⟩
 intro sn _ hn;replace hs:=Sat.new hs hn
 refine⟨Sat.can hs .z (by simp[AB]),?_⟩
 intro h3 e
 replace hs:=Sat.wra hs .z e (by simp[AB,l1])
 clear e
 simp only[AG]at hs
 intro J31 hJ31
 refine BS 64 (fun t h=>Sat h0 (blk sn (AA .u32 (rM w s t))::blk wn (AA .u32 w)::blk rb (AA .u32 (AB 8))::blk kb (AA .u32 kM)::blk sb (AA .u32 s)::A) h) ?_ ?_ 0 _ (by omega) hs
 ·intro t h4 ht hs hk
  apply hJ31
  rw[AD,if_pos (by simp;omega)]
  obtain⟨a,b,c,dd,e,f,g,hh,hr⟩:=jM (YC w s l1 t)
  rw[hr]at hs
  simp only[Int.toNat_natCast,Nat.mul_one]
  have gk:hc h4 ⟨kb,t,none⟩=some (.int .u32 (kM.getD t 0)):=hs.ld zs3 (E9 (by rw[HT];omega))
  have gw:hc h4 ⟨wn,t,none⟩=some (.int .u32 (w.getD t 0)):=hs.ld zs1 (E9 (by omega))
  have g0:hc h4 ⟨sn,0,none⟩=some (.int .u32 a):=hs.ld .z rfl
  have g1:hc h4 ⟨sn,1,none⟩=some (.int .u32 b):=hs.ld .z rfl
  have g2:hc h4 ⟨sn,2,none⟩=some (.int .u32 c):=hs.ld .z rfl
  have g3:hc h4 ⟨sn,3,none⟩=some (.int .u32 dd):=hs.ld .z rfl
  have g4:hc h4 ⟨sn,4,none⟩=some (.int .u32 e):=hs.ld .z rfl
  have g5:hc h4 ⟨sn,5,none⟩=some (.int .u32 f):=hs.ld .z rfl
  have g6:hc h4 ⟨sn,6,none⟩=some (.int .u32 g):=hs.ld .z rfl
  have g7:hc h4 ⟨sn,7,none⟩=some (.int .u32 hh):=hs.ld .z rfl
  refine⟨by decide,by decide,_,g0,by decide,by decide,_,g4,by decide,by decide,_,g7,by decide,by decide,_,g5,by decide,by decide,_,g6,by omega,by omega,_,gk,by omega,by omega,_,gw,?_⟩
  refine IF _ 6 rfl (by decide) (by decide) ?_
  refine⟨AH gw,AH gk,AH g6,AH g5,AH g7,?_⟩
  refine IF _ 11 rfl (by decide) (by decide) ?_
  refine⟨AH gw,AH gk,AH g6,AH g5,AH g7,?_⟩
  refine IF _ 25 rfl (by decide) (by decide) ?_
  refine⟨AH gw,AH gk,AH g6,AH g5,AH g7,?_⟩
  refine⟨by decide,by decide,_,g1,by decide,by decide,_,g2,by decide,by decide,_,g1,by decide,by decide,_,g2,?_⟩
  refine IF _ 2 rfl (by decide) (by decide) ?_
  refine⟨AH g2,AH g1,AH g2,AH g1,?_⟩
  refine IF _ 13 rfl (by decide) (by decide) ?_
  refine⟨AH g2,AH g1,AH g2,AH g1,?_⟩
  refine IF _ 22 rfl (by decide) (by decide) ?_
  refine⟨AH g2,AH g1,AH g2,AH g1,?_⟩
  refine⟨by decide,by decide,_,g0,by decide,by decide,_,g1,by decide,by decide,_,g2,by decide,by decide,_,g3,by decide,by decide,_,g4,by decide,by decide,_,g5,by decide,by decide,_,g6,?_⟩
  refine⟨Sat.can hs .z (by simp),?_⟩
  intro h5 e5
  replace hs:=Sat.wra hs .z e5 (by simp)
  clear e5
  simp only[AG]at hs
  rw[A0 (by omega)]
  refine hk _ ?_
  show Sat h0 (blk sn (AA .u32 (Y2 (rM w s t) (kM.getD t 0) (w.getD t 0)))::blk wn (AA .u32 w)::blk rb (AA .u32 (AB 8))::blk kb (AA .u32 kM)::blk sb (AA .u32 s)::A) h5
  rw[hr]
  exact hs
 ·intro h4 hs
  apply hJ31
  rw[AD,if_neg (by decide)]
  clear hJ31 J31
  obtain⟨r,hr⟩:∃r,r=rM w s 64:=⟨_,rfl⟩
  have hrl:r.length=8:=by rw[hr];exact YC _ _ l1 _
  rw[←hr]at hs
  intro J66 hJ66
  refine BS 8 (fun t h=>Sat h0 (blk sn (AA .u32 r)::blk wn (AA .u32 w)::blk rb (AA .u32 (AB 8))::blk kb (AA .u32 kM)::blk sb (AA .u32 (aM s r t))::A) h) ?_ ?_ 0 _ (by omega) hs
  ·intro t h5 ht hs hk
   apply hJ66
   rw[AD,if_pos (by simp;omega)]
   have hal:=WD s r l1 t
   simp only[Int.toNat_natCast,Nat.mul_one]
   refine⟨by omega,by omega,_,hs.ld zs4 (E9 (by omega)),by omega,by omega,_,hs.ld .z (E9 (by omega)),by omega,by omega,?_⟩
   refine⟨Sat.can hs zs4 (by simp[hal];omega),?_⟩
   intro h6 e
   replace hs:=Sat.wr hs zs4 e
   clear e
   rw[HR]at hs
   simp only[AV,AG]at hs
   rw[A0 (by omega)]
   exact hk _ hs
  ·intro h5 hs
   apply hJ66
   rw[AD,if_neg (by decide)]
   have hpl:(aM s r 8).length=8:=WD s r l1 8
   refine⟨_,hpl,hs.row0 zs4,?_⟩
   refine⟨Sat.can hs zs2 (by simp[AB]),?_⟩
   intro h6 e
   replace hs:=Sat.wra hs zs2 e (by simp[AB,hpl])
   clear e
   simp only[AV,AG]at hs
   refine⟨_,hpl,hs.row0 zs2,?_⟩
   have:=k _ hs.drop.drop.drop.drop.drop
   unfold HX at this
   rw[←hw,←hr]at this
   exact this
end
theorem qE{a b:List Int}(hl:a.length=b.length)(h:∀x,x<a.length->a.getD x 0=b.getD x 0):a=b:=by
 apply List.ext_getElem hl
 intro i h1 h2
 have:=h i h1
 rwa [List.getD_eq_getElem?_getD,List.getD_eq_getElem?_getD,List.getElem?_eq_getElem h1,List.getElem?_eq_getElem h2]at this
theorem lF(n x:Nat):(AB n).getD x 0=0:=by
 unfold AB
 rw[List.getD_eq_getElem?_getD,List.getElem?_replicate];split <;> rfl
theorem pT(n:Nat):∀t x,t≤8->x<73->(GA n t).getD x 0=if x=0 then 128 else if 1+zM n≤x/\x<1+zM n+t then KF n (x-1-zM n) else 0
 | 0,x,_,hx=>by
  show ((AB 73).set 0 128).getD x 0=_
  rw[VL]
  by_cases c:x=0
  ·subst c;rfl
  ·rw[if_neg (by omega),if_neg c,if_neg (by omega),lF]
 | t+1,x,ht,hx=>by
  have hz:=TG n
  have ih:=pT n t x (by omega) hx
  show ((GA n t).set (1+zM n+t) (KF n t)).getD x 0=_
  rw[VL,WY]
  by_cases c:1+zM n+t=x
  ·subst c
   rw[if_pos ⟨rfl,hx⟩,if_neg (by omega),if_pos (by omega),show 1+zM n+t-1-zM n=t by omega]
  ·rw[if_neg (fun y=>c y.1),ih]
   by_cases c0:x=0
   ·rw[if_pos c0,if_pos c0]
   ·rw[if_neg c0,if_neg c0]
    by_cases c1:1+zM n≤x/\x<1+zM n+t
    ·rw[if_pos c1,if_pos (by omega)]
    ·rw[if_neg c1,if_neg (by omega)]
def KG(n:Nat):List Int:=(List.range 8).map (KF n)
theorem jN(n:Nat):(KG n).length=8:=by simp[KG]
theorem tG(n:Nat){t:Nat}(ht:t<8):(KG n).getD t 0=KF n t:=by
 unfold KG
 rw[List.getD_eq_getElem?_getD,List.getElem?_map,List.getElem?_range ht];rfl
theorem oZ(a b:List Int)(x:Nat):(a++b).getD x 0=if x<a.length then a.getD x 0 else b.getD (x-a.length) 0:=by
 rw[List.getD_eq_getElem?_getD]
 split
 ·rename_i c;rw[List.getElem?_append_left c,List.getD_eq_getElem?_getD]
 ·rename_i c;rw[List.getElem?_append_right (by omega),List.getD_eq_getElem?_getD]
theorem vR(n:Nat):LP n=[128]++AB (zM n)++KG n:=by
 have hz:=TG n
 have hzl:(AB (zM n)).length=zM n:=by simp[AB]
 refine qE ?_ ?_
 ·rw[Y5,List.length_append,List.length_append,hzl,jN];simp;omega
 ·intro x hx
  rw[Y5]at hx
  have e1:(LP n).getD x 0=(GA n 8).getD x 0:=by
   unfold LP
   rw[List.getD_eq_getElem?_getD,List.getElem?_take_of_lt hx,List.getD_eq_getElem?_getD]
  rw[e1,pT n 8 x (by omega) (by omega),oZ,oZ]
  simp only[List.length_append,List.length_cons,List.length_nil,hzl,Nat.zero_add]
  by_cases c0:x=0
  ·subst c0
   rw[if_pos rfl,if_pos (by omega),if_pos (by omega)];rfl
  ·rw[if_neg c0]
   by_cases c1:x<1+zM n
   ·rw[if_neg (by omega),if_pos c1,if_neg (by omega),lF]
   ·rw[if_pos (by omega),if_neg c1,tG n (by omega),show x-1-zM n=x-(1+zM n) by omega]
theorem iW(ms:List Int):(EP ms).length=ms.length+9+zM ms.length:=by
 unfold EP;rw[List.length_append,Y5];omega
theorem AgD(ms:List Int):(EP ms).length=64*((EP ms).length / 64):=by
 rw[iW];unfold zM;omega
theorem UZ{a b:List Int}(ha:BX a)(hb:BX b):BX (a++b):=fun v hv=>(List.mem_append.1 hv).elim (ha v) (hb v)
theorem sP(n:Nat):BX (AB n):=by
 intro v hv
 unfold AB at hv
 rw[List.mem_replicate]at hv
 omega
theorem AhI(n:Nat):BX (LP n):=by
 rw[vR]
 refine UZ (UZ ?_ (sP _)) ?_
 ·intro v hv
  simp only[List.mem_cons,List.not_mem_nil,or_false]at hv
  omega
 ·intro v hv
  unfold KG at hv
  obtain⟨i,_,rfl⟩:=List.mem_map.1 hv
  unfold KF
  rw[IntKind.wrap_u8];omega
theorem AhH{ms:List Int}(hb:BX ms)(i:Nat):BX (F9 ms i):=fun v hv=>hb v (List.mem_of_mem_drop (List.mem_of_mem_take hv))
theorem vT(l:List Int){t:Nat}(h:t<l.length):l.take (t+1)=l.take t++[l.getD t 0]:=by
 rw[List.take_succ,List.getElem?_eq_getElem h,List.getD_eq_getElem?_getD,List.getElem?_eq_getElem h];rfl
theorem MM(k:IntKind)(a b:List Int):AA k (a++b)=AA k a++AA k b:=by unfold AA;rw[List.map_append]
theorem MO{J:List SV->HP}{σ:Type}(N:Nat)(S:Nat->σ->List SV)(Inv:Nat->σ->HP)(step:∀i s h,i<N->Inv i s h->(∀s' h',Inv (i+1) s' h'->J (S (i+1) s') h')->J (S i s) h)
  (exit:∀s h,Inv N s h->J (S N s) h) (i:Nat) (s:σ) (h:H) (hi:i≤N) (inv:Inv i s h):J (S i s) h:=by
 generalize e:N-i=n
 induction n generalizing i s h with
 | zero=>
  have:i=N:=by omega
  subst this;exact exit s h inv
 | succ n ih=>exact step i s h (by omega) inv fun s' h' inv'=>ih (i+1) s' h' (by omega) inv' (by omega)
theorem AeE{h0 h:H}{A:List Ent}(hs:Sat h0 A h){i:Nat}{p:Option Addr}{l c sz:Nat}{vs:List Value}(m:At A i (slE p l c sz vs)):l≤c:=by
 obtain⟨f,hp,_⟩:=hs.take m
 obtain⟨bs,o,_⟩:=slE_P.1 hp
 exact o.2.1
section
variable {h0 h:H} {A:List Ent} {i d:Nat}
theorem AjE{Q:Option Addr->Nat->Nat->HP}{ms:List Int}{p:Option Addr}{l c:Nat}(hs:Sat h0 A h)(hl:l<2^46)(rd:∀h',Sat h0 A h'->hsv h' p 1 l (AA .u8 ms))
  (k:∀p' c' h',(EP ms).length≤c'->Sat h0 (slE p' (EP ms).length c' 1 (AA .u8 (EP ms))::A) h'->Q p' (EP ms).length c' h'):OO p l c Q h:=by
 unfold OO dT
 have hml:ms.length=l:=by have:=(rd _ hs).1;simpa using this
 have hz:=TG l
 refine⟨_,rd _ hs,?_⟩
 refine Sat.app_new hs (by simp[hml]) rfl (A9 _ _) (by omega) ?_
 intro p1 c1 h1 hs
 intro b _ hn;replace hs:=Sat.new hs hn
 refine⟨_,hs.bv (i:=0) (l:=1) .z rfl (A9 .u8 [128]),?_⟩
 refine Sat.app hs (i:=1) (vs:=AA .u8 [128]) zs1 rfl rfl (A9 _ _) (by omega) ?_
 intro p2 c2 h2 hs
 simp only[AV,AG]at hs
 rw[←MM]at hs
 replace hs:=hs.drop
 intro J18 hJ18
 refine MO (zM l) (fun t (s:Option Addr×Nat)=>[.dv (.one (.slice s.1 (l+1+t) s.2))]) (fun t s h=>Sat h0 (slE s.1 (l+1+t) s.2 1 (AA .u8 (ms++[128]++AB t))::A) h) ?_ ?_ 0 (p2,c2) _ (by omega) (by simpa[AB]using hs)
 ·rintro t ⟨p3,c3⟩ h3 ht hs hk
  dsimp only at hs hk ⊢
  apply hJ18
  refine⟨by decide,?_⟩
  have em:(((l+1+t:Nat):Int)).tmod 64=(((l+1+t) % 64:Nat):Int):=by rw[Int.tmod_eq_emod_of_nonneg (by omega)];omega
  rw[em,if_pos (by
   rw[bne_iff_ne]
   intro y
   unfold zM at ht
   omega)]
  intro b _ hn;replace hs:=Sat.new hs hn
  refine⟨_,hs.bv (i:=0) (l:=1) .z rfl (A9 .u8 [0]),?_⟩
  refine Sat.app hs (i:=1) (vs:=AA .u8 [0]) zs1 rfl rfl (A9 _ _) (by omega) ?_
  intro p4 c4 h4 hs
  simp only[AV,AG]at hs
  rw[←MM]at hs
  refine hk (p4,c4) h4 ?_
  have ez:ms++[128]++AB (t+1)=ms++[128]++AB t++[0]:=by
   unfold AB
   rw[List.replicate_succ',List.append_assoc,List.append_assoc,List.append_assoc]
  dsimp only
  rw[ez]
  exact hs.drop
 ·rintro⟨p3,c3⟩ h3 hs
  dsimp only at hs ⊢
  apply hJ18
  clear hJ18
  refine⟨by decide,?_⟩
  have em:(((l+1+zM l:Nat):Int)).tmod 64=56:=by
   rw[Int.tmod_eq_emod_of_nonneg (by omega)]
   unfold zM
   omega
  rw[em,if_neg (by decide)]
  have ew:IntKind.u64.wrap (8*IntKind.u64.wrap (l:Int))=IntKind.u64.wrap (8*(l:Int)):=by rw[TF (l:Int),TF,TF];omega
  rw[ew]
  intro J31 hJ31
  refine MO 8 (fun t (s:Option Addr×Nat)=>[.dv (.one (.slice s.1 (l+1+zM l+t) s.2)),.dv (.one (.int .i64 (7-(t:Int))))]) (fun t s h=>Sat h0 (slE s.1 (l+1+zM l+t) s.2 1 (AA .u8 (ms++[128]++AB (zM l)++(KG l).take t))::A) h) ?_ ?_ 0 (p3,c3) _ (by omega) (by simpa using hs)
  ·rintro t ⟨p4,c4⟩ h4 ht hs hk
   dsimp only at hs hk ⊢
   apply hJ31
   rw[BQ,if_pos (by rw[decide_eq_true_iff];omega)]
   have e8:IntKind.i64.wrap (8*(7-(t:Int)))=((56-8*t:Nat):Int):=by rw[AQ (by omega)];omega
   rw[e8]
   simp only[Int.toNat_natCast]
   refine⟨by omega,?_⟩
   intro b _ hn;replace hs:=Sat.new hs hn
   refine⟨_,hs.bv (i:=0) (l:=1) .z rfl (A9 .u8 [KF l t]),?_⟩
   refine Sat.app hs (i:=1) (vs:=AA .u8 [KF l t]) zs1 rfl rfl (A9 _ _) (by omega) ?_
   intro p5 c5 h5 hs
   simp only[AV,AG]at hs
   rw[←MM]at hs
   have e1:IntKind.i64.wrap (7-(t:Int)-1)=7-((t+1:Nat):Int):=by rw[AQ (by omega)];omega
   rw[e1]
   refine hk (p5,c5) h5 ?_
   dsimp only
   rw[vT _ (by rw[jN];exact ht),tG l ht,←List.append_assoc]
   exact hs.drop
  ·rintro⟨p4,c4⟩ h4 hs
   dsimp only at hs ⊢
   apply hJ31
   rw[BQ,if_neg (by decide)]
   rw[List.take_of_length_le (by rw[jN];exact Nat.le_refl _)]at hs
   have ef:ms++[128]++AB (zM l)++KG l=EP ms:=by
    unfold EP
    rw[vR,hml,List.append_assoc,List.append_assoc,List.append_assoc]
   have efl:(EP ms).length=l+1+zM l+8:=by rw[iW,hml];omega
   rw[ef]at hs
   have K:=k p4 c4 h4
   rw[efl]at K
   exact K (AeE hs .z) hs
theorem kC{Q:List Int->HP}{ms:List Int}{p:Option Addr}{l c:Nat}(hs:Sat h0 A h)(hb:BX ms)(hl:l<2^46)(rd:∀h',Sat h0 A h'->hsv h' p 1 l (AA .u8 ms))(k:∀h',Sat h0 A h'->Q (EI ms) h'):JN p l c Q h:=by
 unfold JN dR
 try simp only[AI,Nat.zero_add,List.append_nil]
 have hml:ms.length=l:=by have:=(rd _ hs).1;simpa using this
 intro rb _ hn;replace hs:=Sat.new hs hn
 refine AjE (ms:=ms) hs hl (fun h' hs'=>rd _ hs'.drop) ?_
 intro p1 c1 h1 hc1 hs
 obtain⟨F,hF⟩:∃F,F=EP ms:=⟨_,rfl⟩
 have hbF:BX F:=by rw[hF];unfold EP;exact UZ hb (AhI _)
 have hFl:F.length<2^47:=by rw[hF,iW,hml];have:=TG l;omega
 obtain⟨N,hN⟩:∃N,N=F.length / 64:=⟨_,rfl⟩
 have h64:F.length=64*N:=by rw[hN,hF];exact AgD ms
 rw[←hF]at hs hc1 ⊢
 rw[h64]at hs hc1 ⊢
 unfold TQ dS
 try simp only[AI,Nat.zero_add,List.append_nil]
 intro bb _ hn;replace hs:=Sat.new hs hn
 refine⟨Sat.can hs .z (by simp[AB]),?_⟩
 intro h2 e
 replace hs:=Sat.wra hs .z e (by simp[AB])
 clear e
 simp only[AG]at hs
 refine⟨sM,rfl,hs.row0 .z,?_⟩
 replace hs:=hs.drop
 intro sb _ hn;replace hs:=Sat.new hs hn
 refine⟨Sat.can hs .z (by simp[AB,sM]),?_⟩
 intro h3 e
 replace hs:=Sat.wra hs .z e (by simp[AB,sM])
 clear e
 simp only[AG]at hs
 unfold TR dV
 try simp only[AI,Nat.zero_add,List.append_nil]
 intro kb _ hn;replace hs:=Sat.new hs hn
 refine⟨Sat.can hs .z (by simp[AB]),?_⟩
 intro h4 e
 replace hs:=Sat.wra hs .z e (by simp[AB])
 clear e
 simp only[AG]at hs
 refine⟨kM,rfl,hs.row0 .z,?_⟩
 replace hs:=hs.drop
 intro kc _ hn;replace hs:=Sat.new hs hn
 refine⟨Sat.can hs .z (by simp[AB,HT]),?_⟩
 intro h5 e
 replace hs:=Sat.wra hs .z e (by simp[AB,HT])
 clear e
 simp only[AG]at hs
 intro J30 hJ30
 refine MO N (fun t (_:Unit)=>[.dv (.one (.int .i64 ((64*t:Nat):Int)))]) (fun t _ h=>Sat h0 (blk kc (AA .u32 kM)::blk sb (AA .u32 (stM F t))::slE p1 (64*N) c1 1 (AA .u8 F)::blk rb (AA .u8 (AB 32))::A) h) ?_ ?_ 0 () _ (by omega) hs
 ·rintro t _ h6 ht hs hk
  apply hJ30
  rw[AD,if_pos (by rw[decide_eq_true_iff];omega)]
  have e64:IntKind.i64.wrap (((64*t:Nat):Int)+64)=((64*(t+1):Nat):Int):=by rw[AQ (by omega)];push_cast;omega
  rw[e64]
  simp only[Int.toNat_natCast]
  have hsl:=VP F t
  refine⟨stM F t,hsl,hs.row0 zs1,by omega,by omega,by omega,kM,HT,hs.row0 .z,?_⟩
  rw[show 64*(t+1)-64*t=64 by omega]
  refine AjN (bs:=F9 F t) hs hsl (AhH hbF t) (Nat.le_refl _) (fun h' hs'=>M2 (o:=64*t) (n:=64) (m:=c1) (hs'.sv zs2) (by omega) (by omega)) ?_
  intro h7 hs
  have hpl:(HX (stM F t) (F9 F t)).length=8:=t7 hsl
  refine⟨Sat.can hs zs1 (by simp[hsl]),?_⟩
  intro h8 e
  replace hs:=Sat.wra hs zs1 e (by simp[hsl,hpl])
  clear e
  simp only[AV,AG]at hs
  exact hk () _ hs
 ·rintro _ h6 hs
  apply hJ30
  clear hJ30
  rw[AD,if_neg (by rw[decide_eq_true_iff];omega)]
  obtain⟨S,hS⟩:∃S,S=stM F N:=⟨_,rfl⟩
  have hSl:S.length=8:=by rw[hS];exact VP F N
  have hsh:EI ms=oM S 32:=by unfold EI;rw[←hF,←hN,hS]
  rw[←hS]at hs
  intro ob _ hn;replace hs:=Sat.new hs hn
  refine⟨Sat.can hs .z (by simp[AB]),?_⟩
  intro h7 e
  replace hs:=Sat.wra hs .z e rfl
  clear e
  simp only[AG]at hs
  intro J44 hJ44
  refine BS 32 (fun t h=>Sat h0 (blk ob (AA .u8 (oM S t))::blk kc (AA .u32 kM)::blk sb (AA .u32 S)::slE p1 (64*N) c1 1 (AA .u8 F)::blk rb (AA .u8 (AB 32))::A) h) ?_ ?_ 0 _ (by omega) hs
  ·intro t h8 ht hs hk
   apply hJ44
   rw[AD,if_pos (by simp;omega)]
   have hol:=P7 S t
   have ed:IntKind.i64.wrap ((t:Int).tdiv 4)=((t / 4:Nat):Int):=by
    rw[Int.tdiv_eq_ediv_of_nonneg (by omega),AQ (by omega)];omega
   have em:IntKind.i64.wrap (24-IntKind.i64.wrap (8*(t:Int).tmod 4))=((24-8*(t % 4):Nat):Int):=by
    rw[Int.tmod_eq_emod_of_nonneg (by omega),AQ (n:=8*((t:Int) % 4)) (by omega),AQ (by omega)];omega
   rw[ed,em]
   simp only[Int.toNat_natCast,Nat.mul_one]
   refine⟨by decide,by omega,by omega,_,hs.ld zs2 (E9 (by omega)),by decide,by omega,by omega,by omega,?_⟩
   refine⟨Sat.can hs .z (by simp[hol];omega),?_⟩
   intro h9 e
   replace hs:=Sat.wr hs .z e
   clear e
   rw[HR]at hs
   simp only[AG]at hs
   rw[A0 (by omega)]
   exact hk _ hs
  ·intro h8 hs
   apply hJ44
   rw[AD,if_neg (by decide)]
   rw[←hsh]at hs
   refine⟨_,CY ms,hs.row0 .z,?_⟩
   refine⟨Sat.can hs zs4 (by simp[AB]),?_⟩
   intro h9 e
   replace hs:=Sat.wra hs zs4 e (by simp[AB,CY])
   clear e
   simp only[AV,AG]at hs
   exact⟨_,CY ms,hs.row0 zs4,k _ hs.drop.drop.drop.drop.drop⟩
end
def ovM(x:Int)(bs:List Int):List Int:=bs.map fun b=>bits .xor .u8 b x
theorem An3(a b:Int):0≤bits .xor .u8 a b/\bits .xor .u8 a b<256:=by
 have:bits .xor .u8 a b=IntKind.u8.wrap ((BitVec.ofInt 8 a ^^^ BitVec.ofInt 8 b).toNat:Int):=rfl
 rw[this,IntKind.wrap_u8];omega
theorem sN(x:Int)(bs:List Int):BX (ovM x bs):=by
 intro v hv
 unfold ovM at hv
 obtain⟨b,_,rfl⟩:=List.mem_map.1 hv
 exact An3 _ _
theorem wU(kb:List Int)(x:Int):∀t j,t≤64->j<64->(xM kb x t).getD j 0=if j<t then bits .xor .u8 (kb.getD j 0) x else 0
 | 0,j,_,hj=>by
  show (AB 64).getD j 0=_
  rw[if_neg (by omega),lF]
 | t+1,j,ht,hj=>by
  have ih:=wU kb x t j (by omega) hj
  show ((xM kb x t).set t _).getD j 0=_
  rw[VL,IH,ih]
  by_cases c:t=j
  ·subst c
   rw[if_pos ⟨rfl,hj⟩,if_pos (by omega)]
  ·rw[if_neg (fun y=>c y.1)]
   by_cases c1:j<t
   ·rw[if_pos c1,if_pos (by omega)]
   ·rw[if_neg c1,if_neg (by omega)]
theorem Y9{kb:List Int}(x:Int)(h:kb.length=64):xM kb x 64=ovM x kb:=by
 refine qE (by rw[IH];simp[ovM,h]) ?_
 intro j hj
 rw[IH]at hj
 rw[wU kb x 64 j (by decide) hj,if_pos hj]
 unfold ovM
 rw[List.getD_eq_getElem?_getD,List.getD_eq_getElem?_getD,List.getElem?_map,List.getElem?_eq_getElem (by omega)]
 rfl
theorem sO(ms:List Int):BX (EI ms):=by
 have:∀s t,BX (oM s t):=by
  intro s t
  induction t with
  | zero=>exact sP 32
  | succ t ih=>
   intro v hv
   have hv:v∈(oM s t).set t (VA s t):=hv
   rcases List.mem_or_eq_of_mem_set hv with h | h
   ·exact ih v h
   ·rw[h];unfold VA;rw[IntKind.wrap_u8];omega
 exact this _ _
theorem sK(key b:List Int):BX (BC key b):=sO _
section
variable {h0 h:H} {A:List Ent} {i d:Nat}
theorem qJ{Q:Option Addr->Nat->Nat->HP}{ms:List Int}{p:Option Addr}{l c:Nat}(hs:Sat h0 (slE p l c 1 (AA .u8 ms)::A) h)(hl:l≤64)
  (k:∀p' c' h',Sat h0 (slE p' 64 c' 1 (AA .u8 (ms++AB (64-l)))::A) h'->Q p' 64 c' h'):
  ∀(J21:List SV->HP),(∀(o22:Option Addr) (n23 n24:Nat) (h25:H),(if ltI (n23:Int) 64=true then ∀(n26:Nat) (h27:H),hnew h25 n26 [.int .u8 0] h27->∃l29:List Value,hsv h27 (some ⟨n26,0,none⟩) 1 1 l29/\AZ h27 1 [.int .u8 0] 1 o22 n23 n24 1 l29 fun o30 n31 n32 h33=>J21 [.dv (.one (.slice o30 n31 n32))] h33
   else Q o22 n23 n24 h25)->J21 [.dv (.one (.slice o22 n23 n24))] h25)->J21 [.dv (.one (.slice p l c))] h:=by
 intro J hJ
 refine MO (64-l) (fun t (s:Option Addr×Nat)=>[.dv (.one (.slice s.1 (l+t) s.2))]) (fun t s h=>Sat h0 (slE s.1 (l+t) s.2 1 (AA .u8 (ms++AB t))::A) h) ?_ ?_ 0 (p,c) _ (by omega) (by simpa[AB]using hs)
 ·rintro t ⟨p3,c3⟩ h3 ht hs hk
  dsimp only at hs hk ⊢
  apply hJ
  rw[AD,if_pos (by rw[decide_eq_true_iff];omega)]
  intro b _ hn;replace hs:=Sat.new hs hn
  refine⟨_,hs.bv (i:=0) (l:=1) .z rfl (A9 .u8 [0]),?_⟩
  refine Sat.app hs (i:=1) (vs:=AA .u8 [0]) zs1 rfl rfl (A9 _ _) (by omega) ?_
  intro p4 c4 h4 hs
  simp only[AV,AG]at hs
  rw[←MM]at hs
  refine hk (p4,c4) h4 ?_
  have ez:ms++AB (t+1)=ms++AB t++[0]:=by
   unfold AB
   rw[List.replicate_succ',List.append_assoc]
  dsimp only
  rw[ez]
  exact hs.drop
 ·rintro⟨p3,c3⟩ h3 hs
  dsimp only at hs ⊢
  apply hJ
  have e64:l+(64-l)=64:=by omega
  rw[e64]at hs ⊢
  rw[AD,if_neg (by decide)]
  exact k _ _ _ hs
theorem AdW{Q:Option Addr->Nat->Nat->HP}{key:List Int}{p:Option Addr}{l c:Nat}(hs:Sat h0 A h)(hb:BX key)(hl:l<2^46)(rd:∀h',Sat h0 A h'->hsv h' p 1 l (AA .u8 key))
  (k:∀p' c' h',Sat h0 (slE p' 64 c' 1 (AA .u8 (kbM key))::A) h'->Q p' 64 c' h'):OS p l c Q h:=by
 unfold OS dZ
 try simp only[AI,Nat.zero_add,List.append_nil]
 have hkl:key.length=l:=by have:=(rd _ hs).1;simpa using this
 intro eb _ hn;replace hs:=Sat.new hs hn
 rw[AD]
 by_cases g:64<l
 ·rw[if_pos (by rw[decide_eq_true_iff];omega)]
  have ek:EY key=EI key:=by unfold EY;rw[if_pos (by omega)]
  have ekb:kbM key=EI key++AB (64-32):=by unfold kbM;rw[ek,CY]
  refine kC (ms:=key) hs hb hl (fun h' hs'=>rd _ hs'.drop) ?_
  intro h1 hs
  intro hb' _ hn;replace hs:=Sat.new hs hn
  refine⟨Sat.can hs .z (by simp[AB]),?_⟩
  intro h2 e
  replace hs:=Sat.wra hs .z e (by simp[AB,CY])
  clear e
  simp only[AG]at hs
  have FC:AK (some ⟨hb',0,none⟩) 0 32 1=some ⟨hb',0,none⟩:=by unfold AK;simp
  rw[FC]
  refine⟨_,hs.bv (i:=0) (l:=32) .z (by simp[CY]) (A9 _ _),?_⟩
  refine Sat.app_new hs (by simp[CY]) rfl (A9 _ _) (by decide) ?_
  intro p3 c3 h3 hs
  refine qJ hs (by decide) ?_
  intro p4 c4 h4 hs
  rw[←ekb]at hs
  exact k _ _ _ (hs.sub (by(repeat (first | exact List.Sublist.refl _ | apply List.Sublist.cons_cons | apply List.Sublist.cons))))
 ·rw[if_neg (by rw[decide_eq_true_iff];omega)]
  have ek:EY key=key:=by unfold EY;rw[if_neg (by omega)]
  have ekb:kbM key=key++AB (64-l):=by unfold kbM;rw[ek,hkl]
  refine⟨_,rd _ hs.drop,?_⟩
  refine Sat.app_new hs (by simp[hkl]) rfl (A9 _ _) (by omega) ?_
  intro p3 c3 h3 hs
  refine qJ hs (by omega) ?_
  intro p4 c4 h4 hs
  rw[←ekb]at hs
  exact k _ _ _ (hs.sub (by(repeat (first | exact List.Sublist.refl _ | apply List.Sublist.cons_cons | apply List.Sublist.cons))))
theorem tX{Q:Option Addr->Nat->Nat->HP}{bs:List Int}{p:Option Addr}{l c:Nat}(x:Int)(hs:Sat h0 A h)(hl:l<2^46)(rd:∀h',Sat h0 A h'->hsv h' p 1 l (AA .u8 bs))
  (k:∀p' c' h',Sat h0 (slE p' l c' 1 (AA .u8 (ovM x bs))::A) h'->Q p' l c' h'):OT p l c x Q h:=by
 unfold OT eA
 have hbl:bs.length=l:=by have:=(rd _ hs).1;simpa using this
 intro eb _ hn;replace hs:=Sat.new hs hn
 intro J hJ
 refine MO l (fun t (s:Option Addr×Nat)=>[.dv (.one (.slice s.1 t s.2)),si t]) (fun t s h=>Sat h0 (slE s.1 t s.2 1 (AA .u8 (ovM x (bs.take t)))::A) h) ?_ ?_ 0 (some ⟨eb,0,none⟩,0) _ (by omega) (by simpa[ovM]using hs.drop.sl_nil 1 _)
 ·rintro t ⟨p3,c3⟩ h3 ht hs hk
  dsimp only at hs hk ⊢
  apply hJ
  rw[AD,if_pos (by rw[decide_eq_true_iff];omega)]
  obtain⟨q,hq,g⟩:=XF (rd _ hs.drop) (x:=t) ht
  refine⟨q,hq,by omega,by omega,?_⟩
  simp only[Int.toNat_natCast,Nat.mul_one]
  refine⟨_,g,?_⟩
  intro b _ hn;replace hs:=Sat.new hs hn
  refine⟨_,hs.bv (i:=0) (l:=1) .z rfl (A9 .u8 [bits .xor .u8 (bs.getD t 0) x]),?_⟩
  refine Sat.app hs (i:=1) (vs:=AA .u8 [bits .xor .u8 (bs.getD t 0) x]) zs1 rfl rfl (A9 _ _) (by omega) ?_
  intro p4 c4 h4 hs
  simp only[AV,AG]at hs
  rw[←MM]at hs
  rw[A0 (by omega)]
  refine hk (p4,c4) h4 ?_
  dsimp only
  rw[vT bs (by omega)]
  have:ovM x (bs.take t++[bs.getD t 0])=ovM x (bs.take t)++[bits .xor .u8 (bs.getD t 0) x]:=by unfold ovM;rw[List.map_append];rfl
  rw[this]
  exact hs.drop
 ·rintro⟨p3,c3⟩ h3 hs
  dsimp only at hs ⊢
  apply hJ
  rw[AD,if_neg (by simp)]
  rw[List.take_of_length_le (by omega)]at hs
  exact k _ _ _ hs
theorem AkJ{Q:List Int->HP}{key b:List Int}{kp bp:Option Addr}{kl kc bl bc:Nat}(hs:Sat h0 A h)(hkb:BX key)(hbb:BX b)(hk:kl<2^45)(hb:bl<2^45)(rk:∀h',Sat h0 A h'->hsv h' kp 1 kl (AA .u8 key))(rb:∀h',Sat h0 A h'->hsv h' bp 1 bl (AA .u8 b))
  (k:∀h',Sat h0 A h'->Q (BC key b) h'):OR kp kl kc bp bl bc Q h:=by
 unfold OR dY
 try simp only[AI,Nat.zero_add,List.append_nil]
 have hbl:b.length=bl:=by have:=(rb _ hs).1;simpa using this
 intro ob _ hn;replace hs:=Sat.new hs hn
 refine AdW (key:=key) hs hkb (by omega) (fun h' hs'=>rk _ hs'.drop) ?_
 intro p1 c1 h1 hs
 have hkl:=sS key
 refine tX 54 hs (by decide) (fun h' hs'=>hs'.sv .z) ?_
 intro p2 c2 h2 hs
 rw[←Y9 54 hkl]at hs
 refine⟨_,rb _ hs.drop.drop.drop,?_⟩
 refine Sat.app hs (i:=0) (vs:=AA .u8 b) .z (by simp[hbl]) rfl (A9 _ _) (by omega) ?_
 intro p3 c3 h3 hs
 simp only[AG]at hs
 rw[←MM]at hs
 have bi:BX (xM (kbM key) 54 64):=by rw[Y9 54 hkl];exact sN _ _
 have bo:BX (xM (kbM key) 92 64):=by rw[Y9 92 hkl];exact sN _ _
 refine kC (ms:=ML key++b) hs (UZ bi hbb) (by omega) (fun h' hs'=>hs'.sv .z) ?_
 intro h4 hs
 obtain⟨I,hI⟩:∃I,I=EI (ML key++b):=⟨_,rfl⟩
 have hIl:I.length=32:=by rw[hI];exact CY _
 have hIb:BX I:=by rw[hI];exact sO _
 rw[←hI]
 intro hb' _ hn;replace hs:=Sat.new hs hn
 refine⟨Sat.can hs .z (by simp[AB]),?_⟩
 intro h5 e
 replace hs:=Sat.wra hs .z e (by simp[AB,hIl])
 clear e
 simp only[AG]at hs
 refine tX 92 hs (by decide) (fun h' hs'=>hs'.sv zs2) ?_
 intro p6 c6 h6 hs
 rw[←Y9 92 hkl]at hs
 refine⟨_,hs.bv (i:=1) (l:=32) zs1 (by simp[hIl]) (A9 _ _),?_⟩
 refine Sat.app hs (i:=0) (vs:=AA .u8 I) .z (by simp[hIl]) rfl (A9 _ _) (by decide) ?_
 intro p7 c7 h7 hs
 simp only[AG]at hs
 rw[←MM]at hs
 refine kC (ms:=IX key++I) hs (UZ bo hIb) (by decide) (fun h' hs'=>hs'.sv .z) ?_
 intro h8 hs
 have em:EI (IX key++I)=BC key b:=by unfold BC;rw[hI]
 rw[em]
 refine⟨Sat.can hs zs4 (by simp[AB]),?_⟩
 intro h9 e
 replace hs:=Sat.wra hs zs4 e (by simp[AB,G3])
 clear e
 simp only[AV,AG]at hs
 exact⟨_,G3 _ _,hs.row0 zs4,k _ hs.drop.drop.drop.drop.drop⟩
end
end Go.Proofs.YteedolonhdbieaaGreatDoor
end
