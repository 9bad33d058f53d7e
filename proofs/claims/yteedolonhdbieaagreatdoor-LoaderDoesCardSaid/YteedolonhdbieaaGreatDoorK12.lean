/- LoaderDoes and its parts, laid together by a program of ours: Rs1 Rs2 Rm1 Tm2 Au Tm3 Tm4 To1 Tq1 Ch8 -/
import Derived.Test.YteedolonhdbieaaGreatDoorK11
set_option autoImplicit false
set_option linter.all false
section
namespace Go.Proofs.YteedolonhdbieaaGreatDoor
open Go Go.Vc
set_option maxRecDepth 100000
def BU(bs:List Int):Prop:=∀n,n∈bs->0≤n/\n<256
theorem aB{bs:List Int}(hb:BU bs)(x:Nat):0≤bs.getD x 0/\bs.getD x 0<256:=by
 rw[List.getD_eq_getElem?_getD]
 cases e:bs[x]? with
 | none=>exact⟨by decide,by decide⟩
 | some v=>exact hb v (List.mem_iff_getElem?.2 ⟨x,e⟩)
theorem AnB(a b:Int):bits .or .u32 a b=bits .or .u32 b a:=by
 have e:∀x y:Int,bits .or .u32 x y=IntKind.u32.wrap ((BitVec.ofInt 32 x ||| BitVec.ofInt 32 y).toNat:Int):=fun _ _=>rfl
 rw[e,e,BitVec.or_comm]
theorem G0(n:Int):IntKind.u32.wrap n=n % 4294967296:=by simp[IntKind.wrap,IntKind.signed,IntKind.bits]
theorem AnD{x y:Nat}(hx:x<2^32)(hy:y<2^32):bits .or .u32 (x:Int) (y:Int)=((x ||| y:Nat):Int):=by
 have:bits .or .u32 (x:Int) (y:Int)=IntKind.u32.wrap ((BitVec.ofInt 32 (x:Int) ||| BitVec.ofInt 32 (y:Int)).toNat:Int):=rfl
 rw[this,BitVec.ofInt_natCast,BitVec.ofInt_natCast,BitVec.toNat_or,BitVec.toNat_ofNat,BitVec.toNat_ofNat,Nat.mod_eq_of_lt hx,Nat.mod_eq_of_lt hy,G0]
 have h3:x ||| y<2^32:=Nat.or_lt_two_pow hx hy
 omega
theorem OI{a b k:Nat}(hb:b<2^k)(h:2^k*a+b<2^32):bits .or .u32 ((2^k*a:Nat):Int) (b:Int)=((2^k*a+b:Nat):Int):=by
 rw[AnD (by omega) (by omega),←Nat.two_pow_add_eq_or_of_lt hb]
theorem AqS{a b c d:Int}(ha:0≤a/\a<256)(hb:0≤b/\b<256)(hc:0≤c/\c<256)(hd:0≤d/\d<256):
  bits .or .u32 (bits .or .u32 (bits .or .u32 (IntKind.u32.wrap (IntKind.u32.wrap a*2^24)) (IntKind.u32.wrap (IntKind.u32.wrap b*2^16))) (IntKind.u32.wrap (IntKind.u32.wrap c*2^8))) (IntKind.u32.wrap d)=FO [a,b,c,d] 4:=by
 obtain⟨a,rfl⟩:=Int.eq_ofNat_of_zero_le ha.1
 obtain⟨b,rfl⟩:=Int.eq_ofNat_of_zero_le hb.1
 obtain⟨c,rfl⟩:=Int.eq_ofNat_of_zero_le hc.1
 obtain⟨d,rfl⟩:=Int.eq_ofNat_of_zero_le hd.1
 have wa:IntKind.u32.wrap (a:Int)=(a:Int):=by rw[G0];omega
 have wb:IntKind.u32.wrap (b:Int)=(b:Int):=by rw[G0];omega
 have wc:IntKind.u32.wrap (c:Int)=(c:Int):=by rw[G0];omega
 have wd:IntKind.u32.wrap (d:Int)=(d:Int):=by rw[G0];omega
 have x24:IntKind.u32.wrap ((a:Int)*2^24)=((2^24*a:Nat):Int):=by rw[G0];omega
 have x16:IntKind.u32.wrap ((b:Int)*2^16)=((2^16*b:Nat):Int):=by rw[G0];omega
 have x8:IntKind.u32.wrap ((c:Int)*2^8)=((2^8*c:Nat):Int):=by rw[G0];omega
 rw[wa,wb,wc,wd,x24,x16,x8]
 rw[OI (by omega) (by omega)]
 have e1:(2^24*a+2^16*b:Nat)=2^16*(2^8*a+b):=by omega
 rw[e1,OI (by omega) (by omega)]
 have e2:(2^16*(2^8*a+b)+2^8*c:Nat)=2^8*(2^16*a+2^8*b+c):=by omega
 rw[e2,OI (by omega) (by omega)]
 have s0:FO [(a:Int),b,c,d] 1=((2^0*0+a:Nat):Int):=by
  show bits .or .u32 (IntKind.u32.wrap (0*2^8)) (IntKind.u32.wrap (a:Int))=_
  rw[wa]
  exact OI (k:=8) (a:=0) (b:=a) (by omega) (by omega)
 have s1:FO [(a:Int),b,c,d] 2=((2^8*a+b:Nat):Int):=by
  show bits .or .u32 (IntKind.u32.wrap (FO [(a:Int),b,c,d] 1*2^8)) (IntKind.u32.wrap (b:Int))=_
  rw[s0,wb,show IntKind.u32.wrap (((2^0*0+a:Nat):Int)*2^8)=((2^8*a:Nat):Int) by rw[G0];omega]
  exact OI (by omega) (by omega)
 have s2:FO [(a:Int),b,c,d] 3=((2^8*(2^8*a+b)+c:Nat):Int):=by
  show bits .or .u32 (IntKind.u32.wrap (FO [(a:Int),b,c,d] 2*2^8)) (IntKind.u32.wrap (c:Int))=_
  rw[s1,wc,show IntKind.u32.wrap (((2^8*a+b:Nat):Int)*2^8)=((2^8*(2^8*a+b):Nat):Int) by rw[G0];omega]
  exact OI (by omega) (by omega)
 have s3:FO [(a:Int),b,c,d] 4=((2^8*(2^8*(2^8*a+b)+c)+d:Nat):Int):=by
  show bits .or .u32 (IntKind.u32.wrap (FO [(a:Int),b,c,d] 3*2^8)) (IntKind.u32.wrap (d:Int))=_
  rw[s2,wd,show IntKind.u32.wrap (((2^8*(2^8*a+b)+c:Nat):Int)*2^8)=((2^8*(2^8*(2^8*a+b)+c):Nat):Int) by rw[G0];omega]
  exact OI (by omega) (by omega)
 rw[s3]
 congr 1
 omega
theorem AqB{bs:List Int}{o:Nat}(h:o+4≤bs.length):(bs.drop o).take 4=[bs.getD o 0,bs.getD (o+1) 0,bs.getD (o+2) 0,bs.getD (o+3) 0]:=by
 apply List.ext_getElem (by simp;omega)
 intro i h1 h2
 simp only[List.length_cons,List.length_nil,Nat.zero_add]at h2
 rw[List.getElem_take,List.getElem_drop]
 have g:∀x (hx:x<bs.length),bs.getD x 0=bs[x]:=fun x hx=>by rw[List.getD_eq_getElem?_getD,List.getElem?_eq_getElem hx];rfl
 have:i=0∨i=1∨i=2∨i=3:=by omega
 rcases this with rfl | rfl | rfl | rfl
 ·exact (g o (by omega)).symm
 ·exact (g (o+1) (by omega)).symm
 ·exact (g (o+2) (by omega)).symm
 ·exact (g (o+3) (by omega)).symm
section
variable {h0 h:H} {A:List Ent} {i d:Nat}
theorem IN{Q:Int->HP}(x:Int)(m:Nat){mi:Int}(e:mi=(m:Int))(h1:1≤m)(h2:m<32)(q:Q (FH x m) h):KE x mi Q h:=by
 subst e
 unfold KE jB
 have e:IntKind.i64.wrap (32-(m:Int))=((32-m:Nat):Int):=by rw[AL (by omega)];omega
 rw[e]
 refine⟨by omega,by omega,?_⟩
 rw[Int.toNat_natCast,Int.toNat_natCast,Nat.min_eq_left (by omega),Nat.min_eq_left (by omega),AnB]
 exact q
theorem AqT{Q:List Int->HP}{bs:List Int}{p:Option Addr}{l c:Nat}(hs:Sat h0 A h)(hb:BU bs)(hl:64≤l)(rd:∀h',Sat h0 A h'->hsv h' p 1 l (AA .u8 bs))(k:∀h',Sat h0 A h'->Q (wM bs 64) h'):QL p l c Q h:=by
 unfold QL jC
 try simp only[AF,Nat.zero_add,List.append_nil]
 have hbl:bs.length=l:=by have:=(rd _ hs).1;simpa using this
 intro rb _ hn;replace hs:=Sat.new hs hn
 intro wn _ hn;replace hs:=Sat.new hs hn
 refine⟨Sat.can hs .z (by simp[AB]),?_⟩
 intro h2 e
 replace hs:=Sat.wra hs .z e rfl
 clear e
 simp only[AG]at hs
 obtain⟨q,hq,_⟩:=Z8 (rd _ hs.drop.drop) (x:=0) (by omega)
 subst hq
 intro J14 hJ14
 refine BB 16 (fun t h=>Sat h0 (blk wn (AA .u32 (wM bs t))::blk rb (AA .u32 (AB 64))::A) h) ?_ ?_ 0 _ (by omega) hs
 ·intro t h1 ht hs hk
  apply hJ14
  rw[AD,if_pos (by simp;omega)]
  have e0:IntKind.i64.wrap (4*(t:Int))=((4*t:Nat):Int):=by rw[AL (by omega)];push_cast;rfl
  have e1:IntKind.i64.wrap (((4*t:Nat):Int)+1)=((4*t+1:Nat):Int):=by rw[AL (by omega)];push_cast;rfl
  have e2:IntKind.i64.wrap (((4*t:Nat):Int)+2)=((4*t+2:Nat):Int):=by rw[AL (by omega)];push_cast;rfl
  have e3:IntKind.i64.wrap (((4*t:Nat):Int)+3)=((4*t+3:Nat):Int):=by rw[AL (by omega)];push_cast;rfl
  rw[e0,e1,e2,e3]
  simp only[Int.toNat_natCast,Nat.mul_one]
  have g:∀x,x<l->hc h1 (q.add x)=some (.int .u8 (bs.getD x 0)):=by
   intro x hx
   obtain⟨q',hq',g⟩:=Z8 (rd _ hs.drop.drop) (x:=x) hx
   injection hq' with hq'
   subst hq'
   exact g
  refine⟨q,rfl,by omega,by omega,_,g _ (by omega),by decide,q,rfl,by omega,by omega,_,g _ (by omega),by decide,q,rfl,by omega,by omega,_,g _ (by omega),by decide,q,rfl,by omega,by omega,_,g _ (by omega),by omega,by omega,?_⟩
  have hlen:=JI bs t
  refine⟨Sat.can hs .z (by simp[hlen];omega),?_⟩
  intro h3 e
  replace hs:=Sat.wr hs .z e
  clear e
  rw[HQ]at hs
  simp only[AG]at hs
  rw[AU (by omega)]
  refine hk _ ?_
  show Sat h0 (blk wn (AA .u32 ((wM bs t).set t _))::blk rb (AA .u32 (AB 64))::A) h3
  rw[if_pos ht,AqB (by omega),←AqS (aB hb _) (aB hb _) (aB hb _) (aB hb _)]
  exact hs
 ·intro h1 hs
  apply hJ14
  rw[AD,if_neg (by decide)]
  clear hJ14 J14
  intro J27 hJ27
  refine BB 64 (fun t h=>16≤t/\Sat h0 (blk wn (AA .u32 (wM bs t))::blk rb (AA .u32 (AB 64))::A) h) ?_ ?_ 16 _ (by omega) ⟨by omega,hs⟩
  ·rintro t h2 ht ⟨ht2,hs⟩ hk
   apply hJ27
   rw[AD,if_pos (by simp;omega)]
   have hlen:=JI bs t
   have e15:IntKind.i64.wrap ((t:Int)-15)=((t-15:Nat):Int):=by rw[AL (by omega)];omega
   have e2:IntKind.i64.wrap ((t:Int)-2)=((t-2:Nat):Int):=by rw[AL (by omega)];omega
   have e16:IntKind.i64.wrap ((t:Int)-16)=((t-16:Nat):Int):=by rw[AL (by omega)];omega
   have e7:IntKind.i64.wrap ((t:Int)-7)=((t-7:Nat):Int):=by rw[AL (by omega)];omega
   rw[e15,e2,e16,e7]
   simp only[Int.toNat_natCast,Nat.mul_one]
   have g:=fun(x:Nat) (hx:x<64)=>hs.ld (i:=0) (b:=wn) .z (E3 (k:=.u32) (l:=wM bs t) (i:=x) (by omega))
   refine⟨by omega,by omega,_,g _ (by omega),by omega,by omega,_,g _ (by omega),?_⟩
   refine IN _ 7 rfl (by decide) (by decide) ?_
   refine IN _ 18 rfl (by decide) (by decide) ?_
   refine⟨by decide,?_⟩
   refine IN _ 17 rfl (by decide) (by decide) ?_
   refine IN _ 19 rfl (by decide) (by decide) ?_
   refine⟨by decide,by omega,by omega,_,g _ (by omega),by omega,by omega,_,g _ (by omega),by omega,by omega,?_⟩
   refine⟨Sat.can hs .z (by simp[hlen];omega),?_⟩
   intro h3 e
   replace hs:=Sat.wr hs .z e
   clear e
   rw[HQ]at hs
   simp only[AG]at hs
   rw[AU (by omega)]
   refine hk _ ⟨by omega,?_⟩
   show Sat h0 (blk wn (AA .u32 ((wM bs t).set t _))::blk rb (AA .u32 (AB 64))::A) h3
   rw[if_neg (by omega)]
   exact hs
  ·rintro h2 ⟨_,hs⟩
   apply hJ27
   rw[AD,if_neg (by decide)]
   refine⟨_,JI bs 64,hs.row0 .z,?_⟩
   refine⟨Sat.can hs zs1 (by simp[AB]),?_⟩
   intro h3 e
   replace hs:=Sat.wra hs zs1 e (by simp[AB,JI])
   clear e
   simp only[AS,AG]at hs
   exact⟨_,JI bs 64,hs.row0 zs1,k _ hs.drop.drop⟩
theorem AnM{Q:List Int->HP}{s bs:List Int}{p:Option Addr}{l c:Nat}(hs:Sat h0 A h)(l1:s.length=8)(hb:BU bs)(hl:64≤l)(rd:∀h',Sat h0 A h'->hsv h' p 1 l (AA .u8 bs))(k:∀h',Sat h0 A h'->Q (HW s bs) h'):QK s p l c kM Q h:=by
 unfold QK i9
 try simp only[AF,Nat.zero_add,List.append_nil]
 intro sb _ hn;replace hs:=Sat.new hs hn
 intro kb _ hn;replace hs:=Sat.new hs hn
 intro rb _ hn;replace hs:=Sat.new hs hn
 refine AqT hs hb hl (fun h' hs'=>rd _ hs'.drop.drop.drop) ?_
 intro h1 hs
 obtain⟨w,hw⟩:∃w,w=wM bs 64:=⟨_,rfl⟩
 have hwl:w.length=64:=by rw[hw];exact JI _ _
 rw[←hw]
 intro wn _ hn;replace hs:=Sat.new hs hn
 refine⟨Sat.can hs .z (by simp[AB]),?_⟩
 intro h2 e
 replace hs:=Sat.wra hs .z e (by simp[AB,hwl])
 clear e
 simp only[AG]at hs
 refine⟨s,l1,hs.row0 zs3,?_⟩
 intro sn _ hn;replace hs:=Sat.new hs hn
 refine⟨Sat.can hs .z (by simp[AB]),?_⟩
 intro h3 e
 replace hs:=Sat.wra hs .z e (by simp[AB,l1])
 clear e
 simp only[AG]at hs
 intro J31 hJ31
 refine BB 64 (fun t h=>Sat h0 (blk sn (AA .u32 (rM w s t))::blk wn (AA .u32 w)::blk rb (AA .u32 (AB 8))::blk kb (AA .u32 kM)::blk sb (AA .u32 s)::A) h) ?_ ?_ 0 _ (by omega) hs
 ·intro t h4 ht hs hk
  apply hJ31
  rw[AD,if_pos (by simp;omega)]
  obtain⟨a,b,c,dd,e,f,g,hh,hr⟩:=pU (aX w s l1 t)
  rw[hr]at hs
  simp only[Int.toNat_natCast,Nat.mul_one]
  have gk:hc h4 ⟨kb,t,none⟩=some (.int .u32 (kM.getD t 0)):=hs.ld zs3 (E3 (by rw[HS];omega))
  have gw:hc h4 ⟨wn,t,none⟩=some (.int .u32 (w.getD t 0)):=hs.ld zs1 (E3 (by omega))
  have g0:hc h4 ⟨sn,0,none⟩=some (.int .u32 a):=hs.ld .z rfl
  have g1:hc h4 ⟨sn,1,none⟩=some (.int .u32 b):=hs.ld .z rfl
  have g2:hc h4 ⟨sn,2,none⟩=some (.int .u32 c):=hs.ld .z rfl
  have g3:hc h4 ⟨sn,3,none⟩=some (.int .u32 dd):=hs.ld .z rfl
  have g4:hc h4 ⟨sn,4,none⟩=some (.int .u32 e):=hs.ld .z rfl
  have g5:hc h4 ⟨sn,5,none⟩=some (.int .u32 f):=hs.ld .z rfl
  have g6:hc h4 ⟨sn,6,none⟩=some (.int .u32 g):=hs.ld .z rfl
  have g7:hc h4 ⟨sn,7,none⟩=some (.int .u32 hh):=hs.ld .z rfl
  refine⟨by decide,by decide,_,g0,by decide,by decide,_,g4,by decide,by decide,_,g7,by decide,by decide,_,g5,by decide,by decide,_,g6,by omega,by omega,_,gk,by omega,by omega,_,gw,?_⟩
  refine IN _ 6 rfl (by decide) (by decide) ?_
  refine⟨AI gw,AI gk,AI g6,AI g5,AI g7,?_⟩
  refine IN _ 11 rfl (by decide) (by decide) ?_
  refine⟨AI gw,AI gk,AI g6,AI g5,AI g7,?_⟩
  refine IN _ 25 rfl (by decide) (by decide) ?_
  refine⟨AI gw,AI gk,AI g6,AI g5,AI g7,?_⟩
  refine⟨by decide,by decide,_,g1,by decide,by decide,_,g2,by decide,by decide,_,g1,by decide,by decide,_,g2,?_⟩
  refine IN _ 2 rfl (by decide) (by decide) ?_
  refine⟨AI g2,AI g1,AI g2,AI g1,?_⟩
  refine IN _ 13 rfl (by decide) (by decide) ?_
  refine⟨AI g2,AI g1,AI g2,AI g1,?_⟩
  refine IN _ 22 rfl (by decide) (by decide) ?_
  refine⟨AI g2,AI g1,AI g2,AI g1,?_⟩
  refine⟨by decide,by decide,_,g0,by decide,by decide,_,g1,by decide,by decide,_,g2,by decide,by decide,_,g3,by decide,by decide,_,g4,by decide,by decide,_,g5,by decide,by decide,_,g6,?_⟩
  refine⟨Sat.can hs .z (by simp),?_⟩
  intro h5 e5
  replace hs:=Sat.wra hs .z e5 (by simp)
  clear e5
  simp only[AG]at hs
  rw[AU (by omega)]
  refine hk _ ?_
  show Sat h0 (blk sn (AA .u32 (cG (rM w s t) (kM.getD t 0) (w.getD t 0)))::blk wn (AA .u32 w)::blk rb (AA .u32 (AB 8))::blk kb (AA .u32 kM)::blk sb (AA .u32 s)::A) h5
  rw[hr]
  exact hs
 ·intro h4 hs
  apply hJ31
  rw[AD,if_neg (by decide)]
  clear hJ31 J31
  obtain⟨r,hr⟩:∃r,r=rM w s 64:=⟨_,rfl⟩
  have hrl:r.length=8:=by rw[hr];exact aX _ _ l1 _
  rw[←hr]at hs
  intro J66 hJ66
  refine BB 8 (fun t h=>Sat h0 (blk sn (AA .u32 r)::blk wn (AA .u32 w)::blk rb (AA .u32 (AB 8))::blk kb (AA .u32 kM)::blk sb (AA .u32 (aM s r t))::A) h) ?_ ?_ 0 _ (by omega) hs
  ·intro t h5 ht hs hk
   apply hJ66
   rw[AD,if_pos (by simp;omega)]
   have hal:=ZA s r l1 t
   simp only[Int.toNat_natCast,Nat.mul_one]
   refine⟨by omega,by omega,_,hs.ld zs4 (E3 (by omega)),by omega,by omega,_,hs.ld .z (E3 (by omega)),by omega,by omega,?_⟩
   refine⟨Sat.can hs zs4 (by simp[hal];omega),?_⟩
   intro h6 e
   replace hs:=Sat.wr hs zs4 e
   clear e
   rw[HQ]at hs
   simp only[AS,AG]at hs
   rw[AU (by omega)]
   exact hk _ hs
  ·intro h5 hs
   apply hJ66
   rw[AD,if_neg (by decide)]
   have hpl:(aM s r 8).length=8:=ZA s r l1 8
   refine⟨_,hpl,hs.row0 zs4,?_⟩
   refine⟨Sat.can hs zs2 (by simp[AB]),?_⟩
   intro h6 e
   replace hs:=Sat.wra hs zs2 e (by simp[AB,hpl])
   clear e
   simp only[AS,AG]at hs
   refine⟨_,hpl,hs.row0 zs2,?_⟩
   have:=k _ hs.drop.drop.drop.drop.drop
   unfold HW at this
   rw[←hw,←hr]at this
   exact this
end
theorem wG{a b:List Int}(hl:a.length=b.length)(h:∀x,x<a.length->a.getD x 0=b.getD x 0):a=b:=by
 apply List.ext_getElem hl
 intro i h1 h2
 have:=h i h1
 rwa [List.getD_eq_getElem?_getD,List.getD_eq_getElem?_getD,List.getElem?_eq_getElem h1,List.getElem?_eq_getElem h2]at this
theorem rF(n x:Nat):(AB n).getD x 0=0:=by
 unfold AB
 rw[List.getD_eq_getElem?_getD,List.getElem?_replicate];split <;> rfl
theorem v9(n:Nat):∀t x,t≤8->x<73->(GB n t).getD x 0=if x=0 then 128 else if 1+zM n≤x/\x<1+zM n+t then LE n (x-1-zM n) else 0
 | 0,x,_,hx=>by
  show ((AB 73).set 0 128).getD x 0=_
  rw[YF]
  by_cases c:x=0
  ·subst c;rfl
  ·rw[if_neg (by omega),if_neg c,if_neg (by omega),rF]
 | t+1,x,ht,hx=>by
  have hz:=WJ n
  have ih:=v9 n t x (by omega) hx
  show ((GB n t).set (1+zM n+t) (LE n t)).getD x 0=_
  rw[YF,ZW]
  by_cases c:1+zM n+t=x
  ·subst c
   rw[if_pos ⟨rfl,hx⟩,if_neg (by omega),if_pos (by omega),show 1+zM n+t-1-zM n=t by omega]
  ·rw[if_neg (fun y=>c y.1),ih]
   by_cases c0:x=0
   ·rw[if_pos c0,if_pos c0]
   ·rw[if_neg c0,if_neg c0]
    by_cases c1:1+zM n≤x/\x<1+zM n+t
    ·rw[if_pos c1,if_pos (by omega)]
    ·rw[if_neg c1,if_neg (by omega)]
def LF(n:Nat):List Int:=(List.range 8).map (LE n)
theorem pV(n:Nat):(LF n).length=8:=by simp[LF]
theorem yT(n:Nat){t:Nat}(ht:t<8):(LF n).getD t 0=LE n t:=by
 unfold LF
 rw[List.getD_eq_getElem?_getD,List.getElem?_map,List.getElem?_range ht];rfl
theorem u9(a b:List Int)(x:Nat):(a++b).getD x 0=if x<a.length then a.getD x 0 else b.getD (x-a.length) 0:=by
 rw[List.getD_eq_getElem?_getD]
 split
 ·rename_i c;rw[List.getElem?_append_left c,List.getD_eq_getElem?_getD]
 ·rename_i c;rw[List.getElem?_append_right (by omega),List.getD_eq_getElem?_getD]
theorem AbC(n:Nat):NB n=[128]++AB (zM n)++LF n:=by
 have hz:=WJ n
 have hzl:(AB (zM n)).length=zM n:=by simp[AB]
 refine wG ?_ ?_
 ·rw[cK,List.length_append,List.length_append,hzl,pV];simp;omega
 ·intro x hx
  rw[cK]at hx
  have e1:(NB n).getD x 0=(GB n 8).getD x 0:=by
   unfold NB
   rw[List.getD_eq_getElem?_getD,List.getElem?_take_of_lt hx,List.getD_eq_getElem?_getD]
  rw[e1,v9 n 8 x (by omega) (by omega),u9,u9]
  simp only[List.length_append,List.length_cons,List.length_nil,hzl,Nat.zero_add]
  by_cases c0:x=0
  ·subst c0
   rw[if_pos rfl,if_pos (by omega),if_pos (by omega)];rfl
  ·rw[if_neg c0]
   by_cases c1:x<1+zM n
   ·rw[if_neg (by omega),if_pos c1,if_neg (by omega),rF]
   ·rw[if_pos (by omega),if_neg c1,yT n (by omega),show x-1-zM n=x-(1+zM n) by omega]
theorem pB(ms:List Int):(EA ms).length=ms.length+9+zM ms.length:=by
 unfold EA;rw[List.length_append,cK];omega
theorem Al4(ms:List Int):(EA ms).length=64*((EA ms).length / 64):=by
 rw[pB];unfold zM;omega
theorem XX{a b:List Int}(ha:BU a)(hb:BU b):BU (a++b):=fun v hv=>(List.mem_append.1 hv).elim (ha v) (hb v)
theorem yF(n:Nat):BU (AB n):=by
 intro v hv
 unfold AB at hv
 rw[List.mem_replicate]at hv
 omega
theorem AlX(n:Nat):BU (NB n):=by
 rw[AbC]
 refine XX (XX ?_ (yF _)) ?_
 ·intro v hv
  simp only[List.mem_cons,List.not_mem_nil,or_false]at hv
  omega
 ·intro v hv
  unfold LF at hv
  obtain⟨i,_,rfl⟩:=List.mem_map.1 hv
  unfold LE
  rw[IntKind.wrap_u8];omega
theorem AlW{ms:List Int}(hb:BU ms)(i:Nat):BU (GA ms i):=fun v hv=>hb v (List.mem_of_mem_drop (List.mem_of_mem_take hv))
theorem AbE(l:List Int){t:Nat}(h:t<l.length):l.take (t+1)=l.take t++[l.getD t 0]:=by
 rw[List.take_succ,List.getElem?_eq_getElem h,List.getD_eq_getElem?_getD,List.getElem?_eq_getElem h];rfl
theorem OC(k:IntKind)(a b:List Int):AA k (a++b)=AA k a++AA k b:=by unfold AA;rw[List.map_append]
theorem OE{J:List SV->HP}{σ:Type}(N:Nat)(S:Nat->σ->List SV)(Inv:Nat->σ->HP)(step:∀i s h,i<N->Inv i s h->(∀s' h',Inv (i+1) s' h'->J (S (i+1) s') h')->J (S i s) h)
  (exit:∀s h,Inv N s h->J (S N s) h) (i:Nat) (s:σ) (h:H) (hi:i≤N) (inv:Inv i s h):J (S i s) h:=by
 generalize e:N-i=n
 induction n generalizing i s h with
 | zero=>
  have:i=N:=by omega
  subst this;exact exit s h inv
 | succ n ih=>exact step i s h (by omega) inv fun s' h' inv'=>ih (i+1) s' h' (by omega) inv' (by omega)
theorem AjM{h0 h:H}{A:List Ent}(hs:Sat h0 A h){i:Nat}{p:Option Addr}{l c sz:Nat}{vs:List Value}(m:At A i (slE p l c sz vs)):l≤c:=by
 obtain⟨f,hp,_⟩:=hs.take m
 obtain⟨bs,o,_⟩:=slE_P.1 hp
 exact o.2.1
section
variable {h0 h:H} {A:List Ent} {i d:Nat}
theorem AnH{Q:Option Addr->Nat->Nat->HP}{ms:List Int}{p:Option Addr}{l c:Nat}(hs:Sat h0 A h)(hl:l<2^46)(rd:∀h',Sat h0 A h'->hsv h' p 1 l (AA .u8 ms))
  (k:∀p' c' h',(EA ms).length≤c'->Sat h0 (slE p' (EA ms).length c' 1 (AA .u8 (EA ms))::A) h'->Q p' (EA ms).length c' h'):QJ p l c Q h:=by
 unfold QJ iZ
 have hml:ms.length=l:=by have:=(rd _ hs).1;simpa using this
 have hz:=WJ l
 refine⟨_,rd _ hs,?_⟩
 refine Sat.app_new hs (by simp[hml]) rfl (A5 _ _) (by omega) ?_
 intro p1 c1 h1 hs
 intro b _ hn;replace hs:=Sat.new hs hn
 refine⟨_,hs.bv (i:=0) (l:=1) .z rfl (A5 .u8 [128]),?_⟩
 refine Sat.app hs (i:=1) (vs:=AA .u8 [128]) zs1 rfl rfl (A5 _ _) (by omega) ?_
 intro p2 c2 h2 hs
 simp only[AS,AG]at hs
 rw[←OC]at hs
 replace hs:=hs.drop
 intro J18 hJ18
 refine OE (zM l) (fun t (s:Option Addr×Nat)=>[.dv (.one (.slice s.1 (l+1+t) s.2))]) (fun t s h=>Sat h0 (slE s.1 (l+1+t) s.2 1 (AA .u8 (ms++[128]++AB t))::A) h) ?_ ?_ 0 (p2,c2) _ (by omega) (by simpa[AB]using hs)
 ·rintro t ⟨p3,c3⟩ h3 ht hs hk
  dsimp only at hs hk ⊢
  apply hJ18
  refine⟨by decide,?_⟩
  have em:(((l+1+t:Nat):Int)).tmod 64=(((l+1+t) % 64:Nat):Int):=by rw[Int.tmod_eq_emod_of_nonneg (by omega)];omega
  rw[em,if_pos (by
   rw[bne_iff_ne]
   intro y
   unfold zM at ht
   omega)]
  intro b _ hn;replace hs:=Sat.new hs hn
  refine⟨_,hs.bv (i:=0) (l:=1) .z rfl (A5 .u8 [0]),?_⟩
  refine Sat.app hs (i:=1) (vs:=AA .u8 [0]) zs1 rfl rfl (A5 _ _) (by omega) ?_
  intro p4 c4 h4 hs
  simp only[AS,AG]at hs
  rw[←OC]at hs
  refine hk (p4,c4) h4 ?_
  have ez:ms++[128]++AB (t+1)=ms++[128]++AB t++[0]:=by
   unfold AB
   rw[List.replicate_succ',List.append_assoc,List.append_assoc,List.append_assoc]
  dsimp only
  rw[ez]
  exact hs.drop
 ·rintro⟨p3,c3⟩ h3 hs
  dsimp only at hs ⊢
  apply hJ18
  clear hJ18
  refine⟨by decide,?_⟩
  have em:(((l+1+zM l:Nat):Int)).tmod 64=56:=by
   rw[Int.tmod_eq_emod_of_nonneg (by omega)]
   unfold zM
   omega
  rw[em,if_neg (by decide)]
  have ew:IntKind.u64.wrap (8*IntKind.u64.wrap (l:Int))=IntKind.u64.wrap (8*(l:Int)):=by rw[WI (l:Int),WI,WI];omega
  rw[ew]
  intro J31 hJ31
  refine OE 8 (fun t (s:Option Addr×Nat)=>[.dv (.one (.slice s.1 (l+1+zM l+t) s.2)),.dv (.one (.int .i64 (7-(t:Int))))]) (fun t s h=>Sat h0 (slE s.1 (l+1+zM l+t) s.2 1 (AA .u8 (ms++[128]++AB (zM l)++(LF l).take t))::A) h) ?_ ?_ 0 (p3,c3) _ (by omega) (by simpa using hs)
  ·rintro t ⟨p4,c4⟩ h4 ht hs hk
   dsimp only at hs hk ⊢
   apply hJ31
   rw[A0,if_pos (by rw[decide_eq_true_iff];omega)]
   have e8:IntKind.i64.wrap (8*(7-(t:Int)))=((56-8*t:Nat):Int):=by rw[AL (by omega)];omega
   rw[e8]
   simp only[Int.toNat_natCast]
   refine⟨by omega,?_⟩
   intro b _ hn;replace hs:=Sat.new hs hn
   refine⟨_,hs.bv (i:=0) (l:=1) .z rfl (A5 .u8 [LE l t]),?_⟩
   refine Sat.app hs (i:=1) (vs:=AA .u8 [LE l t]) zs1 rfl rfl (A5 _ _) (by omega) ?_
   intro p5 c5 h5 hs
   simp only[AS,AG]at hs
   rw[←OC]at hs
   have e1:IntKind.i64.wrap (7-(t:Int)-1)=7-((t+1:Nat):Int):=by rw[AL (by omega)];omega
   rw[e1]
   refine hk (p5,c5) h5 ?_
   dsimp only
   rw[AbE _ (by rw[pV];exact ht),yT l ht,←List.append_assoc]
   exact hs.drop
  ·rintro⟨p4,c4⟩ h4 hs
   dsimp only at hs ⊢
   apply hJ31
   rw[A0,if_neg (by decide)]
   rw[List.take_of_length_le (by rw[pV];exact Nat.le_refl _)]at hs
   have ef:ms++[128]++AB (zM l)++LF l=EA ms:=by
    unfold EA
    rw[AbC,hml,List.append_assoc,List.append_assoc,List.append_assoc]
   have efl:(EA ms).length=l+1+zM l+8:=by rw[pB,hml];omega
   rw[ef]at hs
   have K:=k p4 c4 h4
   rw[efl]at K
   exact K (AjM hs .z) hs
theorem qR{Q:List Int->HP}{ms:List Int}{p:Option Addr}{l c:Nat}(hs:Sat h0 A h)(hb:BU ms)(hl:l<2^46)(rd:∀h',Sat h0 A h'->hsv h' p 1 l (AA .u8 ms))(k:∀h',Sat h0 A h'->Q (D3 ms) h'):KD p l c Q h:=by
 unfold KD iX
 try simp only[AF,Nat.zero_add,List.append_nil]
 have hml:ms.length=l:=by have:=(rd _ hs).1;simpa using this
 intro rb _ hn;replace hs:=Sat.new hs hn
 refine AnH (ms:=ms) hs hl (fun h' hs'=>rd _ hs'.drop) ?_
 intro p1 c1 h1 hc1 hs
 obtain⟨F,hF⟩:∃F,F=EA ms:=⟨_,rfl⟩
 have hbF:BU F:=by rw[hF];unfold EA;exact XX hb (AlX _)
 have hFl:F.length<2^47:=by rw[hF,pB,hml];have:=WJ l;omega
 obtain⟨N,hN⟩:∃N,N=F.length / 64:=⟨_,rfl⟩
 have h64:F.length=64*N:=by rw[hN,hF];exact Al4 ms
 rw[←hF]at hs hc1 ⊢
 rw[h64]at hs hc1 ⊢
 unfold WV iY
 try simp only[AF,Nat.zero_add,List.append_nil]
 intro bb _ hn;replace hs:=Sat.new hs hn
 refine⟨Sat.can hs .z (by simp[AB]),?_⟩
 intro h2 e
 replace hs:=Sat.wra hs .z e (by simp[AB])
 clear e
 simp only[AG]at hs
 refine⟨sM,rfl,hs.row0 .z,?_⟩
 replace hs:=hs.drop
 intro sb _ hn;replace hs:=Sat.new hs hn
 refine⟨Sat.can hs .z (by simp[AB,sM]),?_⟩
 intro h3 e
 replace hs:=Sat.wra hs .z e (by simp[AB,sM])
 clear e
 simp only[AG]at hs
 unfold WW jA
 try simp only[AF,Nat.zero_add,List.append_nil]
 intro kb _ hn;replace hs:=Sat.new hs hn
 refine⟨Sat.can hs .z (by simp[AB]),?_⟩
 intro h4 e
 replace hs:=Sat.wra hs .z e (by simp[AB])
 clear e
 simp only[AG]at hs
 refine⟨kM,rfl,hs.row0 .z,?_⟩
 replace hs:=hs.drop
 intro kc _ hn;replace hs:=Sat.new hs hn
 refine⟨Sat.can hs .z (by simp[AB,HS]),?_⟩
 intro h5 e
 replace hs:=Sat.wra hs .z e (by simp[AB,HS])
 clear e
 simp only[AG]at hs
 intro J30 hJ30
 refine OE N (fun t (_:Unit)=>[.dv (.one (.int .i64 ((64*t:Nat):Int)))]) (fun t _ h=>Sat h0 (blk kc (AA .u32 kM)::blk sb (AA .u32 (stM F t))::slE p1 (64*N) c1 1 (AA .u8 F)::blk rb (AA .u8 (AB 32))::A) h) ?_ ?_ 0 () _ (by omega) hs
 ·rintro t _ h6 ht hs hk
  apply hJ30
  rw[AD,if_pos (by rw[decide_eq_true_iff];omega)]
  have e64:IntKind.i64.wrap (((64*t:Nat):Int)+64)=((64*(t+1):Nat):Int):=by rw[AL (by omega)];push_cast;omega
  rw[e64]
  simp only[Int.toNat_natCast]
  have hsl:=YK F t
  refine⟨stM F t,hsl,hs.row0 zs1,by omega,by omega,by omega,kM,HS,hs.row0 .z,?_⟩
  rw[show 64*(t+1)-64*t=64 by omega]
  refine AnM (bs:=GA F t) hs hsl (AlW hbF t) (Nat.le_refl _) (fun h' hs'=>IK (o:=64*t) (n:=64) (m:=c1) (hs'.sv zs2) (by omega) (by omega)) ?_
  intro h7 hs
  have hpl:(HW (stM F t) (GA F t)).length=8:=zJ hsl
  refine⟨Sat.can hs zs1 (by simp[hsl]),?_⟩
  intro h8 e
  replace hs:=Sat.wra hs zs1 e (by simp[hsl,hpl])
  clear e
  simp only[AS,AG]at hs
  exact hk () _ hs
 ·rintro _ h6 hs
  apply hJ30
  clear hJ30
  rw[AD,if_neg (by rw[decide_eq_true_iff];omega)]
  obtain⟨S,hS⟩:∃S,S=stM F N:=⟨_,rfl⟩
  have hSl:S.length=8:=by rw[hS];exact YK F N
  have hsh:D3 ms=oM S 32:=by unfold D3;rw[←hF,←hN,hS]
  rw[←hS]at hs
  intro ob _ hn;replace hs:=Sat.new hs hn
  refine⟨Sat.can hs .z (by simp[AB]),?_⟩
  intro h7 e
  replace hs:=Sat.wra hs .z e rfl
  clear e
  simp only[AG]at hs
  intro J44 hJ44
  refine BB 32 (fun t h=>Sat h0 (blk ob (AA .u8 (oM S t))::blk kc (AA .u32 kM)::blk sb (AA .u32 S)::slE p1 (64*N) c1 1 (AA .u8 F)::blk rb (AA .u8 (AB 32))::A) h) ?_ ?_ 0 _ (by omega) hs
  ·intro t h8 ht hs hk
   apply hJ44
   rw[AD,if_pos (by simp;omega)]
   have hol:=SJ S t
   have ed:IntKind.i64.wrap ((t:Int).tdiv 4)=((t / 4:Nat):Int):=by
    rw[Int.tdiv_eq_ediv_of_nonneg (by omega),AL (by omega)];omega
   have em:IntKind.i64.wrap (24-IntKind.i64.wrap (8*(t:Int).tmod 4))=((24-8*(t % 4):Nat):Int):=by
    rw[Int.tmod_eq_emod_of_nonneg (by omega),AL (n:=8*((t:Int) % 4)) (by omega),AL (by omega)];omega
   rw[ed,em]
   simp only[Int.toNat_natCast,Nat.mul_one]
   refine⟨by decide,by omega,by omega,_,hs.ld zs2 (E3 (by omega)),by decide,by omega,by omega,by omega,?_⟩
   refine⟨Sat.can hs .z (by simp[hol];omega),?_⟩
   intro h9 e
   replace hs:=Sat.wr hs .z e
   clear e
   rw[HQ]at hs
   simp only[AG]at hs
   rw[AU (by omega)]
   exact hk _ hs
  ·intro h8 hs
   apply hJ44
   rw[AD,if_neg (by decide)]
   rw[←hsh]at hs
   refine⟨_,CQ ms,hs.row0 .z,?_⟩
   refine⟨Sat.can hs zs4 (by simp[AB]),?_⟩
   intro h9 e
   replace hs:=Sat.wra hs zs4 e (by simp[AB,CQ])
   clear e
   simp only[AS,AG]at hs
   exact⟨_,CQ ms,hs.row0 zs4,k _ hs.drop.drop.drop.drop.drop⟩
end
def ovM(x:Int)(bs:List Int):List Int:=bs.map fun b=>bits .xor .u8 b x
theorem ArC(a b:Int):0≤bits .xor .u8 a b/\bits .xor .u8 a b<256:=by
 have:bits .xor .u8 a b=IntKind.u8.wrap ((BitVec.ofInt 8 a ^^^ BitVec.ofInt 8 b).toNat:Int):=rfl
 rw[this,IntKind.wrap_u8];omega
theorem yD(x:Int)(bs:List Int):BU (ovM x bs):=by
 intro v hv
 unfold ovM at hv
 obtain⟨b,_,rfl⟩:=List.mem_map.1 hv
 exact ArC _ _
theorem Ac2(kb:List Int)(x:Int):∀t j,t≤64->j<64->(xM kb x t).getD j 0=if j<t then bits .xor .u8 (kb.getD j 0) x else 0
 | 0,j,_,hj=>by
  show (AB 64).getD j 0=_
  rw[if_neg (by omega),rF]
 | t+1,j,ht,hj=>by
  have ih:=Ac2 kb x t j (by omega) hj
  show ((xM kb x t).set t _).getD j 0=_
  rw[YF,IP,ih]
  by_cases c:t=j
  ·subst c
   rw[if_pos ⟨rfl,hj⟩,if_pos (by omega)]
  ·rw[if_neg (fun y=>c y.1)]
   by_cases c1:j<t
   ·rw[if_pos c1,if_pos (by omega)]
   ·rw[if_neg c1,if_neg (by omega)]
theorem cR{kb:List Int}(x:Int)(h:kb.length=64):xM kb x 64=ovM x kb:=by
 refine wG (by rw[IP];simp[ovM,h]) ?_
 intro j hj
 rw[IP]at hj
 rw[Ac2 kb x 64 j (by decide) hj,if_pos hj]
 unfold ovM
 rw[List.getD_eq_getElem?_getD,List.getD_eq_getElem?_getD,List.getElem?_map,List.getElem?_eq_getElem (by omega)]
 rfl
theorem yE(ms:List Int):BU (D3 ms):=by
 have:∀s t,BU (oM s t):=by
  intro s t
  induction t with
  | zero=>exact yF 32
  | succ t ih=>
   intro v hv
   have hv:v∈(oM s t).set t (X8 s t):=hv
   rcases List.mem_or_eq_of_mem_set hv with h | h
   ·exact ih v h
   ·rw[h];unfold X8;rw[IntKind.wrap_u8];omega
 exact this _ _
theorem yC(key b:List Int):BU (BI key b):=yE _
section
variable {h0 h:H} {A:List Ent} {i d:Nat}
theorem wK{Q:Option Addr->Nat->Nat->HP}{ms:List Int}{p:Option Addr}{l c:Nat}(hs:Sat h0 (slE p l c 1 (AA .u8 ms)::A) h)(hl:l≤64)
  (k:∀p' c' h',Sat h0 (slE p' 64 c' 1 (AA .u8 (ms++AB (64-l)))::A) h'->Q p' 64 c' h'):
  ∀(J21:List SV->HP),(∀(o22:Option Addr) (n23 n24:Nat) (h25:H),(if ltI (n23:Int) 64=true then ∀(n26:Nat) (h27:H),hnew h25 n26 [.int .u8 0] h27->∃l29:List Value,hsv h27 (some ⟨n26,0,none⟩) 1 1 l29/\AW h27 1 [.int .u8 0] 1 o22 n23 n24 1 l29 fun o30 n31 n32 h33=>J21 [.dv (.one (.slice o30 n31 n32))] h33
   else Q o22 n23 n24 h25)->J21 [.dv (.one (.slice o22 n23 n24))] h25)->J21 [.dv (.one (.slice p l c))] h:=by
 intro J hJ
 refine OE (64-l) (fun t (s:Option Addr×Nat)=>[.dv (.one (.slice s.1 (l+t) s.2))]) (fun t s h=>Sat h0 (slE s.1 (l+t) s.2 1 (AA .u8 (ms++AB t))::A) h) ?_ ?_ 0 (p,c) _ (by omega) (by simpa[AB]using hs)
 ·rintro t ⟨p3,c3⟩ h3 ht hs hk
  dsimp only at hs hk ⊢
  apply hJ
  rw[AD,if_pos (by rw[decide_eq_true_iff];omega)]
  intro b _ hn;replace hs:=Sat.new hs hn
  refine⟨_,hs.bv (i:=0) (l:=1) .z rfl (A5 .u8 [0]),?_⟩
  refine Sat.app hs (i:=1) (vs:=AA .u8 [0]) zs1 rfl rfl (A5 _ _) (by omega) ?_
  intro p4 c4 h4 hs
  simp only[AS,AG]at hs
  rw[←OC]at hs
  refine hk (p4,c4) h4 ?_
  have ez:ms++AB (t+1)=ms++AB t++[0]:=by
   unfold AB
   rw[List.replicate_succ',List.append_assoc]
  dsimp only
  rw[ez]
  exact hs.drop
 ·rintro⟨p3,c3⟩ h3 hs
  dsimp only at hs ⊢
  apply hJ
  have e64:l+(64-l)=64:=by omega
  rw[e64]at hs ⊢
  rw[AD,if_neg (by decide)]
  exact k _ _ _ hs
theorem Aj7{Q:Option Addr->Nat->Nat->HP}{key:List Int}{p:Option Addr}{l c:Nat}(hs:Sat h0 A h)(hb:BU key)(hl:l<2^46)(rd:∀h',Sat h0 A h'->hsv h' p 1 l (AA .u8 key))
  (k:∀p' c' h',Sat h0 (slE p' 64 c' 1 (AA .u8 (kbM key))::A) h'->Q p' 64 c' h'):QM p l c Q h:=by
 unfold QM jE
 try simp only[AF,Nat.zero_add,List.append_nil]
 have hkl:key.length=l:=by have:=(rd _ hs).1;simpa using this
 intro eb _ hn;replace hs:=Sat.new hs hn
 rw[AD]
 by_cases g:64<l
 ·rw[if_pos (by rw[decide_eq_true_iff];omega)]
  have ek:EP key=D3 key:=by unfold EP;rw[if_pos (by omega)]
  have ekb:kbM key=D3 key++AB (64-32):=by unfold kbM;rw[ek,CQ]
  refine qR (ms:=key) hs hb hl (fun h' hs'=>rd _ hs'.drop) ?_
  intro h1 hs
  intro hb' _ hn;replace hs:=Sat.new hs hn
  refine⟨Sat.can hs .z (by simp[AB]),?_⟩
  intro h2 e
  replace hs:=Sat.wra hs .z e (by simp[AB,CQ])
  clear e
  simp only[AG]at hs
  have EH:AJ (some ⟨hb',0,none⟩) 0 32 1=some ⟨hb',0,none⟩:=by unfold AJ;simp
  rw[EH]
  refine⟨_,hs.bv (i:=0) (l:=32) .z (by simp[CQ]) (A5 _ _),?_⟩
  refine Sat.app_new hs (by simp[CQ]) rfl (A5 _ _) (by decide) ?_
  intro p3 c3 h3 hs
  refine wK hs (by decide) ?_
  intro p4 c4 h4 hs
  rw[←ekb]at hs
  exact k _ _ _ (hs.sub (by(repeat (first | exact List.Sublist.refl _ | apply List.Sublist.cons_cons | apply List.Sublist.cons))))
 ·rw[if_neg (by rw[decide_eq_true_iff];omega)]
  have ek:EP key=key:=by unfold EP;rw[if_neg (by omega)]
  have ekb:kbM key=key++AB (64-l):=by unfold kbM;rw[ek,hkl]
  refine⟨_,rd _ hs.drop,?_⟩
  refine Sat.app_new hs (by simp[hkl]) rfl (A5 _ _) (by omega) ?_
  intro p3 c3 h3 hs
  refine wK hs (by omega) ?_
  intro p4 c4 h4 hs
  rw[←ekb]at hs
  exact k _ _ _ (hs.sub (by(repeat (first | exact List.Sublist.refl _ | apply List.Sublist.cons_cons | apply List.Sublist.cons))))
theorem zE{Q:Option Addr->Nat->Nat->HP}{bs:List Int}{p:Option Addr}{l c:Nat}(x:Int)(hs:Sat h0 A h)(hl:l<2^46)(rd:∀h',Sat h0 A h'->hsv h' p 1 l (AA .u8 bs))
  (k:∀p' c' h',Sat h0 (slE p' l c' 1 (AA .u8 (ovM x bs))::A) h'->Q p' l c' h'):QN p l c x Q h:=by
 unfold QN jF
 have hbl:bs.length=l:=by have:=(rd _ hs).1;simpa using this
 intro eb _ hn;replace hs:=Sat.new hs hn
 intro J hJ
 refine OE l (fun t (s:Option Addr×Nat)=>[.dv (.one (.slice s.1 t s.2)),si t]) (fun t s h=>Sat h0 (slE s.1 t s.2 1 (AA .u8 (ovM x (bs.take t)))::A) h) ?_ ?_ 0 (some ⟨eb,0,none⟩,0) _ (by omega) (by simpa[ovM]using hs.drop.sl_nil 1 _)
 ·rintro t ⟨p3,c3⟩ h3 ht hs hk
  dsimp only at hs hk ⊢
  apply hJ
  rw[AD,if_pos (by rw[decide_eq_true_iff];omega)]
  obtain⟨q,hq,g⟩:=Z8 (rd _ hs.drop) (x:=t) ht
  refine⟨q,hq,by omega,by omega,?_⟩
  simp only[Int.toNat_natCast,Nat.mul_one]
  refine⟨_,g,?_⟩
  intro b _ hn;replace hs:=Sat.new hs hn
  refine⟨_,hs.bv (i:=0) (l:=1) .z rfl (A5 .u8 [bits .xor .u8 (bs.getD t 0) x]),?_⟩
  refine Sat.app hs (i:=1) (vs:=AA .u8 [bits .xor .u8 (bs.getD t 0) x]) zs1 rfl rfl (A5 _ _) (by omega) ?_
  intro p4 c4 h4 hs
  simp only[AS,AG]at hs
  rw[←OC]at hs
  rw[AU (by omega)]
  refine hk (p4,c4) h4 ?_
  dsimp only
  rw[AbE bs (by omega)]
  have:ovM x (bs.take t++[bs.getD t 0])=ovM x (bs.take t)++[bits .xor .u8 (bs.getD t 0) x]:=by unfold ovM;rw[List.map_append];rfl
  rw[this]
  exact hs.drop
 ·rintro⟨p3,c3⟩ h3 hs
  dsimp only at hs ⊢
  apply hJ
  rw[AD,if_neg (by simp)]
  rw[List.take_of_length_le (by omega)]at hs
  exact k _ _ _ hs
theorem AaG{Q:List Int->HP}{key b:List Int}{kp bp:Option Addr}{kl kc bl bc:Nat}(hs:Sat h0 A h)(hkb:BU key)(hbb:BU b)(hk:kl<2^45)(hb:bl<2^45)(rk:∀h',Sat h0 A h'->hsv h' kp 1 kl (AA .u8 key))(rb:∀h',Sat h0 A h'->hsv h' bp 1 bl (AA .u8 b))
  (k:∀h',Sat h0 A h'->Q (BI key b) h'):KF kp kl kc bp bl bc Q h:=by
 unfold KF jD
 try simp only[AF,Nat.zero_add,List.append_nil]
 have hbl:b.length=bl:=by have:=(rb _ hs).1;simpa using this
 intro ob _ hn;replace hs:=Sat.new hs hn
 refine Aj7 (key:=key) hs hkb (by omega) (fun h' hs'=>rk _ hs'.drop) ?_
 intro p1 c1 h1 hs
 have hkl:=yI key
 refine zE 54 hs (by decide) (fun h' hs'=>hs'.sv .z) ?_
 intro p2 c2 h2 hs
 rw[←cR 54 hkl]at hs
 refine⟨_,rb _ hs.drop.drop.drop,?_⟩
 refine Sat.app hs (i:=0) (vs:=AA .u8 b) .z (by simp[hbl]) rfl (A5 _ _) (by omega) ?_
 intro p3 c3 h3 hs
 simp only[AG]at hs
 rw[←OC]at hs
 have bi:BU (xM (kbM key) 54 64):=by rw[cR 54 hkl];exact yD _ _
 have bo:BU (xM (kbM key) 92 64):=by rw[cR 92 hkl];exact yD _ _
 refine qR (ms:=OB key++b) hs (XX bi hbb) (by omega) (fun h' hs'=>hs'.sv .z) ?_
 intro h4 hs
 obtain⟨I,hI⟩:∃I,I=D3 (OB key++b):=⟨_,rfl⟩
 have hIl:I.length=32:=by rw[hI];exact CQ _
 have hIb:BU I:=by rw[hI];exact yE _
 rw[←hI]
 intro hb' _ hn;replace hs:=Sat.new hs hn
 refine⟨Sat.can hs .z (by simp[AB]),?_⟩
 intro h5 e
 replace hs:=Sat.wra hs .z e (by simp[AB,hIl])
 clear e
 simp only[AG]at hs
 refine zE 92 hs (by decide) (fun h' hs'=>hs'.sv zs2) ?_
 intro p6 c6 h6 hs
 rw[←cR 92 hkl]at hs
 refine⟨_,hs.bv (i:=1) (l:=32) zs1 (by simp[hIl]) (A5 _ _),?_⟩
 refine Sat.app hs (i:=0) (vs:=AA .u8 I) .z (by simp[hIl]) rfl (A5 _ _) (by decide) ?_
 intro p7 c7 h7 hs
 simp only[AG]at hs
 rw[←OC]at hs
 refine qR (ms:=JE key++I) hs (XX bo hIb) (by decide) (fun h' hs'=>hs'.sv .z) ?_
 intro h8 hs
 have em:D3 (JE key++I)=BI key b:=by unfold BI;rw[hI]
 rw[em]
 refine⟨Sat.can hs zs4 (by simp[AB]),?_⟩
 intro h9 e
 replace hs:=Sat.wra hs zs4 e (by simp[AB,FD])
 clear e
 simp only[AS,AG]at hs
 exact⟨_,FD _ _,hs.row0 zs4,k _ hs.drop.drop.drop.drop.drop⟩
end
abbrev Sec:=Int×List Int
def D5(seen:List Sec)(s:Sec):Int:=
 if s.1<0 then 2 else if 63<s.1 then 2 else if s.2.length<1 then 4 else if 256<s.2.length then 4 else if (seen.find? (fun x=>x.1 == s.1)).isSome=true then 18 else 0
def goM(L:List Sec):Nat->Option (Int×Int)
 | 0=>none
 | k+1=>if D5 (L.take (L.length-(k+1))) (L.getD (L.length-(k+1)) (0,[]))=0 then goM L k else some (D5 (L.take (L.length-(k+1))) (L.getD (L.length-(k+1)) (0,[])),((L.length-(k+1):Nat):Int))
def DP(L:List Sec):Option (Int×Int):=if 64<L.length then some (3,64) else goM L L.length
theorem wZ(L:List Sec){t:Nat}(ht:t<L.length):goM L (L.length-t)=if D5 (L.take t) L[t]=0 then goM L (L.length-(t+1)) else some (D5 (L.take t) L[t],(t:Int)):=by
 obtain⟨k,hk⟩:∃k,L.length-t=k+1:=⟨L.length-t-1,by omega⟩
 rw[hk]
 show (if D5 (L.take (L.length-(k+1))) (L.getD (L.length-(k+1)) (0,[]))=0 then _ else _)=_
 rw[show L.length-(k+1)=t by omega,show L.length-(t+1)=k by omega]
 have:L.getD t (0,[])=L[t]:=by rw[List.getD_eq_getElem?_getD,List.getElem?_eq_getElem ht];rfl
 rw[this]
structure SR where
 key:Int
 bytes:List Int
 p:Option Addr
 c:Nat
abbrev SR.kv(x:SR):Sec:=(x.key,x.bytes)
abbrev SR.ent(x:SR):Value×DV:=(.int .i64 x.key,.one (.slice x.p x.bytes.length x.c))
abbrev SR.sl(x:SR):Ent:=slE x.p x.bytes.length x.c 1 (AA .u8 x.bytes)
def DQ:List SR->List Value
 | []=>[]
 | x::r=>[.int .i64 x.key,.slice x.p x.bytes.length x.c]++DQ r
theorem ApJ(a b:List SR):DQ (a++b)=DQ a++DQ b:=by
 induction a with
 | nil=>rfl
 | cons x r ih=>show [_,_]++DQ (r++b)=[_,_]++DQ r++DQ b;rw[ih];rfl
theorem AaY(R:List SR)(i:Nat)(hi:i<R.length):(DQ R)[i*2]?=some (.int .i64 R[i].key)/\(DQ R)[i*2+1]?=some (.slice R[i].p R[i].bytes.length R[i].c):=by
 induction R generalizing i with
 | nil=>simp at hi
 | cons x r ih=>
  cases i with
  | zero=>exact⟨rfl,rfl⟩
  | succ i=>
   have:=ih i (by simpa using hi)
   rw[show (i+1)*2=i*2+1+1 by omega]
   exact this
def SR.at_(R:List SR)(key:Int):Option SR:=R.find? (fun x=>x.key == key)
theorem ZK(R:List SR)(key:Int):(SR.at_ R key).map SR.kv=(R.map SR.kv).find? (fun x=>x.1 == key):=by
 unfold SR.at_
 induction R with
 | nil=>rfl
 | cons x r ih=>
  rw[List.map_cons,List.find?_cons,List.find?_cons]
  by_cases c:(x.key == key)=true
  ·rw[c];simp only[c];rfl
  ·have c':(x.key == key)=false:=by simpa using c
   rw[c'];simp only[c'];exact ih
theorem p0(R:List SR)(key:Int)(z:DV):DT (.int .i64 key) z (R.map SR.ent)=match SR.at_ R key with | some x=>some (.one (.slice x.p x.bytes.length x.c),true) | none=>some (z,false):=by
 unfold SR.at_
 induction R with
 | nil=>rfl
 | cons x r ih=>
  rw[List.map_cons,List.find?_cons]
  unfold DT
  have e:LD (.int .i64 key) (SR.ent x).1=some (key == x.key):=rfl
  rw[e]
  by_cases c:key=x.key
  ·have c1:(key == x.key)=true:=by simpa using c
   have c2:(x.key == key)=true:=by simpa using c.symm
   rw[c1,c2]
  ·have c1:(key == x.key)=false:=by simpa using c
   have c2:(x.key == key)=false:=by simpa using fun y=>c y.symm
   rw[c1,c2]
   exact ih
theorem AmU(R:List SR)(key:Int)(d:DV)(h:SR.at_ R key=none):FU (.int .i64 key) d (R.map SR.ent)=some (R.map SR.ent++[(.int .i64 key,d)]):=by
 unfold SR.at_ at h
 induction R with
 | nil=>rfl
 | cons x r ih=>
  rw[List.find?_cons]at h
  rw[List.map_cons]
  unfold FU
  have e:LD (.int .i64 key) (SR.ent x).1=some (key == x.key):=rfl
  rw[e]
  by_cases c:key=x.key
  ·have c2:(x.key == key)=true:=by simpa using c.symm
   rw[c2]at h;cases h
  ·have c1:(key == x.key)=false:=by simpa using c
   have c2:(x.key == key)=false:=by simpa using fun y=>c y.symm
   rw[c2]at h
   rw[c1]
   dsimp only
   rw[ih h]
   rfl
def SecsAt(h:H)(p:Option Addr)(l:Nat)(X:List SR):Prop:=l=X.length/\∀i (hi:i<X.length),∃q,p=some q/\hc h (q.add (i*2))=some (.int .i64 X[i].key)/\hc h ((q.add (i*2)).add 1)=some (.slice X[i].p X[i].bytes.length X[i].c)/\hsv h X[i].p 1 X[i].bytes.length (AA .u8 X[i].bytes)/\BU X[i].bytes/\X[i].bytes.length<2^47
theorem SecsAt.ext{h0 h:H}{A:List Ent}(hs:Sat h0 A h){p:Option Addr}{l:Nat}{X:List SR}(s:SecsAt h0 p l X):SecsAt h p l X:=by
 refine⟨s.1,fun i hi=>?_⟩
 obtain⟨q,h1,h2,h3,h4,h5,h6⟩:=s.2 i hi
 exact⟨q,h1,I6 hs.ex h2 (fun y=>y),I6 hs.ex h3 (fun y=>y),hs.base h4,h5,h6⟩
theorem AbF{L:List Sec}{t:Nat}(h:t<L.length):L.take (t+1)=L.take t++[L[t]]:=by rw[List.take_succ,List.getElem?_eq_getElem h];rfl
abbrev LI(r m:Nat)(R:List SR):List Ent:=blk r [.map (some m)]::ED m (R.map SR.ent)::R.map SR.sl
abbrev SM(r:Nat)(lp:Option Addr)(lc:Nat)(R:List SR):List Ent:=blk r [.slice lp R.length lc]::slE lp R.length lc 2 (DQ R)::R.map SR.sl
def SR.good(R:List SR):Prop:=∀x,x∈R->x.bytes.length≤256/\x.bytes.length≤x.c/\BU x.bytes
section
variable {h0 h:H} {A:List Ent} {i j d r m:Nat}
theorem xA{Q:Bool->HP}(key:Int){R:List SR}(hs:Sat h0 A h)(cr:At A i (blk r [.map (some m)]))(cm:At A j (ED m (R.map SR.ent)))(q:Q (SR.at_ R key).isSome h):IX ⟨r,0,none⟩ key Q h:=by
 cases e:SR.at_ R key with
 | none=>exact xC key hs cr cm (b:=false) (op:=none) (ol:=0) (oc:=0) (by rw[p0,e]) (by rw[e]at q;exact q)
 | some x=>exact xC key hs cr cm (b:=true) (op:=x.p) (ol:=x.bytes.length) (oc:=x.c) (by rw[p0,e]) (by rw[e]at q;exact q)
theorem Am5{Q:Option Addr->Int->Int->HP}{X:List SR}{L:List Sec}{p:Option Addr}{l c:Nat}(hs:Sat h0 A h)(eL:X.map SR.kv=L)(rd:∀h',Sat h0 A h'->SecsAt h' p l X)(hl:l<2^47)
  (kE:∀e i h',DP L=some (e,i)->Sat h0 A h'->Q none e i h')
  (kT:DP L=none->∀r m R h',R.map SR.kv=L->SR.good R->Sat h0 (LI r m R++A) h'->Q (some ⟨r,0,none⟩) 0 0 h'):G7 p l c Q h:=by
 unfold G7 gK
 try simp only[AF,Nat.zero_add]
 have hL:l=L.length:=by rw[←eL,List.length_map];exact (rd _ hs).1
 rw[AD]
 by_cases g:64<l
 ·rw[if_pos (by rw[decide_eq_true_iff];omega)]
  exact kE _ _ _ (by unfold DP;rw[if_pos (by omega)]) hs
 rw[if_neg (by rw[decide_eq_true_iff];omega)]
 have hn:DP L=goM L L.length:=by unfold DP;rw[if_neg (by omega)]
 rw[hn]at kT
 replace kE:∀e i h',goM L L.length=some (e,i)->Sat h0 A h'->Q none e i h':=fun e i h' x=>kE e i h' (hn.trans x)
 intro m _ hn;replace hs:=hs.mapNew hn
 intro r _ hn;replace hs:=Sat.new hs hn
 intro J13 hJ13
 refine OE L.length (fun t (_:List SR)=>[si t]) (fun t R h=>goM L L.length=goM L (L.length-t)/\R.map SR.kv=L.take t/\SR.good R/\Sat h0 (LI r m R++A) h) ?_ ?_ 0 [] _ (by omega) ⟨rfl,rfl,(show SR.good [] from fun x hx=>by cases hx),hs⟩
 ·rintro t R h1 ht ⟨hg,hR,hgd,hs⟩ hk
  apply hJ13
  rw[AD,if_pos (by rw[decide_eq_true_iff];omega)]
  have rd':∀{B:List Ent} {h':H},Sat h0 (B++(LI r m R++A)) h'->Sat h0 A h':=fun{B h'} hs'=>by
   refine hs'.sub ?_
   exact (List.sublist_append_right _ _).trans (List.sublist_append_right _ _)
  have htX:t<X.length:=by rw[←eL,List.length_map]at ht;exact ht
  obtain⟨q,hq,g0,g1,_,hby,hbl⟩:=(rd _ (rd' (B:=[]) hs)).2 t htX
  have rdb:∀{B:List Ent} {h':H},Sat h0 (B++(LI r m R++A)) h'->hsv h' X[t].p 1 X[t].bytes.length (AA .u8 X[t].bytes):=fun{B h'} hs'=>by
   obtain⟨_,_,_,_,y,_⟩:=(rd _ (rd' (B:=B) hs')).2 t htX
   exact y
  rw[wZ L ht]at hg
  have hkv:L[t]=(X[t].key,X[t].bytes):=by subst eL;simp
  obtain⟨key,hkey⟩:∃key,key=X[t].key:=⟨_,rfl⟩
  obtain⟨bs,hbs⟩:∃bs,bs=X[t].bytes:=⟨_,rfl⟩
  obtain⟨bp,hbp⟩:∃bp,bp=X[t].p:=⟨_,rfl⟩
  obtain⟨bc,hbc⟩:∃bc,bc=X[t].c:=⟨_,rfl⟩
  rw[←hkey,←hbs]at hkv
  rw[←hkey]at g0
  rw[←hbp,←hbs,←hbc]at g1
  rw[←hbs]at hby hbl
  have rdb':∀{B:List Ent} {h':H},Sat h0 (B++(LI r m R++A)) h'->hsv h' bp 1 bs.length (AA .u8 bs):=fun{B h'} hs'=>by
   rw[hbp,hbs];exact rdb (B:=B) hs'
  obtain⟨bl,hbsl⟩:∃bl,bs.length=bl:=⟨_,rfl⟩
  rw[hbsl]at g1 hbl
  rw[hkv]at hg
  refine⟨q,hq,by omega,by omega,?_⟩
  simp only[Int.toNat_natCast]
  refine⟨_,g0,_,_,_,g1,?_⟩
  intro b _ hn;replace hs:=Sat.new hs hn
  refine⟨Sat.can hs .z (by simp),?_⟩
  intro h2 e
  replace hs:=Sat.wra hs .z e rfl
  clear e
  simp only[AG]at hs
  have bad:∀e,e≠0->D5 (L.take t) (key,bs)=e->∀h',Sat h0 A h'->Q none e t h':=by
   intro e he hb h' hs'
   rw[hb,if_neg he]at hg
   exact kE e t h' hg hs'
  intro J26 hJ26
  have no:D5 (L.take t) (key,bs)=2->J26 [.dv (.one (.bool true))] h2:=by
   intro hb
   apply hJ26
   rw[if_pos rfl]
   exact bad 2 (by decide) hb _ (rd' (B:=[_]) hs)
  have way:0≤key->key<64->J26 [.dv (.one (.bool false))] h2:=by
   intro k0 k1
   apply hJ26
   clear hJ26 no
   rw[if_neg (by decide)]
   have bm:D5 (L.take t) (key,bs)=if bs.length<1 then 4 else if 256<bs.length then 4 else if ((L.take t).find? (fun x=>x.1 == key)).isSome=true then 18 else 0:=by
    unfold D5
    dsimp only
    rw[if_neg (by omega),if_neg (by omega)]
   rw[bm]at hg bad
   refine⟨_,_,_,hs.ld .z rfl,?_⟩
   rw[AD]
   by_cases b1:bl<1
   ·rw[if_pos (by rw[decide_eq_true_iff];omega)]
    exact bad 4 (by decide) (by rw[if_pos (by omega)]) _ (rd' (B:=[_]) hs)
   rw[if_neg (by rw[decide_eq_true_iff];omega)]
   rw[if_neg (show ¬bs.length<1 by omega)]at hg bad
   refine⟨_,_,_,hs.ld .z rfl,?_⟩
   rw[AD]
   by_cases b2:256<bl
   ·rw[if_pos (by rw[decide_eq_true_iff];omega)]
    exact bad 4 (by decide) (by rw[if_pos (by omega)]) _ (rd' (B:=[_]) hs)
   rw[if_neg (by rw[decide_eq_true_iff];omega)]
   rw[if_neg (show ¬256<bs.length by omega)]at hg bad
   refine⟨_,hs.ld .z rfl,?_⟩
   refine xA key hs (i:=1) zs1 zs2 ?_
   have ekv:(SR.at_ R key).isSome=((L.take t).find? (fun x=>x.1 == key)).isSome:=by rw[←hR,←ZK];simp
   rw[ekv]
   by_cases b3:((L.take t).find? (fun x=>x.1 == key)).isSome=true
   ·rw[if_pos b3]
    exact bad 18 (by decide) (by rw[if_pos b3]) _ (rd' (B:=[_]) hs)
   rw[if_neg b3]
   rw[if_neg b3,if_pos rfl]at hg
   clear bad
   have hnone:SR.at_ R key=none:=by
    rw[←ekv]at b3
    cases e:SR.at_ R key with
    | none=>rfl
    | some x=>rw[e]at b3;exact absurd rfl b3
   refine⟨_,hs.ld zs1 rfl,_,hs.ld .z rfl,_,_,_,hs.ld .z rfl,?_⟩
   refine AjW (vs:=AA .u8 bs) hs (by omega) (fun h' hs'=>?_) ?_
   ·rw[←hbsl];exact rdb' (B:=[_]) hs'
   intro p' c' h3 _ hs
   refine⟨AI (hs.ld zs1 rfl),AI (hs.ld zs2 rfl),_,_,_,rfl,hs.mapAt zs3,AmU R key _ hnone,?_⟩
   intro h4 e
   replace hs:=hs.mapSet zs3 e
   clear e
   simp only[AS,AG]at hs
   rw[AU (by omega)]
   have hc':=R5 hs .z
   refine hk (R++[⟨key,bs,p',c'⟩]) h4 ⟨hg,?_,?_,?_⟩
   ·rw[List.map_append,hR,AbF ht,hkv];rfl
   ·intro x hx
    rcases List.mem_append.1 hx with hx | hx
    ·exact hgd x hx
    ·simp only[List.mem_cons,List.not_mem_nil,or_false]at hx
     subst hx
     exact⟨by dsimp only;omega,by dsimp only;omega,hby⟩
   ·rw[←hbsl]at hs
    have e1:(R++[(⟨key,bs,p',c'⟩:SR)]).map SR.ent=R.map SR.ent++[(.int .i64 key,.one (.slice p' bs.length c'))]:=by rw[List.map_append];rfl
    have e2:(R++[(⟨key,bs,p',c'⟩:SR)]).map SR.sl=R.map SR.sl++[slE p' bs.length c' 1 (AA .u8 bs)]:=by rw[List.map_append];rfl
    unfold LI
    rw[e1,e2]
    refine Sat.perm (hs.sub (B:=slE p' bs.length c' 1 (AA .u8 bs)::blk r [.map (some m)]::ED m (R.map SR.ent++[(.int .i64 key,.one (.slice p' bs.length c'))])::(R.map SR.sl++A)) (by(repeat (first | exact List.Sublist.refl _ | apply List.Sublist.cons_cons | apply List.Sublist.cons)))) ?_
    simp only[List.cons_append,List.append_assoc,List.nil_append]
    refine (List.Perm.swap _ _ _).trans (List.Perm.cons _ ?_)
    refine (List.Perm.swap _ _ _).trans (List.Perm.cons _ ?_)
    exact List.perm_middle.symm
  refine⟨_,hs.ld .z rfl,?_⟩
  rw[AD]
  by_cases k0:key<0
  ·rw[if_pos (by rw[decide_eq_true_iff];omega)]
   exact no (by unfold D5;dsimp only;rw[if_pos k0])
  rw[if_neg (by rw[decide_eq_true_iff];omega)]
  refine⟨_,hs.ld .z rfl,?_⟩
  rw[A0]
  by_cases k1:63<key
  ·rw[decide_eq_true (by omega)]
   exact no (by unfold D5;dsimp only;rw[if_neg k0,if_pos k1])
  ·rw[decide_eq_false (by omega)]
   exact way (by omega) (by omega)
 ·rintro R h1 ⟨hg,hR,hgd,hs⟩
  apply hJ13
  rw[AD,if_neg (by rw[decide_eq_true_iff];omega)]
  rw[List.take_of_length_le (Nat.le_refl _)]at hR
  rw[Nat.sub_self]at hg
  exact kT hg r m R h1 hR hgd hs
theorem wN{Q:Int->HP}(key:Int){lp:Option Addr}{lc:Nat}{R:List SR}(hs:Sat h0 A h)(cr:At A i (blk r [.slice lp R.length lc]))(cl:At A j (slE lp R.length lc 2 (DQ R)))(hR:R.length<2^40)
  (k:∀n:Int,(SR.at_ R key=none/\n=-1)∨(∃t,∃ht:t<R.length,n=(t:Int)/\SR.at_ R key=some R[t])->Q n h):KW ⟨r,0,none⟩ key Q h:=by
 unfold KW lL
 intro J hJ
 refine BB R.length (fun t h'=>SR.at_ R key=SR.at_ (R.drop t) key/\h'=h) ?_ ?_ 0 _ (by omega) ⟨rfl,rfl⟩
 ·rintro t h1 ht ⟨hf,rfl⟩ hk
  apply hJ
  refine⟨_,_,_,hs.ld cr rfl,?_⟩
  rw[AD,if_pos (by rw[decide_eq_true_iff];omega)]
  obtain⟨q,hq,g⟩:=FP (hs.sv cl) (AaY R t ht).1
  refine⟨_,_,_,hs.ld cr rfl,q,hq,by omega,by omega,?_⟩
  simp only[Int.toNat_natCast]
  refine⟨_,g,?_⟩
  rw[List.drop_eq_getElem_cons ht]at hf
  unfold SR.at_ at hf
  rw[List.find?_cons]at hf
  by_cases c:R[t].key=key
  ·have c2:(R[t].key == key)=true:=by simpa using c
   rw[c2]at hf
   rw[if_pos c2]
   exact k _ (Or.inr ⟨t,ht,rfl,hf⟩)
  ·have c2:(R[t].key == key)=false:=by simpa using c
   rw[c2]at hf
   rw[if_neg (by rw[c2];decide),AU (by omega)]
   exact hk _ ⟨hf,rfl⟩
 ·rintro h1 ⟨hf,rfl⟩
  apply hJ
  refine⟨_,_,_,hs.ld cr rfl,?_⟩
  rw[AD,if_neg (by simp)]
  rw[List.drop_of_length_le (Nat.le_refl _)]at hf
  exact k _ (Or.inl ⟨hf,rfl⟩)
theorem AaE{Q:Bool->HP}(key:Int){lp:Option Addr}{lc:Nat}{R:List SR}(hs:Sat h0 A h)(cr:At A i (blk r [.slice lp R.length lc]))(cl:At A j (slE lp R.length lc 2 (DQ R)))(hR:R.length<2^40)(q:Q (SR.at_ R key).isSome h):NM ⟨r,0,none⟩ key Q h:=by
 unfold NM lJ
 refine wN key hs cr cl hR ?_
 intro n hn
 rw[A0]
 rcases hn with⟨e,rfl⟩ | ⟨t,ht,rfl,e⟩
 ·rw[e]at q;exact q
 ·rw[e]at q
  rw[decide_eq_true (by omega)]
  exact q
theorem AoO{Q:Option Addr->Int->Int->HP}{X:List SR}{L:List Sec}{p:Option Addr}{l c:Nat}(hs:Sat h0 A h)(eL:X.map SR.kv=L)(rd:∀h',Sat h0 A h'->SecsAt h' p l X)(hl:l<2^47)
  (kE:∀e i h',DP L=some (e,i)->Sat h0 A h'->Q none e i h')
  (kT:DP L=none->∀r lp lc R h',R.map SR.kv=L->SR.good R->Sat h0 (SM r lp lc R++A) h'->Q (some ⟨r,0,none⟩) 0 0 h'):NL p l c Q h:=by
 unfold NL lI
 have hL:l=L.length:=by rw[←eL,List.length_map];exact (rd _ hs).1
 rw[AD]
 by_cases g:64<l
 ·rw[if_pos (by rw[decide_eq_true_iff];omega)]
  exact kE _ _ _ (by unfold DP;rw[if_pos (by omega)]) hs
 rw[if_neg (by rw[decide_eq_true_iff];omega)]
 have hn:DP L=goM L L.length:=by unfold DP;rw[if_neg (by omega)]
 rw[hn]at kT
 replace kE:∀e i h',goM L L.length=some (e,i)->Sat h0 A h'->Q none e i h':=fun e i h' x=>kE e i h' (hn.trans x)
 intro r _ hn;replace hs:=Sat.new hs hn
 intro J9 hJ9
 refine OE L.length (fun t (_:List SR×Option Addr×Nat)=>[si t]) (fun t s h=>goM L L.length=goM L (L.length-t)/\s.1.map SR.kv=L.take t/\SR.good s.1/\Sat h0 (SM r s.2.1 s.2.2 s.1++A) h) ?_ ?_ 0 ([],none,0) _ (by omega) ⟨rfl,rfl,(show SR.good [] from fun x hx=>by cases hx),?_⟩
 ·rintro t ⟨R,lp,lc⟩ h1 ht ⟨hg,hR,hgd,hs⟩ hk
  dsimp only at hg hR hgd hs hk ⊢
  apply hJ9
  rw[AD,if_pos (by rw[decide_eq_true_iff];omega)]
  have hRl:R.length=t:=by
   have:=congrArg List.length hR
   rw[List.length_map,List.length_take]at this;omega
  have rd':∀{B:List Ent} {h':H},Sat h0 (B++(SM r lp lc R++A)) h'->Sat h0 A h':=fun{B h'} hs'=>by
   refine hs'.sub ?_
   exact (List.sublist_append_right _ _).trans (List.sublist_append_right _ _)
  have htX:t<X.length:=by rw[←eL,List.length_map]at ht;exact ht
  obtain⟨q,hq,g0,g1,_,hby,hbl⟩:=(rd _ (rd' (B:=[]) hs)).2 t htX
  rw[wZ L ht]at hg
  have hkv:L[t]=(X[t].key,X[t].bytes):=by subst eL;simp
  obtain⟨Y,hY⟩:∃Y,Y=X[t]:=⟨_,rfl⟩
  have rdY:∀{B:List Ent} {h':H},Sat h0 (B++(SM r lp lc R++A)) h'->hc h' (q.add (t*2))=some (.int .i64 Y.key)/\hc h' ((q.add (t*2)).add 1)=some (.slice Y.p Y.bytes.length Y.c)/\hsv h' Y.p 1 Y.bytes.length (AA .u8 Y.bytes):=fun{B h'} hs'=>by
   obtain⟨q',hq',y0,y1,y2,_,_⟩:=(rd _ (rd' (B:=B) hs')).2 t htX
   rw[hq]at hq'
   injection hq' with hq'
   subst hq'
   rw[hY]
   exact⟨y0,y1,y2⟩
  rw[←hY]at hkv hby hbl
  clear g0 g1
  obtain⟨g0,g1,_⟩:=rdY (B:=[]) hs
  rw[hkv]at hg
  have bad:∀e,e≠0->D5 (L.take t) (Y.key,Y.bytes)=e->Q none e t h1:=by
   intro e he hb
   rw[hb,if_neg he]at hg
   exact kE e t h1 hg (rd' (B:=[]) hs)
  simp only[Int.toNat_natCast]
  intro J12 hJ12
  have way:0≤Y.key->Y.key<64->J12 [] h1:=by
   intro k0 k1
   apply hJ12
   clear hJ12
   have bm:D5 (L.take t) (Y.key,Y.bytes)=if Y.bytes.length<1 then 4 else if 256<Y.bytes.length then 4 else if ((L.take t).find? (fun x=>x.1 == Y.key)).isSome=true then 18 else 0:=by
    unfold D5
    dsimp only
    rw[if_neg (by omega),if_neg (by omega)]
   rw[bm]at hg bad
   intro J14 hJ14
   refine⟨q,hq,by omega,by omega,_,_,_,g1,?_⟩
   rw[AD]
   by_cases b1:Y.bytes.length<1
   ·rw[if_pos (by rw[decide_eq_true_iff];omega)]
    exact bad 4 (by decide) (by rw[if_pos (by omega)])
   rw[if_neg (by rw[decide_eq_true_iff];omega)]
   rw[if_neg (show ¬Y.bytes.length<1 by omega)]at hg bad
   refine⟨q,hq,by omega,by omega,_,_,_,g1,?_⟩
   rw[AD]
   by_cases b2:256<Y.bytes.length
   ·rw[if_pos (by rw[decide_eq_true_iff];omega)]
    exact bad 4 (by decide) (by rw[if_pos (by omega)])
   rw[if_neg (by rw[decide_eq_true_iff];omega)]
   rw[if_neg (show ¬256<Y.bytes.length by omega)]at hg bad
   apply hJ14
   clear hJ14
   refine⟨q,hq,by omega,by omega,_,g0,?_⟩
   refine AaE Y.key hs (i:=0) .z zs1 (by omega) ?_
   have ekv:(SR.at_ R Y.key).isSome=((L.take t).find? (fun x=>x.1 == Y.key)).isSome:=by rw[←hR,←ZK];simp
   rw[ekv]
   by_cases b3:((L.take t).find? (fun x=>x.1 == Y.key)).isSome=true
   ·rw[if_pos b3]
    exact bad 18 (by decide) (by rw[if_pos b3])
   rw[if_neg b3]
   rw[if_neg b3,if_pos rfl]at hg
   clear bad
   intro eb _ hn;replace hs:=Sat.new hs hn
   obtain⟨g0,g1,gb⟩:=rdY (B:=[_]) hs
   refine⟨_,_,_,hs.ld zs1 rfl,q,hq,by omega,by omega,_,g0,q,hq,by omega,by omega,_,_,_,g1,_,gb,?_⟩
   refine Sat.app_new hs (by simp) rfl (A5 _ _) (by omega) ?_
   intro p' c' h3 hs
   have hc':=R5 hs .z
   obtain⟨g0,g1,gb⟩:=rdY (B:=[_,_]) hs
   refine⟨AI g0,AI (hs.ld zs2 rfl),?_⟩
   intro nb _ hn;replace hs:=Sat.new hs hn
   have one2:∀v,v∈[Value.int .i64 Y.key,.slice p' Y.bytes.length c']->v.oneCell'=true:=by
    intro v hv
    simp only[List.mem_cons,List.not_mem_nil,or_false]at hv
    rcases hv with rfl | rfl <;> rfl
   refine⟨AI (hs.ld zs3 rfl),_,hs.bv (i:=0) (l:=1) (sz:=2) .z rfl one2,?_⟩
   refine Sat.app hs (i:=4) (vs:=[Value.int .i64 Y.key,.slice p' Y.bytes.length c']) zs4 rfl rfl one2 (by omega) ?_
   intro lp2 lc2 h4 hs
   simp only[AS,AG]at hs
   refine⟨Sat.can hs zs3 (by simp),?_⟩
   intro h5 e
   replace hs:=Sat.wra (xs:=[.slice lp2 (R.length+1) lc2]) hs zs3 e rfl
   clear e
   simp only[AS,AG]at hs
   rw[AU (by omega)]
   refine hk (R++[⟨Y.key,Y.bytes,p',c'⟩],lp2,lc2) h5 ⟨hg,?_,?_,?_⟩
   ·dsimp only
    rw[List.map_append,hR,AbF ht,hkv];rfl
   ·intro x hx
    rcases List.mem_append.1 hx with hx | hx
    ·exact hgd x hx
    ·simp only[List.mem_cons,List.not_mem_nil,or_false]at hx
     subst hx
     exact⟨by dsimp only;omega,by dsimp only;omega,hby⟩
   ·dsimp only
    have e1:DQ (R++[(⟨Y.key,Y.bytes,p',c'⟩:SR)])=DQ R++[.int .i64 Y.key,.slice p' Y.bytes.length c']:=by rw[ApJ];rfl
    have e2:(R++[(⟨Y.key,Y.bytes,p',c'⟩:SR)]).map SR.sl=R.map SR.sl++[slE p' Y.bytes.length c' 1 (AA .u8 Y.bytes)]:=by rw[List.map_append];rfl
    have e3:(R++[(⟨Y.key,Y.bytes,p',c'⟩:SR)]).length=R.length+1:=by simp
    unfold SM
    rw[e1,e2,e3]
    refine Sat.perm (hs.sub (B:=slE p' Y.bytes.length c' 1 (AA .u8 Y.bytes)::blk r [.slice lp2 (R.length+1) lc2]::slE lp2 (R.length+1) lc2 2 (DQ R++[.int .i64 Y.key,.slice p' Y.bytes.length c'])::(R.map SR.sl++A)) (by(repeat (first | exact List.Sublist.refl _ | apply List.Sublist.cons_cons | apply List.Sublist.cons)))) ?_
    simp only[List.cons_append,List.append_assoc,List.nil_append]
    refine (List.Perm.swap _ _ _).trans (List.Perm.cons _ ?_)
    refine (List.Perm.swap _ _ _).trans (List.Perm.cons _ ?_)
    exact List.perm_middle.symm
  refine⟨q,hq,by omega,by omega,_,g0,?_⟩
  rw[AD]
  by_cases k0:Y.key<0
  ·rw[if_pos (by rw[decide_eq_true_iff];omega)]
   exact bad 2 (by decide) (by unfold D5;dsimp only;rw[if_pos k0])
  rw[if_neg (by rw[decide_eq_true_iff];omega)]
  refine⟨q,hq,by omega,by omega,_,g0,?_⟩
  rw[AD]
  by_cases k1:63<Y.key
  ·rw[if_pos (by rw[decide_eq_true_iff];omega)]
   exact bad 2 (by decide) (by unfold D5;dsimp only;rw[if_neg k0,if_pos k1])
  ·rw[if_neg (by rw[decide_eq_true_iff];omega)]
   exact way (by omega) (by omega)
 ·rintro⟨R,lp,lc⟩ h1 ⟨hg,hR,hgd,hs⟩
  dsimp only at hg hR hgd hs ⊢
  apply hJ9
  rw[AD,if_neg (by rw[decide_eq_true_iff];omega)]
  rw[List.take_of_length_le (Nat.le_refl _)]at hR
  rw[Nat.sub_self]at hg
  exact kT hg r lp lc R h1 hR hgd hs
 ·dsimp only
  have:=hs.sl_nil 2 none
  exact this.perm (List.Perm.swap _ _ _)
end
end Go.Proofs.YteedolonhdbieaaGreatDoor
end
section
namespace Go.Proofs.YteedolonhdbieaaGreatDoor
open Go Go.Vc Go.ChangeShapes Go.WideShapes Go.ChangeAt Go.RowKit
set_option maxRecDepth 100000
theorem ArB:xsh PP 8 172=some [.int .i64,.slc 5]:=by kernel_rfl
section
variable {D:Type} {enc:TypeId×Value->D} {W:World}
theorem ApK{p:Option Addr}{l c:Nat}(h:Sli enc PP W 172 p l c):∃X:List SR,SecsAt W.heap p l X/\l<2^47/\∀i (hi:i<X.length),X[i].bytes.length≤X[i].c:=by
 have hb:Tryz.prog.bytesOf 172=32:=by kernel_rfl
 have hc:Tryz.prog.cellsOf 172=2:=by kernel_rfl
 obtain⟨ess,h1,h2,_,h4⟩:=h.els ArB
 have hlc:=h.1
 have hr:=h.2.1
 rw[hb]at hr
 unfold reachBytes at hr
 have key:∀ess:List (List Value),(∀es,es∈ess->es.length=Tryz.prog.cellsOf 172/\XM enc PP W [.int .i64,.slc 5] es)->∃X:List SR,X.length=ess.length/\∀i (hi:i<X.length) (hi2:i<ess.length),ess[i]=[.int .i64 X[i].key,.slice X[i].p X[i].bytes.length X[i].c]/\hsv W.heap X[i].p 1 X[i].bytes.length (AA .u8 X[i].bytes)/\XY X[i].bytes/\X[i].bytes.length<2^47/\X[i].bytes.length≤X[i].c:=by
  intro ess
  induction ess with
  | nil=>intro _;exact⟨[],rfl,fun i hi=>by simp at hi⟩
  | cons x r ih=>
   intro h
   obtain⟨X,e1,e2⟩:=ih fun es hes=>h es (by simp[hes])
   obtain⟨k,_,rfl,_,xp,xl,xc,_,rfl,hh,hr⟩:=(h x (by simp)).2
   simp only[XM]at hr
   subst hr
   obtain⟨bs,b1,b2,b3,b4⟩:=AjA hh
   have hbl:bs.length=xl:=by have:=b1.1;simpa using this
   refine⟨⟨k,bs,xp,xc⟩::X,by simp[e1],?_⟩
   intro i hi hi2
   cases i with
   | zero=>subst hbl;exact⟨rfl,b1,b2,by dsimp only[List.getElem_cons_zero];omega,b3⟩
   | succ i=>exact e2 i (by simpa using hi) (by simpa using hi2)
 obtain⟨X,e1,e2⟩:=key ess h2
 refine⟨X,⟨by omega,fun i hi=>?_⟩,by omega,fun i hi=>(e2 i hi (by omega)).2.2.2.2⟩
 obtain⟨e3,e4,e5,e6,_⟩:=e2 i hi (by omega)
 obtain⟨q,hq,g⟩:=h4 i (by omega)
 rw[e3,hc]at g
 have g0:=g 0 _ rfl
 rw[add_zero]at g0
 exact⟨q,hq,g0,g 1 _ rfl,e4,e5,e6⟩
theorem ApL{p:Option Addr}{l c:Nat}(h:Sli enc PP W 172 p l c):∃X:List SR,SecsAt W.heap p l X/\l<2^47:=by
 obtain⟨X,a,b,_⟩:=ApK h
 exact⟨X,a,b⟩
end
end Go.Proofs.YteedolonhdbieaaGreatDoor
end
section
namespace Go.Proofs.YteedolonhdbieaaGreatDoor
open Go Go.Vc
set_option maxRecDepth 100000
structure TkE where
 e:Int
 key:Int
 id:List Int
 tag:List Int
section
variable {h0 h:H} {A:List Ent} {i j d r m:Nat}
end
structure NkE where
 e:Int
 key:Int
 id:List Int
 cs:List CvM
 tag:List Int
section
variable {h0 h:H} {A:List Ent} {i j d r m:Nat}
theorem yN{Q:Option Addr->Int->Int->HP}{X:List SR}{L:List Sec}{p:Option Addr}{l c:Nat}(hs:Sat h0 A h)(eL:X.map SR.kv=L)(rd:∀h',Sat h0 A h'->SecsAt h' p l X)(hl:l<2^47)
  (k:∀o e i h' B,Sat h0 (B++A) h'->(DP L=some (e,i)/\o=none)∨(DP L=none/\e=0/\∃r m R,o=some ⟨r,0,none⟩/\R.map SR.kv=L/\SR.good R/\B=LI r m R)->Q o e i h'):G7 p l c Q h:=
 Am5 hs eL rd hl (fun e i h' he hs=>k none e i h' [] hs (Or.inl ⟨he,rfl⟩)) (fun hn r m R h' e1 e2 hs=>k _ 0 0 h' _ hs (Or.inr ⟨hn,rfl,r,m,R,rfl,e1,e2,rfl⟩))
theorem AoP{Q:Option Addr->Int->Int->HP}{X:List SR}{L:List Sec}{p:Option Addr}{l c:Nat}(hs:Sat h0 A h)(eL:X.map SR.kv=L)(rd:∀h',Sat h0 A h'->SecsAt h' p l X)(hl:l<2^47)
  (k:∀o e i h' B,Sat h0 (B++A) h'->(DP L=some (e,i)/\o=none)∨(DP L=none/\e=0/\∃r lp lc R,o=some ⟨r,0,none⟩/\R.map SR.kv=L/\SR.good R/\B=SM r lp lc R)->Q o e i h'):NL p l c Q h:=
 AoO hs eL rd hl (fun e i h' he hs=>k none e i h' [] hs (Or.inl ⟨he,rfl⟩)) (fun hn r lp lc R h' e1 e2 hs=>k _ 0 0 h' _ hs (Or.inr ⟨hn,rfl,r,lp,lc,R,rfl,e1,e2,rfl⟩))
theorem AmT{A:List Ent}{x:Nat}{E:Ent}(a:At A x E):E∈A:=by
 induction a with
 | z=>exact List.mem_cons_self
 | s _ ih=>exact List.mem_cons_of_mem _ ih
end
end Go.Proofs.YteedolonhdbieaaGreatDoor
end
section
namespace Go.Proofs.YteedolonhdbieaaGreatDoor
open Go Go.Vc
set_option maxRecDepth 100000
attribute [local irreducible] BI
structure PrM where
 key:List Int
 b:List Int
 tag:List Int
section
variable {h0 h:H} {A:List Ent} {i j d r m:Nat}
end
end Go.Proofs.YteedolonhdbieaaGreatDoor
end
section
namespace Go.Proofs.YteedolonhdbieaaGreatDoor
open Go Go.Vc
set_option maxRecDepth 100000
attribute [local irreducible] BI
theorem AnF{a x y:Int}(ha:0≤a/\a<256)(hx:0≤x/\x<256)(hy:0≤y/\y<256):bits .or .u8 a (bits .xor .u8 x y)=0↔a=0/\x=y:=by
 obtain⟨a,rfl⟩:=Int.eq_ofNat_of_zero_le ha.1
 obtain⟨x,rfl⟩:=Int.eq_ofNat_of_zero_le hx.1
 obtain⟨y,rfl⟩:=Int.eq_ofNat_of_zero_le hy.1
 have e1:bits .xor .u8 (x:Int) (y:Int)=((x ^^^ y:Nat):Int):=by
  have:bits .xor .u8 (x:Int) (y:Int)=IntKind.u8.wrap ((BitVec.ofInt 8 (x:Int) ^^^ BitVec.ofInt 8 (y:Int)).toNat:Int):=rfl
  rw[this,IntKind.wrap_u8]
  simp only[BitVec.toNat_xor,BitVec.toNat_ofInt]
  have ex:((x:Int) % ((2^8:Nat):Int)).toNat=x:=by omega
  have ey:((y:Int) % ((2^8:Nat):Int)).toNat=y:=by omega
  rw[ex,ey]
  have:x ^^^ y<2^8:=Nat.xor_lt_two_pow (by omega) (by omega)
  omega
 have hz:x ^^^ y<2^8:=Nat.xor_lt_two_pow (by omega) (by omega)
 rw[e1]
 obtain⟨z,hzz⟩:∃z,z=x ^^^ y:=⟨_,rfl⟩
 rw[←hzz]at hz ⊢
 have e2:bits .or .u8 (a:Int) (z:Int)=((a ||| z:Nat):Int):=by
  have:bits .or .u8 (a:Int) (z:Int)=IntKind.u8.wrap ((BitVec.ofInt 8 (a:Int) ||| BitVec.ofInt 8 (z:Int)).toNat:Int):=rfl
  rw[this,IntKind.wrap_u8]
  simp only[BitVec.toNat_or,BitVec.toNat_ofInt]
  have ex:((a:Int) % ((2^8:Nat):Int)).toNat=a:=by omega
  have ey:((z:Int) % ((2^8:Nat):Int)).toNat=z:=by omega
  rw[ex,ey]
  have:a ||| z<2^8:=Nat.or_lt_two_pow (by omega) hz
  omega
 rw[e2]
 have e3:((a ||| z:Nat):Int)=0↔a=0/\z=0:=by
  rw[Int.natCast_eq_zero,Nat.or_eq_zero_iff]
 have e4:x ^^^ y=0↔x=y:=by
  constructor
  ·intro g
   have:x=(x ^^^ y) ^^^ y:=by rw[Nat.xor_assoc,Nat.xor_self,Nat.xor_zero]
   rw[g,Nat.zero_xor]at this
   exact this
  ·rintro rfl;exact Nat.xor_self x
 rw[e3,hzz,e4]
 omega
section
variable {h0 h:H} {A:List Ent} {i j d r m:Nat}
theorem AkL{Q:Bool->HP}{px py:Addr}{c c2:Nat}{x y:List Int}(hx:BU x)(hy:BU y)(lx:x.length=32)(ly:y.length=32)(rx:hrow h px .u8 x)(ry:hrow h py .u8 y)(k:Q (decide (x=y)) h):PZ (some px) 32 c (some py) 32 c2 Q h:=by
 unfold PZ iC
 rw[if_neg (by simp)]
 intro J hJ
 refine pW 32 (fun t (s:Int)=>[.dv (.one (.int .u8 s)),si t]) (fun t s h'=>h'=h/\(0≤s/\s<256)/\(s=0↔x.take t=y.take t)) ?_ ?_ 0 0 _ (by omega) ⟨rfl,by decide,by simp⟩
 ·rintro t s h1 ht ⟨rfl,hs,he⟩ hk
  apply hJ
  rw[AD,if_pos (by rw[decide_eq_true_iff];omega)]
  have tx:t<x.length:=by omega
  have ty:t<y.length:=by omega
  have gx:=rx t (.int .u8 x[t]) (by rw[BA,List.getElem?_eq_getElem tx];rfl)
  have gy:=ry t (.int .u8 y[t]) (by rw[BA,List.getElem?_eq_getElem ty];rfl)
  refine⟨px,rfl,by omega,by omega,x[t],by simpa using gx,py,rfl,by omega,by omega,y[t],by simpa using gy,?_⟩
  have bx:=hx x[t] (List.getElem_mem tx)
  have by_:=hy y[t] (List.getElem_mem ty)
  rw[AU (by omega)]
  refine hk (bits .or .u8 s (bits .xor .u8 x[t] y[t])) _ ⟨rfl,?_,?_⟩
  ·have:bits .or .u8 s (bits .xor .u8 x[t] y[t])=IntKind.u8.wrap ((BitVec.ofInt 8 s ||| BitVec.ofInt 8 (bits .xor .u8 x[t] y[t])).toNat:Int):=rfl
   rw[this,IntKind.wrap_u8];omega
  ·rw[AnF hs bx by_,he,q6 _ tx,q6 _ ty]
   constructor
   ·rintro⟨a,b⟩;rw[a,b]
   ·intro a
    have:=List.append_inj a (by simp;omega)
    exact⟨this.1,by simpa using this.2⟩
 ·rintro s h1 ⟨rfl,hs,he⟩
  apply hJ
  rw[AD,if_neg (by decide)]
  rw[List.take_of_length_le (by omega),List.take_of_length_le (by omega)]at he
  have:(s == 0)=decide (x=y):=by
   by_cases c:x=y
   ·rw[decide_eq_true c];simpa using he.2 c
   ·rw[decide_eq_false c];simpa using fun y=>c (he.1 y)
  rw[this]
  exact k
end
end Go.Proofs.YteedolonhdbieaaGreatDoor
end
section
namespace Go.Proofs.YteedolonhdbieaaGreatDoor
open Go Go.Vc
structure St.lays (c:Cfg) (s:St):Prop where
 fits:s.fits c
 pos:∀n,n∈s.erases->0≤n
def CW(c:Cfg)(s:St):Cm:=⟨c,s,0,false,-1,[]⟩
theorem pR{c:Cfg}{s:St}(m:c.may)(f:s.lays c)(t:s.typed):(CW c s).ok:=
 ⟨m,f.fits,t,by simp[CW],by simp[CW],by intro n hn;simp[CW]at hn,by simp[CW],by simp[CW]⟩
section
variable {h0 h:H} {A:List Ent} {i p:Nat} {C:Cm}
theorem Ak0{p:Option Addr}{l c:Nat}{ns:List Int}{Q:Bool->HP}(hs:Sat h0 A h)(rd:hsv h p 1 l (AA .i64 ns))(hl:l<2^62)(k:Q (ns.any fun n=>decide (n<0)) h):
  RQ p l c (.func (.func xR) #[] #[]) Q h:=by
 unfold RQ mR W6 mT
 intro J hJ
 have hlen:ns.length=l:=by have:=rd.1;simpa using this
 refine BB l (fun i h'=>h'=h/\∀j (hj:j<ns.length),j<i->0≤ns[j]) ?_ ?_ 0 _ (by omega) ⟨rfl,fun j _ hj=>by omega⟩
 ·rintro i h' hi ⟨rfl,hb⟩ hk
  apply hJ
  rw[AD,if_pos (by simp;omega)]
  have hin:i<ns.length:=by omega
  obtain⟨q,hq,g⟩:=FP rd (i:=i) (v:=.int .i64 ns[i]) (by rw[BA,List.getElem?_eq_getElem hin];rfl)
  refine⟨q,hq,by omega,by omega,_,by simpa using g,?_⟩
  refine ZO Af2 (by simp) (by simp) (by simp[DV.ok]) ?_
  show YY ns[i] _ h'
  unfold YY fF
  refine⟨_,_,rfl,_,rfl,rfl,?_⟩
  rw[AD]
  by_cases hn:ns[i]<0
  ·rw[if_pos (by simpa using hn)]
   have:(ns.any fun n=>decide (n<0))=true:=by rw[List.any_eq_true];exact⟨_,List.getElem_mem hin,by simpa using hn⟩
   rw[this]at k
   simpa using k
  ·rw[if_neg (by simpa using hn),AU (by omega)]
   refine hk _ ⟨rfl,fun j hj hji=>?_⟩
   by_cases e:j=i
   ·subst e;omega
   ·exact hb j hj (by omega)
 ·rintro h' ⟨rfl,hb⟩
  apply hJ
  rw[AD,if_neg (by simp)]
  have:(ns.any fun n=>decide (n<0))=false:=by
   rw[List.any_eq_false]
   intro n hn
   obtain⟨j,hj,rfl⟩:=List.mem_iff_getElem.1 hn
   have:=hb j hj (by omega)
   simp;omega
  rw[this]at k
  simpa using k
theorem AjZ{a:Sl}{rows:List (List Int)}{Q:Bool->HP}{b:Nat}{c:Cfg}(hs:Sat h0 A h)(m:At A i (blk b [.int .i64 c.cells,.int .i64 c.slots,.int .i64 c.fuses,.int .i64 c.step,.int .i64 c.keys,.int .i64 c.erases,.int .i64 c.area]))(rd:RdM h 32 a rows)(hl:a.2.1<2^62)
  (k:Q (rows.any fun r=>decide ((r.length:Int)≠32*c.cells)) h):
  RP a.1 a.2.1 a.2.2 (.func (.func xQ) #[] #[.pointer (some ⟨b,0,none⟩)]) Q h:=by
 unfold RP mQ W5 mS
 intro J hJ
 have hlen:=rd.len
 refine BB a.2.1 (fun i h'=>h'=h/\∀j (hj:j<rows.length),j<i->(rows[j].length:Int)=32*c.cells) ?_ ?_ 0 _ (by omega) ⟨rfl,fun j _ hj=>by omega⟩
 ·rintro i h' hi ⟨rfl,hb⟩ hk
  apply hJ
  rw[AD,if_pos (by simp;omega)]
  have hin:i<rows.length:=by omega
  obtain⟨q,x,hq,g,e⟩:=rd.at hin
  have hx:rows[i].length=x.2.1*32:=by have:=e.1;simpa using this
  refine⟨q,hq,by omega,by omega,_,_,_,by simpa using g,?_⟩
  refine ZO Af1 (by simp) (by simp) (by simp[DV.ok]) ?_
  show YX x.1 x.2.1 x.2.2 ⟨b,0,none⟩ _ h'
  unfold YX fE
  refine⟨_,hs.ld m rfl,?_⟩
  refine⟨_,_,rfl,_,rfl,rfl,?_⟩
  by_cases hn:(rows[i].length:Int)=32*c.cells
  ·rw[if_neg (by simp;omega),AU (by omega)]
   refine hk _ ⟨rfl,fun j hj hji=>?_⟩
   by_cases e:j=i
   ·subst e;omega
   ·exact hb j hj (by omega)
  ·rw[if_pos (by simp;omega)]
   have:(rows.any fun r=>decide ((r.length:Int)≠32*c.cells))=true:=by rw[List.any_eq_true];exact⟨_,List.getElem_mem hin,by simpa using hn⟩
   rw[this]at k
   simpa using k
 ·rintro h' ⟨rfl,hb⟩
  apply hJ
  rw[AD,if_neg (by simp)]
  have:(rows.any fun r=>decide ((r.length:Int)≠32*c.cells))=false:=by
   rw[List.any_eq_false]
   intro n hn
   obtain⟨j,hj,rfl⟩:=List.mem_iff_getElem.1 hn
   have:=hb j hj (by omega)
   simp;omega
  rw[this]at k
  simpa using k
theorem AdY{a b c':Sl}{s:St}(c:Cfg){Q:Option Addr->Int->HP}(hs:Sat h0 A h)(rd:∀h',Sat h0 A h'->RdS h' a b c' s)(ty:s.typed)
  (k1:¬c.may->∀h',Sat h0 A h'->Q none 1 h') (k2:c.may->¬s.lays c->∀h',Sat h0 A h'->Q none 5 h')
  (k3:c.may->s.lays c->∀p h',Sat h0 (AH p (CW c s)::A) h'->Q (some ⟨p,0,none⟩) 0 h'):
  JU c.cells c.slots c.fuses c.step c.keys c.erases c.area a.1 a.2.1 a.2.2 b.1 b.2.1 b.2.2 c'.1 c'.2.1 c'.2.2 Q h:=by
 unfold JU fD
 try simp only[AF,Nat.zero_add]
 intro n1 _ hn;replace hs:=Sat.new hs hn
 intro n2 _ hn;replace hs:=Sat.new hs hn
 (repeat first | refine⟨_,Sat.ld hs (by repeat constructor) (by rfl),?_⟩ | refine⟨_,_,_,Sat.ld hs (by repeat constructor) (by rfl),?_⟩ | (intro _ _ hn;replace hs:=Sat.new hs hn) | refine⟨Sat.cs hs (by repeat constructor) (by rfl),?_⟩ | (refine⟨Sat.can hs (by repeat constructor) (by simp),?_⟩;intro _ e;replace hs:=Sat.wr hs (by repeat constructor) e;clear e;simp only[put,AR,List.set]at hs))
 refine nF c hs ?_
 intro h1 hs
 unfold Cfg.may?
 by_cases hm:c.may
 case neg=>
  rw[if_neg hm,if_pos (by decide)]
  exact k1 hm _ hs.drop.drop
 rw[if_pos hm,if_neg (by decide)]
 have hnp:=hm.np
 have hnf:=hm.nf
 intro J hJ
 have rd0:=rd _ hs.drop.drop
 have l1:=rd0.pg.len
 have l2:s.erases.length=b.2.1:=by have:=rd0.er.1;simpa using this
 have l3:s.blown.length=c'.2.1:=by have:=rd0.bl.1;simpa using this
 have bad:¬s.lays c->∀h',Sat h0 (blk n2 [a.v,b.v,c'.v]::blk n1 [.int .i64 c.cells,.int .i64 c.slots,.int .i64 c.fuses,.int .i64 c.step,.int .i64 c.keys,.int .i64 c.erases,.int .i64 c.area]::A) h'->J [SV.dv (DV.one (.bool true))] h':=by
  intro nf h' hs
  apply hJ
  rw[if_pos rfl]
  exact k2 hm nf _ hs.drop.drop
 (repeat first | refine⟨_,Sat.ld hs (by repeat constructor) (by rfl),?_⟩ | refine⟨_,_,_,Sat.ld hs (by repeat constructor) (by rfl),?_⟩ | (intro _ _ hn;replace hs:=Sat.new hs hn) | refine⟨Sat.cs hs (by repeat constructor) (by rfl),?_⟩ | (refine⟨Sat.can hs (by repeat constructor) (by simp),?_⟩;intro _ e;replace hs:=Sat.wr hs (by repeat constructor) e;clear e;simp only[put,AR,List.set]at hs))
 refine aT c hm hs ?_
 intro h2 hs
 refine⟨Sat.cs hs (by repeat constructor) (by rfl),?_⟩
 by_cases e1:(s.pages.length:Int)=c.np
 case neg=>
  rw[if_pos (by simp;omega)]
  exact bad (fun f=>e1 f.fits.pages) _ hs
 rw[if_neg (by simp;omega)]
 (repeat first | refine⟨_,Sat.ld hs (by repeat constructor) (by rfl),?_⟩ | refine⟨_,_,_,Sat.ld hs (by repeat constructor) (by rfl),?_⟩ | (intro _ _ hn;replace hs:=Sat.new hs hn) | refine⟨Sat.cs hs (by repeat constructor) (by rfl),?_⟩ | (refine⟨Sat.can hs (by repeat constructor) (by simp),?_⟩;intro _ e;replace hs:=Sat.wr hs (by repeat constructor) e;clear e;simp only[put,AR,List.set]at hs))
 refine aT c hm hs ?_
 intro h3 hs
 refine⟨Sat.cs hs (by repeat constructor) (by rfl),?_⟩
 by_cases e2:(s.erases.length:Int)=c.np
 case neg=>
  rw[if_pos (by simp;omega)]
  exact bad (fun f=>e2 f.fits.erases) _ hs
 rw[if_neg (by simp;omega)]
 (repeat first | refine⟨_,Sat.ld hs (by repeat constructor) (by rfl),?_⟩ | refine⟨_,_,_,Sat.ld hs (by repeat constructor) (by rfl),?_⟩ | (intro _ _ hn;replace hs:=Sat.new hs hn) | refine⟨Sat.cs hs (by repeat constructor) (by rfl),?_⟩ | (refine⟨Sat.can hs (by repeat constructor) (by simp),?_⟩;intro _ e;replace hs:=Sat.wr hs (by repeat constructor) e;clear e;simp only[put,AR,List.set]at hs))
 refine wS c hm hs ?_
 intro h4 hs
 refine⟨Sat.cs hs (by repeat constructor) (by rfl),?_⟩
 by_cases e3:(s.blown.length:Int)=c.nf
 case neg=>
  rw[if_pos (by simp;omega)]
  exact bad (fun f=>e3 f.fits.blown) _ hs
 rw[if_neg (by simp;omega)]
 refine⟨_,_,_,Sat.ld hs (by repeat constructor) (by rfl),?_⟩
 refine AjZ (i:=1) (c:=c) hs zs1 (rd _ hs.drop.drop).pg (by omega) ?_
 by_cases e4:∀l,l∈s.pages->(l.length:Int)=32*c.cells
 case neg=>
  rw[if_pos (by
   rw[List.any_eq_true]
   have⟨l,h5⟩:=Classical.not_forall.1 e4
   have⟨h6,h7⟩:=Classical.not_imp.1 h5
   exact⟨l,h6,by simpa using h7⟩)]
  exact bad (fun f=>e4 f.fits.cells) _ hs
 rw[if_neg (by
  intro h5
  obtain⟨l,h6,h7⟩:=List.any_eq_true.1 h5
  have:=e4 l h6
  simp at h7;omega)]
 refine⟨_,_,_,Sat.ld hs (by repeat constructor) (by rfl),?_⟩
 refine Ak0 hs (rd _ hs.drop.drop).er (by omega) ?_
 by_cases e5:∀n,n∈s.erases->0≤n
 case neg=>
  have:(s.erases.any fun n=>decide (n<0))=true:=by
   rw[List.any_eq_true]
   have⟨l,h5⟩:=Classical.not_forall.1 e5
   have⟨h6,h7⟩:=Classical.not_imp.1 h5
   exact⟨l,h6,by simp;omega⟩
  rw[this]
  exact bad (fun f=>e5 f.pos) _ hs
 have:(s.erases.any fun n=>decide (n<0))=false:=by
  rw[List.any_eq_false]
  intro n hn
  have:=e5 n hn
  simp;omega
 rw[this]
 have ly:s.lays c:=⟨⟨e1,e4,e2,e3⟩,e5⟩
 have ok:=pR hm ly ty
 apply hJ
 rw[if_neg (by simp)]
 (repeat first | refine⟨_,Sat.ld hs (by repeat constructor) (by rfl),?_⟩ | refine⟨_,_,_,Sat.ld hs (by repeat constructor) (by rfl),?_⟩ | (intro _ _ hn;replace hs:=Sat.new hs hn) | refine⟨Sat.cs hs (by repeat constructor) (by rfl),?_⟩ | (refine⟨Sat.can hs (by repeat constructor) (by simp),?_⟩;intro _ e;replace hs:=Sat.wr hs (by repeat constructor) e;clear e;simp only[put,AR,List.set]at hs))
 refine vZ (a:=a) (b:=b) (c:=c') (s:=s) hs (fun h' hs'=>rd _ hs'.drop.drop) ok.small ?_
 intro a2 b2 c2 h5 hs
 replace hs:Sat h0 (BR 32 a2 s.pages::sE b2 1 (AA .i64 s.erases)::sE c2 1 (A3 s.blown)::blk n2 [a.v,b.v,c'.v]::blk n1 [.int .i64 c.cells,.int .i64 c.slots,.int .i64 c.fuses,.int .i64 c.step,.int .i64 c.keys,.int .i64 c.erases,.int .i64 c.area]::A) h5:=hs
 (repeat first | refine⟨_,Sat.ld hs (by repeat constructor) (by rfl),?_⟩ | refine⟨_,_,_,Sat.ld hs (by repeat constructor) (by rfl),?_⟩ | (intro _ _ hn;replace hs:=Sat.new hs hn) | refine⟨Sat.cs hs (by repeat constructor) (by rfl),?_⟩ | (refine⟨Sat.can hs (by repeat constructor) (by simp),?_⟩;intro _ e;replace hs:=Sat.wr hs (by repeat constructor) e;clear e;simp only[put,AR,List.set]at hs))
 refine k3 hm ly _ _ ?_
 replace hs:=hs.sl_nil 1 none
 replace hs:=Sat.front hs (e:=slE _ _ _ 1 (A3 _)) (by repeat constructor)
 replace hs:=Sat.front hs (e:=slE _ _ _ 1 (AA .i64 _)) (by repeat constructor)
 replace hs:=Sat.front hs (e:=BR 32 _ _) (by repeat constructor)
 replace hs:=Sat.front hs (e:=blk _ [_,_,_,_,_,_,_,_,_,_,_,_,_,_]) (by repeat constructor)
 simp only[del]at hs
 exact (vW (C:=CW c s) (a:=a2) (b:=b2) (c:=c2) (m:=(none,0,0)) ok hs).sub (by(repeat (first | exact List.Sublist.refl _ | apply List.Sublist.cons_cons | apply List.Sublist.cons)))
end
end Go.Proofs.YteedolonhdbieaaGreatDoor
end
