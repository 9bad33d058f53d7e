/- LoaderWhole and its parts, laid together by a program of ours: Ce4 Pg2 Pg3 Pg4 Pg5 Pg6 Ar1 Ar2 Ar3 Ar5 Ar6 -/
import Derived.Test.YteedolonhdbieaaGreatDoorK11
set_option autoImplicit false
set_option linter.all false
section
namespace Go.Proofs.YteedolonhdbieaaGreatDoor
open Go Go.Vc
set_option maxRecDepth 100000
def tab(n:Nat)(f:Nat->Int):List Int:=(List.range n).map f
@[simp] theorem Am2(n:Nat)(f:Nat->Int):(tab n f).length=n:=by simp[tab]
theorem ID(n:Nat)(f:Nat->Int)(i:Nat):(tab n f)[i]?=if i<n then some (f i) else none:=by
 unfold tab
 rw[List.getElem?_map]
 by_cases h:i<n
 ·rw[List.getElem?_range h,if_pos h];rfl
 ·rw[if_neg h,List.getElem?_eq_none (by simpa using h)];rfl
theorem Am3(n:Nat)(f:Nat->Int)(k:Nat)(v:Int):(tab n f).set k v=tab n (fun i=>if i=k then v else f i):=by
 apply List.ext_getElem?
 intro i
 rw[List.getElem?_set,ID,ID]
 by_cases h:k=i
 ·subst h;simp
 ·rw[if_neg h];simp only[show (i=k)=False by simp;omega,if_false]
theorem TC{n:Nat}{f g:Nat->Int}(h:∀i,i<n->f i=g i):tab n f=tab n g:=by
 apply List.ext_getElem?
 intro i
 rw[ID,ID]
 split
 ·rw[h i (by assumption)]
 ·rfl
theorem lG(n:Nat):AB n=tab n fun _=>0:=by
 apply List.ext_getElem?
 intro i
 rw[ID]
 unfold AB
 by_cases h:i<n
 ·rw[List.getElem?_replicate,if_pos h]
  try rw[if_pos h]
 ·rw[List.getElem?_replicate,if_neg h]
  try rw[if_neg h]
theorem Aj3(l:List Int):l=tab l.length fun i=>l.getD i 0:=by
 apply List.ext_getElem?
 intro i
 rw[ID]
 by_cases h:i<l.length
 ·rw[if_pos h];simp[List.getD,List.getElem?_eq_getElem h]
 ·rw[if_neg h,List.getElem?_eq_none (by omega)]
theorem UY(k:IntKind)(n:Nat)(f:Nat->Int)(j:Nat)(v:Int):AO (AA k (tab n f)) j [.int k v]=AA k (tab n (fun i=>if i=j then v else f i)):=by
 rw[GK,VO,G1,Am3]
def GV(n:Int)(i:Nat):Int:=IntKind.u8.wrap (n.fdiv (2^(8*i)))
theorem lB(n:Int):A4 (IntKind.u8.wrap n):=by unfold A4;rw[IntKind.wrap_u8];omega
def HN(x:Int):Int:=bits .xor .u8 255 x
/-! ### The sum -/
abbrev b32(x:Int):BitVec 32:=BitVec.ofInt 32 x
theorem wH(v:BitVec 32):IntKind.u32.wrap (v.toNat:Int)=(v.toNat:Int):=by
 have:=v.isLt
 rw[IntKind.wrap_u32];omega
theorem T8(v:BitVec 32):b32 (v.toNat:Int)=v:=by simp[b32]
theorem UB(x y:Int):bits .xor .u32 x y=((b32 x ^^^ b32 y).toNat:Int):=wH (b32 x ^^^ b32 y)
theorem AdP(x y:Int):bits .and .u32 x y=((b32 x &&& b32 y).toNat:Int):=wH (b32 x &&& b32 y)
def KC(x:Int):Prop:=0≤x/\x<2^32
theorem sJ(v:BitVec 32):KC (v.toNat:Int):=by have:=v.isLt;unfold KC;omega
theorem Aj0{x:Int}(h:KC x):((b32 x).toNat:Int)=x:=by
 unfold KC at h
 simp only[BitVec.toNat_ofInt]
 omega
def WT(x:Int):Int:=if bits .and .u32 x 1=1 then bits .xor .u32 (x.fdiv (2^1)) 3988292384 else x.fdiv (2^1)
def GX:Nat->Int->Int
 | 0,x=>x
 | n+1,x=>GX n (WT x)
def I2(v:BitVec 32):BitVec 32:=if v.getLsbD 0=true then (v >>> 1) ^^^ 3988292384#32 else v >>> 1
def vIt:Nat->BitVec 32->BitVec 32
 | 0,v=>v
 | n+1,v=>vIt n (I2 v)
theorem vC(v:BitVec 32)(k:Nat):((v.toNat:Int)).fdiv (2^k)=((v >>> k).toNat:Int):=by
 rw[BitVec.toNat_ushiftRight,Nat.shiftRight_eq_div_pow,Int.fdiv_eq_ediv_of_nonneg _ (Int.le_of_lt (Int.pow_pos (by decide)))]
 simp
theorem Af1(v:BitVec 32):WT (v.toNat:Int)=((I2 v).toNat:Int):=by
 unfold WT I2
 rw[AdP,vC,T8]
 have:((((v &&& b32 1).toNat:Nat):Int)=1)↔v.getLsbD 0=true:=by
  have e1:b32 1=1#32:=by decide
  rw[e1]
  have:(v &&& 1#32).toNat=v.toNat % 2:=by
   rw[BitVec.toNat_and]
   exact Nat.and_one_is_mod _
  rw[this]
  have:v.getLsbD 0=decide (v.toNat % 2=1):=by
   rw[BitVec.getLsbD,Nat.testBit_zero]
  rw[this,decide_eq_true_eq];omega
 by_cases h:v.getLsbD 0=true
 ·rw[if_pos (this.2 h),if_pos h,UB,T8];rfl
 ·rw[if_neg (fun x=>h (this.1 x)),if_neg h]
theorem iP(n:Nat):∀v:BitVec 32,GX n (v.toNat:Int)=((vIt n v).toNat:Int):=by
 induction n with
 | zero=>intro v;rfl
 | succ n ih=>intro v;unfold GX vIt;rw[Af1,ih]
theorem AmI(v w:BitVec 32):I2 (v ^^^ w)=I2 v ^^^ I2 w:=by
 unfold I2
 have e:(v ^^^ w) >>> 1=(v >>> 1) ^^^ (w >>> 1):=BitVec.ushiftRight_xor_distrib v w 1
 rw[BitVec.getLsbD_xor,e]
 generalize v >>> 1=a
 generalize w >>> 1=b
 generalize 3988292384#32=P
 cases v.getLsbD 0 <;> cases w.getLsbD 0 <;> simp only[Bool.xor_true,Bool.xor_false,Bool.not_true,Bool.not_false,Bool.false_eq_true,if_true,if_false]
 all_goals
  ext i hi
  simp only[BitVec.getElem_xor]
  cases a[i] <;> cases b[i] <;> cases P[i] <;> rfl
theorem AmH(n:Nat):∀v w:BitVec 32,vIt n (v ^^^ w)=vIt n v ^^^ vIt n w:=by
 induction n with
 | zero=>intro v w;rfl
 | succ n ih=>intro v w;unfold vIt;rw[AmI,ih]
theorem AmG(n:Nat):∀v:BitVec 32,(∀i,i<n->v.getLsbD i=false)->vIt n v=v >>> n:=by
 induction n with
 | zero=>intro v _;simp[vIt]
 | succ n ih=>
  intro v h
  unfold vIt
  have:I2 v=v >>> 1:=by unfold I2;rw[h 0 (by omega)];simp
  rw[this,ih]
  ·rw[←BitVec.shiftRight_add,Nat.add_comm]
  ·intro i hi
   rw[BitVec.getLsbD_ushiftRight]
   have:=h (1+i) (by omega)
   exact this
theorem Af3(v:BitVec 32)(c:Int)(hc:A4 c):bits .xor .u32 (GX 8 (IntKind.u32.wrap (bits .xor .u8 (IntKind.u8.wrap (v.toNat:Int)) c))) ((v.toNat:Int).fdiv (2^8))=GX 8 (bits .xor .u32 (v.toNat:Int) (IntKind.u32.wrap c)):=by
 rw[vC,pD,UB,UB]
 obtain⟨c1,c2⟩:=hc
 have hw:IntKind.u32.wrap c=c:=by rw[IntKind.wrap_u32];omega
 rw[hw]
 have low:(IntKind.u32.wrap ((b8 (IntKind.u8.wrap (v.toNat:Int)) ^^^ b8 c).toNat:Int))=(((v &&& 255#32) ^^^ b32 c).toNat:Int):=by
  have h1:(b8 (IntKind.u8.wrap (v.toNat:Int)) ^^^ b8 c).toNat<256:=(b8 (IntKind.u8.wrap (v.toNat:Int)) ^^^ b8 c).isLt
  rw[IntKind.wrap_u32]
  have h2:(b8 (IntKind.u8.wrap (v.toNat:Int)) ^^^ b8 c).toNat=((v &&& 255#32) ^^^ b32 c).toNat:=by
   rw[BitVec.toNat_xor,BitVec.toNat_xor,BitVec.toNat_and]
   have e1:(b8 (IntKind.u8.wrap (v.toNat:Int))).toNat=v.toNat % 256:=by
    simp only[BitVec.toNat_ofInt];rw[IntKind.wrap_u8];omega
   have e2:(b8 c).toNat=c.toNat:=by simp only[BitVec.toNat_ofInt];omega
   have e3:(b32 c).toNat=c.toNat:=by simp only[BitVec.toNat_ofInt];omega
   have e4:v.toNat &&& (255#32).toNat=v.toNat % 256:=Nat.and_two_pow_sub_one_eq_mod v.toNat 8
   rw[e1,e2,e3,e4]
  omega
 rw[low,iP,T8,T8,T8,iP]
 congr 1
 have split:v ^^^ b32 c=((v &&& 255#32) ^^^ b32 c) ^^^ (v &&& ~~~ 255#32):=by
  ext i hi
  simp only[BitVec.getElem_xor,BitVec.getElem_and,BitVec.getElem_not]
  cases v[i] <;> cases (b32 c)[i] <;> cases (255#32)[i] <;> rfl
 rw[split,AmH 8 (v &&& 255#32 ^^^ b32 c) (v &&& ~~~ 255#32)]
 congr 1
 have hb:∀i,i<8->(v &&& ~~~ 255#32).getLsbD i=false:=by
  intro i hi
  have:(~~~ 255#32).getLsbD i=false:=by
   have:∀i,i<8->(~~~ 255#32).getLsbD i=false:=by decide
   exact this i hi
  rw[BitVec.getLsbD_and,this,Bool.and_false]
 rw[AmG 8 _ hb]
 congr 1
 ext i hi
 simp only[BitVec.getElem_ushiftRight,BitVec.getLsbD_and]
 have:∀j,j<32->(~~~ 255#32).getLsbD j=decide (8≤j):=by decide
 by_cases hj:8+i<32
 ·rw[this _ hj];simp
 ·rw[BitVec.getLsbD_of_ge _ _ (by omega)];simp
def WR(x:Int)(c:Int):Int:=bits .xor .u32 (GX 8 (IntKind.u32.wrap (bits .xor .u8 (IntKind.u8.wrap x) c))) (x.fdiv (2^8))
def UH(x:Int)(c:Int):Int:=GX 8 (bits .xor .u32 x (IntKind.u32.wrap c))
theorem AeY{x c:Int}(hx:KC x)(hc:A4 c):WR x c=UH x c/\KC (UH x c):=by
 have e:=Aj0 hx
 have:=Af3 (b32 x) c hc
 rw[e]at this
 refine⟨this,?_⟩
 unfold UH
 rw[UB,iP]
 exact sJ _
def J0(bs:List Int):Int:=bits .xor .u32 4294967295 (bs.foldl UH 4294967295)
theorem Af2(bs:List Int)(hb:AW bs):∀x,KC x->bs.foldl WR x=bs.foldl UH x:=by
 induction bs with
 | nil=>intro x _;rfl
 | cons c r ih=>
  intro x hx
  obtain⟨e1,e2⟩:=AeY hx (hb c (by simp))
  rw[List.foldl_cons,List.foldl_cons,e1]
  exact ih (fun n hn=>hb n (by simp[hn])) _ e2
theorem AeZ(bs:List Int):KC (J0 bs):=by unfold J0;rw[UB];exact sJ _
/-! ### Numbers of eight bytes -/
abbrev b64(x:Int):BitVec 64:=BitVec.ofInt 64 x
theorem wrap_u64'(n:Int):IntKind.u64.wrap n=n % 18446744073709551616:=by simp[IntKind.wrap,IntKind.bits,IntKind.signed]
theorem pA(v:BitVec 64):b64 (v.toNat:Int)=v:=by simp[b64]
theorem AjA(x y:Int):b64 (bits .or .u64 x y)=b64 x ||| b64 y:=by
 have:bits .or .u64 x y=IntKind.u64.wrap ((b64 x ||| b64 y).toNat:Int):=rfl
 rw[this]
 have h:=(b64 x ||| b64 y).isLt
 have:IntKind.u64.wrap ((b64 x ||| b64 y).toNat:Int)=((b64 x ||| b64 y).toNat:Int):=by rw[wrap_u64'];omega
 rw[this,pA]
theorem AmW(x:Int):b64 (IntKind.u64.wrap x)=b64 x:=by
 apply BitVec.eq_of_toNat_eq
 simp only[BitVec.toNat_ofInt]
 rw[wrap_u64'];omega
theorem lA(x:Int):b64 (IntKind.i64.wrap x)=b64 x:=by
 apply BitVec.eq_of_toNat_eq
 simp only[BitVec.toNat_ofInt]
 rw[IntKind.wrap_i64];omega
theorem tW(x y:Int):b64 (bits .or .i64 x y)=b64 x ||| b64 y:=by
 have:bits .or .i64 x y=IntKind.i64.wrap ((b64 x ||| b64 y).toNat:Int):=rfl
 rw[this,lA,pA]
theorem wS{x y:Int}(h:b64 x=b64 y):IntKind.i64.wrap x=IntKind.i64.wrap y:=by
 have h2:=congrArg BitVec.toNat h
 simp only[BitVec.toNat_ofInt]at h2
 rw[IntKind.wrap_i64,IntKind.wrap_i64];omega
def PY(l:List Int):Nat->Int
 | 0=>0
 | n+1=>bits .or .u64 (PY l n) (IntKind.u64.wrap (IntKind.u64.wrap (l.getD n 0)*2^(8*n)))
def D4(l:List Int):Nat->Int
 | 0=>0
 | n+1=>bits .or .i64 (D4 l n) (IntKind.i64.wrap (IntKind.i64.wrap (l.getD n 0)*2^(8*n)))
theorem AgL(l:List Int)(hb:AW l)(n:Nat):b64 (PY l n)=b64 (D4 l n):=by
 induction n with
 | zero=>rfl
 | succ n ih=>
  unfold PY D4
  rw[AjA,tW,ih,AmW,lA]
  have:A4 (l.getD n 0):=by
   rw[List.getD_eq_getElem?_getD]
   cases e:l[n]? with
   | none=>exact⟨by decide,by decide⟩
   | some v=>exact hb v (List.mem_iff_getElem?.2 ⟨n,e⟩)
  obtain⟨h1,h2⟩:=this
  have e1:IntKind.u64.wrap (l.getD n 0)=l.getD n 0:=by rw[wrap_u64'];omega
  have e2:IntKind.i64.wrap (l.getD n 0)=l.getD n 0:=by rw[IntKind.wrap_i64];omega
  rw[e1,e2]
theorem q9(l:List Int)(n:Nat):IntKind.i64.wrap (D4 l n)=D4 l n:=by
 cases n with
 | zero=>exact (by decide:IntKind.i64.wrap 0=0)
 | succ n=>
  unfold D4
  have:∀x y,IntKind.i64.wrap (bits .or .i64 x y)=bits .or .i64 x y:=by
   intro x y
   have:bits .or .i64 x y=IntKind.i64.wrap ((b64 x ||| b64 y).toNat:Int):=rfl
   rw[this,IntKind.wrap_i64,IntKind.wrap_i64];omega
  exact this _ _
theorem AgM(l:List Int)(hb:AW l)(n:Nat):IntKind.i64.wrap (PY l n)=D4 l n:=by
 rw[wS (AgL l hb n),q9]
end Go.Proofs.YteedolonhdbieaaGreatDoor
/- Contracts of sums,rails and cells. Own work. -/
set_option maxRecDepth 100000
namespace Go.Proofs.YteedolonhdbieaaGreatDoor
open Go Go.Vc
section
variable {h0 h:H} {A:List Ent} {i j p r b:Nat} {C:Cm}
theorem AiH:(if IntKind.u32.signed=true then (-1:Int) else IntKind.u32.max)=4294967295:=by decide
theorem AiI:(if IntKind.u8.signed=true then (-1:Int) else IntKind.u8.max)=255:=by decide
theorem Sat.tab_to{N:Nat}{f g:Nat->Int}{k:IntKind}(hs:Sat h0 (blk b (AA k (tab N f))::A) h)(e:∀i,i<N->f i=g i):Sat h0 (blk b (AA k (tab N g))::A) h:=by
 rw[←TC e];exact hs
theorem Sat.part(hs:Sat h0 A h){ms xs:List Int}{k:IntKind}(m:At A i (blk b (AA k ms)))(o:Nat)(e:(ms.drop o).take xs.length=xs):hsv h (some ⟨b,o,none⟩) 1 xs.length (AA k xs):=by
 refine⟨by simp,A9 _ _,Or.inr ⟨_,rfl,hs.cs m ?_⟩⟩
 rw[BV]
 unfold AA
 rw[←List.map_drop,←List.map_take,e]
theorem E7{p:Option Addr}{l:Nat}{k:IntKind}{ns:List Int}{x:Nat}(rd:hsv h p 1 l (AA k ns))(hx:x<l):∃q,p=some q/\hc h (q.add x)=some (.int k (ns.getD x 0)):=by
 have hl:ns.length=l:=by have:=rd.1;simpa using this
 obtain⟨q,hq,g⟩:=MJ rd (i:=x) (v:=.int k (ns.getD x 0)) (by rw[BR,List.getElem?_eq_getElem (by omega)];simp[List.getD,List.getElem?_eq_getElem (show x<ns.length by omega)])
 exact⟨q,hq,g⟩
theorem AfG{Q:Int->HP}{x:Int}(hs:Sat h0 A h)(k:∀h',Sat h0 A h'->Q (GX 8 (IntKind.u32.wrap x)) h'):NP x Q h:=by
 unfold NP bL
 intro J hJ
 generalize hR:GX 8 (IntKind.u32.wrap x)=R at k
 refine MP 8 (fun n (y:Int)=>[.dv (.one (.int .u32 y)),.dv (.one (.int .i64 (n:Int)))]) (fun n y h=>Sat h0 A h/\GX (8-n) y=R) ?_ ?_ 0 _ _ (by omega) ⟨hs,hR⟩
 ·rintro n y h1 hn ⟨hs,hy⟩ hk
  apply hJ
  rw[AD,if_pos (by simp;omega)]
  refine⟨by decide,?_⟩
  obtain⟨m,hm⟩:∃m,8-n=m+1:=⟨7-n,by omega⟩
  rw[hm]at hy
  unfold GX WT at hy
  rw[A0 (by omega)]
  split
  ·rename_i h2
   intro _ e;subst e
   refine hk _ _ ⟨hs,?_⟩
   rw[if_pos (by simpa using h2)]at hy
   rw[show 8-(n+1)=m by omega];exact hy
  ·rename_i h2
   refine hk _ _ ⟨hs,?_⟩
   rw[if_neg (by simpa using h2)]at hy
   rw[show 8-(n+1)=m by omega];exact hy
 ·rintro y h1 ⟨hs,hy⟩
  apply hJ
  rw[AD,if_neg (by simp)]
  have hy:y=R:=hy
  rw[hy]
  exact k _ hs
theorem AgJ(bs:List Int)(n:Nat)(hn:n<bs.length)(f:Int->Int->Int)(x:Int):(bs.take (n+1)).foldl f x=f ((bs.take n).foldl f x) (bs.getD n 0):=by
 rw[List.take_succ,List.foldl_append]
 simp[List.getElem?_eq_getElem hn]
theorem Ad2{Q:HP}{t:Int}{s:Nat}{q:Option Addr}{l c:Nat}{bs:List Int}(hs:Sat h0 A h)(m:At A i (blk s [.int .u32 t]))(rd:∀h',Sat h0 A h'->hsv h' q 1 l (AA .u8 bs))(hl:l<2^62)
  (k:∀h',Sat h0 (put A i (blk s [.int .u32 (bits .xor .u32 4294967295 (bs.foldl WR (bits .xor .u32 4294967295 t)))])) h'->Q h'):NO ⟨s,0,none⟩ q l c Q h:=by
 unfold NO bK
 simp only[AiH]
 refine⟨_,hs.ld m rfl,?_⟩
 have hbl:bs.length=l:=by have:=(rd _ hs).1;simpa using this
 intro J hJ
 refine MP l (fun n (_:Unit)=>[.dv (.one (.int .u32 ((bs.take n).foldl WR (bits .xor .u32 4294967295 t)))),.dv (.one (.int .i64 (n:Int)))]) (fun n _ h=>Sat h0 A h) ?_ ?_ 0 () _ (by omega) hs
 ·intro n _ h1 hn hs hk
  apply hJ
  rw[AD,if_pos (by simp;omega)]
  obtain⟨q',hq,g⟩:=E7 (rd _ hs) hn
  refine⟨_,hq,by omega,by omega,_,by rw[Int.toNat_natCast,Nat.mul_one];exact g,?_⟩
  refine AfG hs ?_
  intro h2 hs
  refine⟨by decide,?_⟩
  have:=hk () _ hs
  rw[AgJ bs n (by omega)]at this
  rw[A0 (by omega)]
  exact this
 ·intro _ h1 hs
  apply hJ
  rw[AD,if_neg (by simp),List.take_of_length_le (by omega)]
  refine⟨hs.can m (by simp),?_⟩
  intro h2 e
  exact k _ (hs.wr m e)
theorem Af0{Q:Int->HP}{q:Option Addr}{l c:Nat}{bs:List Int}(hs:Sat h0 A h)(rd:∀h',Sat h0 A h'->hsv h' q 1 l (AA .u8 bs))(hb:AW bs)(hl:l<2^62)
  (k:∀h',Sat h0 A h'->Q (J0 bs) h'):NN q l c Q h:=by
 unfold NN bI TK bH
 intro n1 _ hn;replace hs:=Sat.new hs hn
 refine⟨_,rfl,?_⟩
 refine Ad2 hs .z (fun h' hs'=>rd h' hs'.drop) hl ?_
 intro h1 hs
 refine⟨_,rfl,?_⟩
 unfold TL bJ
 refine⟨_,hs.ld (.z) rfl,?_⟩
 have e0:bits .xor .u32 4294967295 0=4294967295:=by decide
 rw[e0,Af2 bs hb _ ⟨by decide,by decide⟩]
 exact k _ hs.drop
theorem vO{n:Nat}(h:n<8):min (IntKind.i64.wrap (8*(n:Int))).toNat 64=8*n:=by
 rw[AQ (by omega)];omega
theorem uF{Q:HP}{N o l c:Nat}{f:Nat->Int}(x:Int)(hs:Sat h0 A h)(m:At A i (blk b (AA .u8 (tab N f))))(hl:l≤8)(ho:o+l≤N)
  (k:∀h',Sat h0 (put A i (blk b (AA .u8 (tab N fun k=>if o≤k/\k<o+l then GV x (k-o) else f k)))) h'->Q h'):NF (some ⟨b,o,none⟩) l c x Q h:=by
 unfold NF aB
 intro J hJ
 refine BS l (fun n h=>Sat h0 (put A i (blk b (AA .u8 (tab N fun k=>if o≤k/\k<o+n then GV x (k-o) else f k)))) h) ?_ ?_ 0 _ (by omega) ?_
 ·intro n h1 hn hs hk
  apply hJ
  rw[AD,if_pos (by simp;omega)]
  rw[vO (by omega)]
  refine⟨by rw[AQ (by omega)];omega,_,rfl,by omega,by omega,?_⟩
  rw[Int.toNat_natCast,Nat.mul_one,AI]
  refine⟨hs.can (m.put _) (by simp;omega),?_⟩
  intro h2 e
  replace hs:=hs.wr (m.put _) e
  rw[DU,UY]at hs
  rw[A0 (by omega)]
  refine hk _ ?_
  have:(tab N fun k=>if o≤k/\k<o+(n+1) then GV x (k-o) else f k)=tab N (fun i=>if i=o+n then IntKind.u8.wrap (x.fdiv (2^(8*n))) else if o≤i/\i<o+n then GV x (i-o) else f i):=by
   apply TC
   intro i hi
   by_cases e:i=o+n
   ·rw[if_pos e,if_pos (by omega),e,Nat.add_sub_cancel_left];rfl
   ·rw[if_neg e]
    by_cases e2:o≤i/\i<o+n
    ·rw[if_pos e2,if_pos (by omega)]
    ·rw[if_neg e2,if_neg (by omega)]
  rw[this];exact hs
 ·intro h1 hs
  apply hJ
  rw[AD,if_neg (by simp)]
  exact k _ hs
 ·have:(tab N fun k=>if o≤k/\k<o+0 then GV x (k-o) else f k)=tab N f:=TC fun i _=>if_neg (by omega)
  rw[this,m.put_self];exact hs
theorem AgN{Q:Int->HP}{q:Option Addr}{l c:Nat}{bs:List Int}(hs:Sat h0 A h)(rd:∀h',Sat h0 A h'->hsv h' q 1 l (AA .u8 bs))(hl:l≤8)(k:∀h',Sat h0 A h'->Q (PY bs l) h'):NE q l c Q h:=by
 unfold NE Z9
 intro J hJ
 refine MP l (fun n (_:Unit)=>[.dv (.one (.int .u64 (PY bs n))),.dv (.one (.int .i64 (n:Int)))]) (fun n _ h=>Sat h0 A h) ?_ ?_ 0 () _ (by omega) hs
 ·intro n _ h1 hn hs hk
  apply hJ
  rw[AD,if_pos (by simp;omega)]
  obtain⟨q',hq,g⟩:=E7 (rd _ hs) hn
  refine⟨_,hq,by omega,by omega,_,by rw[Int.toNat_natCast,Nat.mul_one];exact g,by rw[AQ (by omega)];omega,?_⟩
  rw[vO (by omega),A0 (by omega)]
  exact hk () _ hs
 ·intro _ h1 hs
  apply hJ
  rw[AD,if_neg (by simp)]
  exact k _ hs
theorem AfX(n:Nat):(List.replicate n [Value.int .u8 0]).flatten=AA .u8 (tab n fun _=>0):=by
 rw[←lG];simp[AA,AB]
theorem AjX{Q:Option Addr->Nat->Nat->HP}{q:Option Addr}{l c:Nat}{bs:List Int}(hs:Sat h0 A h)(rd:∀h',Sat h0 A h'->hsv h' q 1 l (AA .u8 bs))(hl:l≤2^40)
  (k:∀n h',Sat h0 (blk n (AA .u8 (tab (2*l) fun k=>if k<l then bs.getD k 0 else HN (bs.getD (k-l) 0)))::A) h'->Q (some ⟨n,0,none⟩) (2*l) (2*l) h'):O6 q l c Q h:=by
 unfold O6 fC
 have e1:IntKind.i64.wrap (2*(l:Int))=((2*l:Nat):Int):=by rw[AQ (by omega)];omega
 simp only[e1,AiI,Int.toNat_natCast]
 refine⟨by omega,by omega,by omega,by omega,?_⟩
 intro n1 _ hn
 rw[AfX]at hn
 replace hs:=Sat.new hs hn
 unfold TS fD
 have e2:IntKind.i64.wrap ((((2*l:Nat):Int)).tdiv 2)=(l:Int):=by rw[Int.tdiv_eq_ediv_of_nonneg (by omega),AQ (by omega)];omega
 simp only[e2,e1,Int.toNat_natCast]
 refine⟨by decide,by omega,by omega,by omega,by omega,by omega,by omega,by omega,?_⟩
 have hbl:bs.length=l:=by have:=(rd _ hs.drop).1;simpa using this
 intro J hJ
 have a1:0<l->AK (some ⟨n1,0,none⟩) 0 l 1=some ⟨n1,0,none⟩:=by
  intro h;unfold AK;rw[if_neg (by omega)];simp[AI]
 have a2:0<l->AK (some ⟨n1,0,none⟩) l (2*l) 1=some ⟨n1,l,none⟩:=by
  intro h;unfold AK;rw[if_neg (by omega)];simp[AI]
 refine BS l (fun n h=>Sat h0 (blk n1 (AA .u8 (tab (2*l) fun k=>if k<n then bs.getD k 0 else if l≤k/\k<l+n then HN (bs.getD (k-l) 0) else 0))::A) h) ?_ ?_ 0 _ (by omega) ?_
 ·intro n h1 hn hs hk
  apply hJ
  rw[AD,if_pos (by simp;omega)]
  obtain⟨q',hq,g⟩:=E7 (rd _ hs.drop) hn
  refine⟨_,hq,by omega,by omega,_,by rw[Int.toNat_natCast,Nat.mul_one];exact g,?_⟩
  refine⟨_,hq,by omega,by omega,_,by rw[Int.toNat_natCast,Nat.mul_one];exact g,?_⟩
  refine⟨_,a1 (by omega),by omega,by omega,?_⟩
  rw[Int.toNat_natCast,Nat.mul_one,AI]
  refine⟨hs.can .z (by simp;omega),?_⟩
  intro h2 e
  replace hs:=hs.wr .z e
  rw[AG,UY]at hs
  refine⟨_,a2 (by omega),by omega,by omega,?_⟩
  rw[AI]
  refine⟨hs.can .z (by simp;omega),?_⟩
  intro h3 e
  replace hs:=hs.wr .z e
  rw[AG,UY]at hs
  rw[A0 (by omega)]
  refine hk _ ?_
  refine Sat.tab_to hs fun i hi=>?_
  by_cases e:i=l+n
  ·rw[if_pos e,if_neg (by omega),if_pos (by omega),e,Nat.add_sub_cancel_left];rfl
  ·rw[if_neg e]
   by_cases e2:i=0+n
   ·rw[if_pos e2,if_pos (by omega),show i=n by omega]
   ·rw[if_neg e2]
    by_cases e3:i<n
    ·rw[if_pos e3,if_pos (by omega)]
    ·rw[if_neg e3]
     by_cases e4:l≤i/\i<l+n
     ·rw[if_pos e4,if_neg (show ¬i<n+1 by omega),if_pos (show l≤i/\i<l+(n+1) by omega)]
     ·rw[if_neg e4,if_neg (show ¬i<n+1 by omega),if_neg (show ¬(l≤i/\i<l+(n+1)) by omega)]
 ·intro h1 hs
  apply hJ
  rw[AD,if_neg (by simp)]
  refine k _ _ ?_
  refine Sat.tab_to hs fun i hi=>?_
  by_cases e:i<l
  ·rw[if_pos e,if_pos e]
  ·rw[if_neg e,if_neg e,if_pos (by omega)]
 ·refine Sat.tab_to hs fun i hi=>?_
  rw[if_neg (by omega),if_neg (by omega)]
def EL(kind slot n:Int)(k:Nat):Int:=if k=0 then kind else if k=1 then IntKind.u8.wrap slot else if k<4 then 0 else if k<12 then GV (IntKind.u64.wrap n) (k-4) else 0
def EB(kind slot n:Int)(k:Nat):Int:=if 12≤k then GV (J0 (tab 12 (EL kind slot n))) (k-12) else EL kind slot n k
def BD(kind slot n:Int):List Int:=tab 32 fun k=>if k<16 then EB kind slot n k else HN (EB kind slot n (k-16))
theorem pJ{kind slot n:Int}(hk:A4 kind)(k:Nat):A4 (EL kind slot n k):=by
 unfold EL
 repeat' split
 ·exact hk
 ·exact lB _
 ·exact⟨by decide,by decide⟩
 ·exact lB _
 ·exact⟨by decide,by decide⟩
theorem Y4{n:Nat}{f:Nat->Int}(h:∀k,A4 (f k)):AW (tab n f):=by
 intro x hx
 simp only[tab,List.mem_map]at hx
 obtain⟨k,_,rfl⟩:=hx
 exact h k
theorem XP{Q:List Int->HP}(kind slot n:Int)(hk:A4 kind)(hs:Sat h0 A h)(k:∀h',Sat h0 A h'->Q (BD kind slot n) h'):G9 kind slot n Q h:=by
 unfold G9 aA
 try simp only[AI,Nat.zero_add,List.append_nil]
 intro n1 _ hn;replace hs:=Sat.new hs hn
 intro n2 _ hn;replace hs:=Sat.new hs hn
 (refine⟨Sat.can hs (by repeat constructor) (by simp),?_⟩;intro _ e;replace hs:=Sat.wra hs (by repeat constructor) e (by simp[*]);clear e;simp only[put]at hs)
 have e0:[kind,IntKind.u8.wrap slot,0,0,0,0,0,0,0,0,0,0,0,0,0,0]=tab 16 (fun k=>if k=0 then kind else if k=1 then IntKind.u8.wrap slot else 0):=rfl
 rw[e0]at hs
 refine⟨by decide,by decide,by decide,?_⟩
 rw[show AK (some ⟨n2,0,none⟩) 4 16 1=some ⟨n2,4,none⟩ from rfl]
 refine uF (IntKind.u64.wrap n) hs .z (by decide) (by decide) ?_
 intro h1 hs
 rw[AG]at hs
 have e1:(tab 16 fun k=>if 4≤k/\k<4+8 then GV (IntKind.u64.wrap n) (k-4) else if k=0 then kind else if k=1 then IntKind.u8.wrap slot else 0)=tab 16 (EL kind slot n):=by
  apply TC
  intro i hi
  unfold EL
  by_cases q1:i=0
  ·rw[if_neg (by omega),if_pos q1,if_pos q1]
  by_cases q2:i=1
  ·rw[if_neg (by omega),if_neg q1,if_pos q2,if_neg q1,if_pos q2]
  rw[if_neg q1,if_neg q2,if_neg q1,if_neg q2]
  by_cases q3:i<4
  ·rw[if_neg (by omega),if_pos q3]
  rw[if_neg q3]
  by_cases q4:i<12
  ·rw[if_pos (by omega),if_pos q4]
  ·rw[if_neg (by omega),if_neg q4]
 rw[e1]at hs
 refine⟨by decide,by decide,by decide,by decide,?_⟩
 have e2:((tab 16 (EL kind slot n)).drop 0).take (tab 12 (EL kind slot n)).length=tab 12 (EL kind slot n):=rfl
 refine Af0 (bs:=tab 12 (EL kind slot n)) hs (fun h' hs'=>Sat.part hs' .z 0 e2) (Y4 (pJ hk)) (by decide) ?_
 intro h2 hs
 have e3:IntKind.u64.wrap (J0 (tab 12 (EL kind slot n)))=J0 (tab 12 (EL kind slot n)):=by
  obtain⟨c1,c2⟩:=AeZ (tab 12 (EL kind slot n))
  rw[wrap_u64'];omega
 rw[e3]
 refine uF (J0 (tab 12 (EL kind slot n))) hs .z (by decide) (by decide) ?_
 intro h3 hs
 rw[AG]at hs
 have e4:(tab 16 fun k=>if 12≤k/\k<12+4 then GV (J0 (tab 12 (EL kind slot n))) (k-12) else EL kind slot n k)=tab 16 (EB kind slot n):=by
  apply TC
  intro i hi
  unfold EB
  by_cases q1:12≤i
  ·rw[if_pos (by omega),if_pos q1]
  ·rw[if_neg (by omega),if_neg q1]
 rw[e4]at hs
 intro n3 _ hn;replace hs:=Sat.new hs hn
 have e5:((tab 16 (EB kind slot n)).drop 0).take (tab 16 (EB kind slot n)).length=tab 16 (EB kind slot n):=rfl
 refine AjX (bs:=tab 16 (EB kind slot n)) hs (fun h' hs'=>Sat.part hs' zs1 0 e5) (by decide) ?_
 intro n4 h4 hs
 have e6:(tab (2*16) fun k=>if k<16 then (tab 16 (EB kind slot n)).getD k 0 else HN ((tab 16 (EB kind slot n)).getD (k-16) 0))=BD kind slot n:=rfl
 rw[e6]at hs
 have hll:(BD kind slot n).length=32:=rfl
 refine⟨AA .u8 (BD kind slot n),⟨by rw[BV,hll];rfl,A9 _ _,Or.inr ⟨_,rfl,hs.cs .z (by rw[BV,hll];exact List.take_of_length_le (by rw[List.drop_zero,BV,hll];decide))⟩⟩,Or.inr ⟨_,rfl,hs.can zs1 (by decide)⟩,?_⟩
 intro h5 e
 replace hs:=Sat.wra hs zs1 e (by rw[BV,BV,hll];rfl)
 simp only[put]at hs
 refine⟨_,hll,hs.row0 zs1,?_⟩
 (refine⟨Sat.can hs (by repeat constructor) (by simp),?_⟩;intro _ e;replace hs:=Sat.wra hs (by repeat constructor) e (by simp[*]);clear e;simp only[put]at hs)
 refine⟨_,hll,hs.row0 (by repeat constructor),?_⟩
 exact k _ hs.drop.drop.drop.drop
end
end Go.Proofs.YteedolonhdbieaaGreatDoor
/- Contracts of cells: Head,Value,Blank,Read. Own work. -/
set_option maxRecDepth 100000
namespace Go.Proofs.YteedolonhdbieaaGreatDoor
open Go Go.Vc
section
variable {h0 h:H} {A:List Ent} {i j p r b:Nat} {C:Cm}
theorem Sat.whole(hs:Sat h0 A h){vs:List Value}(m:At A i (blk b vs)):hcs h ⟨b,0,none⟩ vs:=hs.cs m (by rw[List.drop_zero,List.take_length])
def BA:Int:=4611686018427387904
theorem XO(kind slot n:Int):(BD kind slot n).length=32:=rfl
def GE(n:Int):List Int×Int:=if n<1 then (AB 32,2) else if BA<n then (AB 32,2) else (BD 1 0 n,0)
def D9(slot n:Int):List Int×Int:=if slot<0 then (AB 32,2) else if 8<slot then (AB 32,2) else if n<1 then (AB 32,2) else if BA<n then (AB 32,2) else (BD 2 slot n,0)
theorem AgW(n:Int):(GE n).1.length=32:=by unfold GE;(repeat' split) <;> rfl
theorem wE(slot n:Int):(D9 slot n).1.length=32:=by unfold D9;(repeat' split) <;> rfl
theorem zC{Q:List Int->Int->HP}(n:Int)(hs:Sat h0 A h)(k:∀h',Sat h0 A h'->Q (GE n).1 (GE n).2 h'):NC n Q h:=by
 unfold NC Z6
 try simp only[AI,Nat.zero_add,List.append_nil]
 intro n1 _ hn;replace hs:=Sat.new hs hn
 unfold GE at k
 by_cases h1:n<1
 ·rw[if_pos h1]at k
  rw[AD,if_pos (by simpa using h1)]
  (refine⟨Sat.can hs (by repeat constructor) (by simp),?_⟩;intro _ e;replace hs:=Sat.wra hs (by repeat constructor) e (by simp[*]);clear e;simp only[put]at hs)
  refine⟨_,rfl,hs.row0 (by repeat constructor),?_⟩
  exact k _ hs.drop
 rw[if_neg h1]at k
 rw[AD,if_neg (by simpa using h1)]
 intro _ e;subst e
 by_cases h2:BA<n
 ·rw[if_pos h2]at k
  rw[AD,if_pos (by simpa[BA]using h2)]
  (refine⟨Sat.can hs (by repeat constructor) (by simp),?_⟩;intro _ e;replace hs:=Sat.wra hs (by repeat constructor) e (by simp[*]);clear e;simp only[put]at hs)
  refine⟨_,rfl,hs.row0 (by repeat constructor),?_⟩
  exact k _ hs.drop
 rw[if_neg h2]at k
 rw[AD,if_neg (by simpa[BA]using h2)]
 refine XP 1 0 n ⟨by decide,by decide⟩ hs ?_
 intro h3 hs
 have hll:=XO 1 0 n
 (refine⟨Sat.can hs (by repeat constructor) (by simp),?_⟩;intro _ e;replace hs:=Sat.wra hs (by repeat constructor) e (by simp[*]);clear e;simp only[put]at hs)
 refine⟨_,hll,hs.row0 (by repeat constructor),?_⟩
 exact k _ hs.drop
theorem oH{Q:List Int->Int->HP}(slot n:Int)(hs:Sat h0 A h)(k:∀h',Sat h0 A h'->Q (D9 slot n).1 (D9 slot n).2 h'):I8 slot n Q h:=by
 unfold I8 Z8
 try simp only[AI,Nat.zero_add,List.append_nil]
 intro n1 _ hn;replace hs:=Sat.new hs hn
 unfold D9 at k
 by_cases h1:slot<0
 ·rw[if_pos h1]at k
  rw[AD,if_pos (by simpa using h1)]
  (refine⟨Sat.can hs (by repeat constructor) (by simp),?_⟩;intro _ e;replace hs:=Sat.wra hs (by repeat constructor) e (by simp[*]);clear e;simp only[put]at hs)
  refine⟨_,rfl,hs.row0 (by repeat constructor),?_⟩
  exact k _ hs.drop
 rw[if_neg h1]at k
 rw[AD,if_neg (by simpa using h1)]
 by_cases h1:8<slot
 ·rw[if_pos h1]at k
  rw[AD,if_pos (by simpa using h1)]
  (refine⟨Sat.can hs (by repeat constructor) (by simp),?_⟩;intro _ e;replace hs:=Sat.wra hs (by repeat constructor) e (by simp[*]);clear e;simp only[put]at hs)
  refine⟨_,rfl,hs.row0 (by repeat constructor),?_⟩
  exact k _ hs.drop
 rw[if_neg h1]at k
 rw[AD,if_neg (by simpa using h1)]
 by_cases h1:n<1
 ·rw[if_pos h1]at k
  rw[AD,if_pos (by simpa using h1)]
  (refine⟨Sat.can hs (by repeat constructor) (by simp),?_⟩;intro _ e;replace hs:=Sat.wra hs (by repeat constructor) e (by simp[*]);clear e;simp only[put]at hs)
  refine⟨_,rfl,hs.row0 (by repeat constructor),?_⟩
  exact k _ hs.drop
 rw[if_neg h1]at k
 rw[AD,if_neg (by simpa using h1)]
 intro _ e;subst e
 by_cases h2:BA<n
 ·rw[if_pos h2]at k
  rw[AD,if_pos (by simpa[BA]using h2)]
  (refine⟨Sat.can hs (by repeat constructor) (by simp),?_⟩;intro _ e;replace hs:=Sat.wra hs (by repeat constructor) e (by simp[*]);clear e;simp only[put]at hs)
  refine⟨_,rfl,hs.row0 (by repeat constructor),?_⟩
  exact k _ hs.drop
 rw[if_neg h2]at k
 rw[AD,if_neg (by simpa[BA]using h2)]
 refine XP 2 slot n ⟨by decide,by decide⟩ hs ?_
 intro h3 hs
 have hll:=XO 2 slot n
 (refine⟨Sat.can hs (by repeat constructor) (by simp),?_⟩;intro _ e;replace hs:=Sat.wra hs (by repeat constructor) e (by simp[*]);clear e;simp only[put]at hs)
 refine⟨_,hll,hs.row0 (by repeat constructor),?_⟩
 exact k _ hs.drop
def ffs:List Int:=tab 32 fun _=>255
theorem w9{Q:List Int->HP}(hs:Sat h0 A h)(k:∀h',Sat h0 A h'->Q ffs h'):NB Q h:=by
 unfold NB Z5
 try simp only[AI,Nat.zero_add,List.append_nil]
 intro n1 _ hn;replace hs:=Sat.new hs hn
 intro n2 _ hn;replace hs:=Sat.new hs hn
 rw[lG]at hs
 intro J hJ
 refine BS 32 (fun n h=>Sat h0 (blk n2 (AA .u8 (tab 32 fun i=>if i<n then 255 else 0))::blk n1 (AA .u8 (tab 32 fun _=>0))::A) h) ?_ ?_ 0 _ (by omega) ?_
 ·intro n h1 hn hs hk
  apply hJ
  rw[AD,if_pos (by simp;omega)]
  refine⟨by omega,by omega,?_⟩
  rw[Int.toNat_natCast,Nat.mul_one]
  refine⟨hs.can .z (by simp;omega),?_⟩
  intro h2 e
  replace hs:=hs.wr .z e
  rw[AG,UY]at hs
  rw[A0 (by omega)]
  refine hk _ (Sat.tab_to hs fun i hi=>?_)
  by_cases e:i=n
  ·rw[if_pos e,if_pos (by omega)]
  ·rw[if_neg e]
   by_cases e2:i<n
   ·rw[if_pos e2,if_pos (by omega)]
   ·rw[if_neg e2,if_neg (by omega)]
 ·intro h1 hs
  apply hJ
  rw[AD,if_neg (by simp)]
  replace hs:=Sat.tab_to (g:=fun _=>255) hs fun i hi=>if_pos hi
  refine⟨ffs,rfl,hs.row0 .z,?_⟩
  have hll:ffs.length=32:=rfl
  (refine⟨Sat.can hs (by repeat constructor) (by simp),?_⟩;intro _ e;replace hs:=Sat.wra hs (by repeat constructor) e (by simp[*]);clear e;simp only[put]at hs)
  refine⟨_,hll,hs.row0 (by repeat constructor),?_⟩
  exact k _ hs.drop.drop
 ·exact Sat.tab_to hs fun i hi=>(if_neg (by omega)).symm
def A1(x:List Int):Int×Int×Int:=
 if x=ffs then (0,0,0)
 else if D4 ((x.drop 4).take 8) 8<1 then (3,0,0)
 else if BA<D4 ((x.drop 4).take 8) 8 then (3,0,0)
 else if x.getD 0 0=1/\x=BD 1 0 (D4 ((x.drop 4).take 8) 8) then (1,0,D4 ((x.drop 4).take 8) 8)
 else if x.getD 0 0=2/\x.getD 1 0≤8/\x=BD 2 (x.getD 1 0) (D4 ((x.drop 4).take 8) 8) then (2,x.getD 1 0,D4 ((x.drop 4).take 8) 8)
 else (3,0,0)
theorem AcV{Q:Int->Int->Int->HP}(x:List Int)(hx:x.length=32)(hb:AW x)(hs:Sat h0 A h)(k:∀h',Sat h0 A h'->Q (A1 x).1 (A1 x).2.1 (A1 x).2.2 h'):ND x Q h:=by
 unfold ND Z7
 try simp only[AI,Nat.zero_add,List.append_nil]
 intro n1 _ hn;replace hs:=Sat.new hs hn
 intro n2 _ hn;replace hs:=Sat.new hs hn
 refine⟨by decide,by decide,by decide,?_⟩
 rw[show AK (some ⟨n1,0,none⟩) 4 32 1=some ⟨n1,4,none⟩ from rfl]
 have el:((x.drop 4).take 8).length=8:=by simp[hx]
 have e2:(x.drop 4).take ((x.drop 4).take 8).length=(x.drop 4).take 8:=by rw[el]
 have hsub:AW ((x.drop 4).take 8):=fun v hv=>hb v (List.mem_of_mem_drop (List.mem_of_mem_take hv))
 refine AgN (bs:=(x.drop 4).take 8) hs (fun h' hs'=>by
  have:=Sat.part hs' zs1 4 e2
  rw[el]at this;exact this) (by decide) ?_
 intro h1 hs
 unfold A1 at k
 have eg:=AgM ((x.drop 4).take 8) hsub 8
 rw[eg]
 generalize D4 ((x.drop 4).take 8) 8=g at k
 have x0:=hb (x.getD 0 0) (by rw[List.getD_eq_getElem?_getD,List.getElem?_eq_getElem (by omega)];exact List.getElem_mem _)
 have x1:=hb (x.getD 1 0) (by rw[List.getD_eq_getElem?_getD,List.getElem?_eq_getElem (by omega)];exact List.getElem_mem _)
 have g0:(AA .u8 x)[0]?=some (.int .u8 (x.getD 0 0)):=by rw[BR,List.getElem?_eq_getElem (by omega)];simp[List.getD,List.getElem?_eq_getElem (show 0<x.length by omega)]
 have g1:(AA .u8 x)[1]?=some (.int .u8 (x.getD 1 0)):=by rw[BR,List.getElem?_eq_getElem (by omega)];simp[List.getD,List.getElem?_eq_getElem (show 1<x.length by omega)]
 refine⟨by decide,by decide,_,hs.ld zs1 g1,x,hx,hs.row0 zs1,?_⟩
 have ew1:IntKind.i64.wrap (x.getD 1 0)=x.getD 1 0:=by obtain⟨q1,q2⟩:=x1;rw[AQ (by omega)]
 rw[ew1]
 refine w9 hs ?_
 intro h2 hs
 refine⟨Sat.whole hs zs1,?_⟩
 by_cases c1:x=ffs
 ·rw[if_pos c1]at k
  rw[if_pos (by rw[c1];simp)]
  (refine⟨Sat.can hs (by repeat constructor) (by simp),?_⟩;intro _ e;replace hs:=Sat.wra hs (by repeat constructor) e (by simp[*]);clear e;simp only[put]at hs)
  refine⟨_,Sat.ld hs (by repeat constructor) (by rfl),?_⟩
  refine⟨_,Sat.ld hs (by repeat constructor) (by rfl),?_⟩
  refine⟨_,Sat.ld hs (by repeat constructor) (by rfl),?_⟩
  exact k _ hs.drop.drop
 rw[if_neg c1]at k
 rw[if_neg (by simpa using c1)]
 intro J hJ
 have torn:∀(bb:Bool),(bb=true->g<1∨BA<g)->(bb=false->¬g<1/\¬BA<g)->J [.dv (.one (.bool bb))] h2:=by
  intro bb b1 b2
  apply hJ
  by_cases c2:bb=true
  ·rw[if_pos c2]
   (refine⟨Sat.can hs (by repeat constructor) (by simp),?_⟩;intro _ e;replace hs:=Sat.wra hs (by repeat constructor) e (by simp[*]);clear e;simp only[put]at hs)
   refine⟨_,Sat.ld hs (by repeat constructor) (by rfl),?_⟩
   refine⟨_,Sat.ld hs (by repeat constructor) (by rfl),?_⟩
   refine⟨_,Sat.ld hs (by repeat constructor) (by rfl),?_⟩
   rcases b1 c2 with b1 | b1
   ·rw[if_pos b1]at k
    exact k _ hs.drop.drop
   ·rw[if_neg (by unfold BA at b1;omega),if_pos b1]at k
    exact k _ hs.drop.drop
  rw[if_neg c2]
  obtain⟨b3,b4⟩:=b2 (by simpa using c2)
  rw[if_neg b3,if_neg b4]at k
  intro J2 hJ2
  have two:∀(cc:Bool),(cc=true↔x.getD 0 0=1/\x=BD 1 0 g)->∀h3,Sat h0 (blk n2 [.int .i64 0,.int .i64 0,.int .i64 0]::blk n1 (AA .u8 x)::A) h3->J2 [.dv (.one (.bool cc))] h3:=by
   intro cc c3 h3 hs
   apply hJ2
   by_cases c4:cc=true
   ·rw[if_pos c4]
    rw[if_pos (c3.1 c4)]at k
    (refine⟨Sat.can hs (by repeat constructor) (by simp),?_⟩;intro _ e;replace hs:=Sat.wra hs (by repeat constructor) e (by simp[*]);clear e;simp only[put]at hs)
    refine⟨_,Sat.ld hs (by repeat constructor) (by rfl),?_⟩
    refine⟨_,Sat.ld hs (by repeat constructor) (by rfl),?_⟩
    refine⟨_,Sat.ld hs (by repeat constructor) (by rfl),?_⟩
    exact k _ hs.drop.drop
   rw[if_neg c4]
   rw[if_neg (fun y=>c4 (c3.2 y))]at k
   refine⟨by decide,by decide,_,hs.ld zs1 g0,?_⟩
   by_cases c5:x.getD 0 0=2
   case neg=>
    rw[if_neg (fun y=>c5 y.1)]at k
    rw[if_neg (by rw[beq_iff_eq];exact c5)]
    (refine⟨Sat.can hs (by repeat constructor) (by simp),?_⟩;intro _ e;replace hs:=Sat.wra hs (by repeat constructor) e (by simp[*]);clear e;simp only[put]at hs)
    refine⟨_,Sat.ld hs (by repeat constructor) (by rfl),?_⟩
    refine⟨_,Sat.ld hs (by repeat constructor) (by rfl),?_⟩
    refine⟨_,Sat.ld hs (by repeat constructor) (by rfl),?_⟩
    exact k _ hs.drop.drop
   rw[if_pos (by rw[beq_iff_eq];exact c5)]
   by_cases c6:x.getD 1 0≤8
   case neg=>
    rw[if_neg (fun y=>c6 y.2.1)]at k
    rw[BQ,if_neg (by rw[decide_eq_true_eq];exact c6)]
    (refine⟨Sat.can hs (by repeat constructor) (by simp),?_⟩;intro _ e;replace hs:=Sat.wra hs (by repeat constructor) e (by simp[*]);clear e;simp only[put]at hs)
    refine⟨_,Sat.ld hs (by repeat constructor) (by rfl),?_⟩
    refine⟨_,Sat.ld hs (by repeat constructor) (by rfl),?_⟩
    refine⟨_,Sat.ld hs (by repeat constructor) (by rfl),?_⟩
    exact k _ hs.drop.drop
   rw[BQ,if_pos (by rw[decide_eq_true_eq];exact c6)]
   refine⟨x,hx,hs.row0 zs1,?_⟩
   refine XP 2 (x.getD 1 0) g ⟨by decide,by decide⟩ hs ?_
   intro h4 hs
   refine⟨Sat.whole hs zs1,?_⟩
   by_cases c7:x=BD 2 (x.getD 1 0) g
   ·rw[if_pos ⟨c5,c6,c7⟩]at k
    rw[if_pos (by rw[beq_iff_eq];exact c7)]
    clear c7
    (refine⟨Sat.can hs (by repeat constructor) (by simp),?_⟩;intro _ e;replace hs:=Sat.wra hs (by repeat constructor) e (by simp[*]);clear e;simp only[put]at hs)
    refine⟨_,Sat.ld hs (by repeat constructor) (by rfl),?_⟩
    refine⟨_,Sat.ld hs (by repeat constructor) (by rfl),?_⟩
    refine⟨_,Sat.ld hs (by repeat constructor) (by rfl),?_⟩
    exact k _ hs.drop.drop
   ·rw[if_neg (fun y=>c7 y.2.2)]at k
    rw[if_neg (by rw[beq_iff_eq];exact c7)]
    (refine⟨Sat.can hs (by repeat constructor) (by simp),?_⟩;intro _ e;replace hs:=Sat.wra hs (by repeat constructor) e (by simp[*]);clear e;simp only[put]at hs)
    refine⟨_,Sat.ld hs (by repeat constructor) (by rfl),?_⟩
    refine⟨_,Sat.ld hs (by repeat constructor) (by rfl),?_⟩
    refine⟨_,Sat.ld hs (by repeat constructor) (by rfl),?_⟩
    exact k _ hs.drop.drop
  refine⟨by decide,by decide,_,hs.ld zs1 g0,?_⟩
  by_cases c5:x.getD 0 0=1
  ·rw[if_pos (by rw[beq_iff_eq];exact c5)]
   refine⟨x,hx,hs.row0 zs1,?_⟩
   refine XP 1 0 g ⟨by decide,by decide⟩ hs ?_
   intro h4 hs
   refine⟨Sat.whole hs zs1,?_⟩
   refine two _ ?_ _ hs
   rw[beq_iff_eq]
   exact⟨fun y=>⟨c5,y⟩,fun y=>y.2⟩
  ·rw[if_neg (by rw[beq_iff_eq];exact c5)]
   exact two _ ⟨fun y=>by simp at y,fun y=>absurd y.1 c5⟩ _ hs
 by_cases c2:g<1
 ·rw[AD,if_pos (by simpa using c2)]
  exact torn true (fun _=>Or.inl c2) (fun y=>by simp at y)
 ·rw[AD,if_neg (by simpa using c2)]
  intro _ e;subst e
  rw[AD]
  refine torn _ (fun y=>Or.inr (by simpa[BA]using y)) (fun y=>⟨c2,by simpa[BA]using y⟩)
end
end Go.Proofs.YteedolonhdbieaaGreatDoor
/- Contracts of the document's cells. Own work. -/
set_option maxRecDepth 100000
namespace Go.Proofs.YteedolonhdbieaaGreatDoor
open Go Go.Vc
section
variable {h0 h:H} {A:List Ent} {i j p r b:Nat} {C:Cm}
end
end Go.Proofs.YteedolonhdbieaaGreatDoor
end
section
namespace Go.Proofs.YteedolonhdbieaaGreatDoor
open Go Go.Vc
set_option maxRecDepth 100000
structure Inf where
 head:Int
 nums:List Int
 next:Int
 blank:Bool
 torn:Int
abbrev CC(a:Int)(l:List Int)(n:Int)(b:Bool)(t:Int):List Value:=.int .i64 a::(AA .i64 l++[.int .i64 n,.bool b,.int .i64 t])
abbrev D5(I:Inf):List Value:=CC I.head I.nums I.next I.blank I.torn
def inf0:Inf:=⟨0,AB 9,0,false,0⟩
theorem UU{a n t:Int}{l:List Int}{b:Bool}(h:l.length=9):(CC a l n b t)[10]?=some (.int .i64 n):=by
 have:(AA .i64 l).length=9:=by simpa using h
 simp[CC,this]
theorem UV{a n t:Int}{l:List Int}{b:Bool}(h:l.length=9):(CC a l n b t)[11]?=some (.bool b):=by
 have:(AA .i64 l).length=9:=by simpa using h
 simp[CC,this]
theorem P0{a n t:Int}{l:List Int}{b:Bool}(h:l.length=9):(CC a l n b t)[12]?=some (.int .i64 t):=by
 have:(AA .i64 l).length=9:=by simpa using h
 simp[CC,this]
theorem sF{a n t:Int}{l:List Int}{b:Bool}(h:l.length=9){i:Nat}(hi:i<9):(CC a l n b t)[1+i]?=some (.int .i64 (l.getD i 0)):=by
 have:(AA .i64 l).length=9:=by simpa using h
 rw[CC,Nat.add_comm,List.getElem?_cons_succ,List.getElem?_append_left (by omega),BR,List.getElem?_eq_getElem (by omega)]
 simp[List.getD,List.getElem?_eq_getElem (show i<l.length by omega)]
theorem UW{a n t:Int}{l:List Int}{b:Bool}(h:l.length=9):∀i,i<l.length->(CC a l n b t)[1+i]?=l[i]?.map (Value.int .i64):=by
 intro i hi
 rw[sF h (by omega),List.getElem?_eq_getElem hi]
 simp[List.getD,List.getElem?_eq_getElem hi]
theorem HQ{a n t:Int}{l:List Int}{b:Bool}(h:l.length=9):(CC a l n b t).length=13:=by simp[CC,h]
theorem AhC{a n t v:Int}{l:List Int}{b:Bool}:AO (CC a l n b t) 0 [.int .i64 v]=CC v l n b t:=rfl
theorem Y0(l:List Value)(x y:List Value)(i:Nat)(v:Value):(l++x).set (l.length+i) v=l++x.set i v:=by
 rw[List.set_append_right _ _ (by omega),Nat.add_sub_cancel_left]
theorem AhD{a n t v:Int}{l:List Int}{b:Bool}(h:l.length=9):AO (CC a l n b t) 10 [.int .i64 v]=CC a l v b t:=by
 have h9:(AA .i64 l).length=9:=by simpa using h
 show (CC a l n b t).set 10 (.int .i64 v)=_
 unfold CC
 rw[List.set_cons_succ,show 9=(AA .i64 l).length+0 by omega,Y0 _ _ []]
 rfl
theorem AhE{a n t:Int}{l:List Int}{b v:Bool}(h:l.length=9):AO (CC a l n b t) 11 [.bool v]=CC a l n v t:=by
 have h9:(AA .i64 l).length=9:=by simpa using h
 show (CC a l n b t).set 11 (.bool v)=_
 unfold CC
 rw[List.set_cons_succ,show 10=(AA .i64 l).length+1 by omega,Y0 _ _ []]
 rfl
theorem AhF{a n t v:Int}{l:List Int}{b:Bool}(h:l.length=9):AO (CC a l n b t) 12 [.int .i64 v]=CC a l n b v:=by
 have h9:(AA .i64 l).length=9:=by simpa using h
 show (CC a l n b t).set 12 (.int .i64 v)=_
 unfold CC
 rw[List.set_cons_succ,show 11=(AA .i64 l).length+2 by omega,Y0 _ _ []]
 rfl
theorem AhG{a n t v:Int}{l:List Int}{b:Bool}(h:l.length=9){i:Nat}(hi:i<9):AO (CC a l n b t) (1+i) [.int .i64 v]=CC a (l.set i v) n b t:=by
 have h9:(AA .i64 l).length=9:=by simpa using h
 show (CC a l n b t).set (1+i) (.int .i64 v)=_
 unfold CC
 rw[Nat.add_comm,List.set_cons_succ,List.set_append_left _ _ (by omega),G1]
def C3(I:Inf)(n kind:Int):Inf:=if kind≠0 then { I with next:=IntKind.i64.wrap (n+1) } else I
def EG(I:Inf)(n kind slot num:Int):Inf:=
 if kind=3 then { I with torn:=IntKind.i64.wrap (I.torn+1) }
 else if kind=1/\n=0 then { I with head:=num }
 else if kind=2/\0<n then { I with nums:=I.nums.set slot.toNat (if num > I.nums.getD slot.toNat 0 then num else I.nums.getD slot.toNat 0) }
 else I
def CD(I:Inf)(n kind slot num:Int):Inf:=EG (C3 I n kind) n kind slot num
theorem P6(I:Inf)(n kind:Int):(C3 I n kind).nums=I.nums:=by unfold C3;split <;> rfl
theorem AhZ(I:Inf)(n kind slot num:Int):(EG I n kind slot num).nums.length=I.nums.length:=by
 unfold EG
 split
 ·rfl
 ·split
  ·rfl
  ·split
   ·simp
   ·rfl
theorem AhY(I:Inf)(n kind slot num:Int):(CD I n kind slot num).nums.length=I.nums.length:=by
 unfold CD;rw[AhZ,P6]
section
variable {h0 h:H} {A:List Ent} {i j p r b:Nat} {C:Cm}
theorem Ai3{Q:HP}(I:Inf)(hl:I.nums.length=9)(hs:Sat h0 A h)(m:At A i (blk b (D5 I)))(n kind slot num:Int)(hslot:kind=2->0≤slot/\slot≤8)
  (k:∀h',Sat h0 (put A i (blk b (D5 (CD I n kind slot num)))) h'->Q h'):OH ⟨b,0,none⟩ n kind slot num Q h:=by
 unfold OH dI
 try simp only[AI,Nat.zero_add,List.append_nil]
 intro n1 _ hn;replace hs:=Sat.new hs hn
 intro J hJ
 unfold CD at k
 -- behind the first if
 have main:∀(I:Inf),I.nums.length=9->(∀h',Sat h0 (put A i (blk b (D5 (EG I n kind slot num)))) h'->Q h')->∀h2,Sat h0 (blk n1 [.int .i64 kind,.int .i64 slot,.int .i64 num]::put A i (blk b (D5 I))) h2->J [] h2:=by
  intro I hl k h2 hs
  unfold EG at k
  have m2:=(m.put (blk b (D5 I))).s (x:=blk n1 [.int .i64 kind,.int .i64 slot,.int .i64 num])
  apply hJ
  refine⟨_,Sat.ld hs (by repeat constructor) (by rfl),?_⟩
  by_cases c1:kind=3
  ·rw[if_pos c1]at k
   rw[if_pos (by simpa using c1)]
   refine⟨_,hs.ld m2 (P0 hl),hs.can m2 (by rw[HQ hl];decide),?_⟩
   intro h3 e
   replace hs:=hs.wr m2 e
   rw[AhF hl]at hs
   refine k _ ?_
   have:=hs
   simp only[AV,DU]at this
   exact this.drop
  rw[if_neg c1]at k
  rw[if_neg (by simpa using c1)]
  intro J2 hJ2
  have two:∀bb:Bool,(bb=true↔kind=1/\n=0)->J2 [.dv (.one (.bool bb))] h2:=by
   intro bb c2
   apply hJ2
   by_cases c3:bb=true
   ·rw[if_pos c3]
    rw[if_pos (c2.1 c3)]at k
    refine⟨_,Sat.ld hs (by repeat constructor) (by rfl),?_⟩
    refine⟨hs.can m2 (by rw[HQ hl];decide),?_⟩
    intro h3 e
    replace hs:=hs.wr m2 e
    rw[AhC]at hs
    refine k _ ?_
    have:=hs
    simp only[AV,DU]at this
    exact this.drop
   rw[if_neg c3]
   rw[if_neg (fun y=>c3 (c2.2 y))]at k
   refine⟨_,Sat.ld hs (by repeat constructor) (by rfl),?_⟩
   by_cases c4:kind=2
   case neg=>
    rw[if_neg (fun y=>c4 y.1)]at k
    rw[if_neg (by rw[beq_iff_eq];exact c4)]
    exact k _ hs.drop
   rw[if_pos (by rw[beq_iff_eq];exact c4)]
   by_cases c5:0<n
   case neg=>
    rw[if_neg (fun y=>c5 y.2)]at k
    rw[AD,if_neg (by simpa using c5)]
    exact k _ hs.drop
   rw[if_pos ⟨c4,c5⟩]at k
   rw[AD,if_pos (by simpa using c5)]
   obtain⟨s1,s2⟩:=hslot c4
   refine⟨_,Sat.ld hs (by repeat constructor) (by rfl),?_⟩
   refine⟨_,Sat.ld hs (by repeat constructor) (by rfl),?_⟩
   refine⟨by omega,by omega,_,by rw[Nat.mul_one];exact hs.ld m2 (sF hl (by omega)),?_⟩
   refine⟨_,Sat.ld hs (by repeat constructor) (by rfl),?_⟩
   refine⟨by omega,by omega,by rw[Nat.mul_one];exact hs.can m2 (by rw[HQ hl];omega),?_⟩
   intro h3 e
   rw[Nat.mul_one]at e
   replace hs:=hs.wr m2 e
   rw[AhG hl (by omega)]at hs
   refine k _ ?_
   have:=hs
   simp only[AV,DU]at this
   exact this.drop
  refine⟨_,Sat.ld hs (by repeat constructor) (by rfl),?_⟩
  by_cases c2:kind=1
  ·rw[if_pos (by rw[beq_iff_eq];exact c2)]
   exact two _ (by rw[beq_iff_eq];exact⟨fun y=>⟨c2,y⟩,fun y=>y.2⟩)
  ·rw[if_neg (by rw[beq_iff_eq];exact c2)]
   exact two _ ⟨fun y=>by simp at y,fun y=>absurd y.1 c2⟩
 refine⟨_,Sat.ld hs (by repeat constructor) (by rfl),?_⟩
 by_cases c0:kind=0
 ·rw[if_neg (by simpa using c0)]
  have e:C3 I n kind=I:=if_neg (by simpa using c0)
  rw[e]at k
  exact main I hl k _ (by rw[m.put_self];exact hs)
 ·rw[if_pos (by simpa using c0)]
  have e:C3 I n kind={ I with next:=IntKind.i64.wrap (n+1) }:=if_pos (by simpa using c0)
  rw[e]at k
  refine⟨hs.can m.s (by rw[HQ hl];decide),?_⟩
  intro h3 e
  replace hs:=hs.wr m.s e
  rw[AhD hl,AV]at hs
  exact main { I with next:=IntKind.i64.wrap (n+1) } hl k _ hs
def ofM(row:List Int):Nat->Inf
 | 0=>inf0
 | n+1=>CD (ofM row n) n (A1 (AY row n)).1 (A1 (AY row n)).2.1 (A1 (AY row n)).2.2
theorem MS(row:List Int)(n:Nat):(ofM row n).nums.length=9:=by
 induction n with
 | zero=>rfl
 | succ n ih=>unfold ofM;rw[AhY,ih]
theorem jI(I:Inf)(n kind slot num:Int):(EG I n kind slot num).next=I.next:=by
 unfold EG;(repeat' split) <;> rfl
theorem tQ(row:List Int)(n:Nat)(hn:n<2^60):((ofM row n).next=0->ofM row n=inf0)/\(ofM row n).blank=false:=by
 induction n with
 | zero=>exact⟨fun _=>rfl,rfl⟩
 | succ n ih=>
  obtain⟨i1,i2⟩:=ih (by omega)
  unfold ofM CD
  generalize (A1 (AY row n)).1=kind
  generalize (A1 (AY row n)).2.1=slot
  generalize (A1 (AY row n)).2.2=num
  by_cases c:kind=0
  ·have e:C3 (ofM row n) n kind=ofM row n:=if_neg (by simpa using c)
   rw[e,jI]
   have e2:EG (ofM row n) n kind slot num=ofM row n:=by
    unfold EG;rw[if_neg (by omega),if_neg (by omega),if_neg (by omega)]
   rw[e2]
   exact⟨i1,i2⟩
  ·have e:C3 (ofM row n) n kind={ ofM row n with next:=IntKind.i64.wrap (n+1) }:=if_pos (by simpa using c)
   rw[e,jI]
   refine⟨fun x=>?_,?_⟩
   ·dsimp only at x
    rw[AQ (by omega)]at x;omega
   ·unfold EG;(repeat' split) <;> exact i2
theorem Ak4(x:List Int)(hb:AW x)(h:(A1 x).1=2):0≤(A1 x).2.1/\(A1 x).2.1≤8:=by
 unfold A1 at *
 split
 ·rename_i c;rw[if_pos c]at h;simp at h
 ·rename_i c;rw[if_neg c]at h
  split
  ·rename_i c;rw[if_pos c]at h;simp at h
  ·rename_i c;rw[if_neg c]at h
   split
   ·rename_i c;rw[if_pos c]at h;simp at h
   ·rename_i c;rw[if_neg c]at h
    split
    ·rename_i c;rw[if_pos c]at h;simp at h
    ·rename_i c;rw[if_neg c]at h
     split
     ·rename_i c
      refine⟨?_,c.2.1⟩
      show 0≤x.getD 1 0
      rw[List.getD_eq_getElem?_getD]
      cases e:x[1]? with
      | none=>exact Int.le_refl _
      | some v=>exact (hb v (List.mem_iff_getElem?.2 ⟨1,e⟩)).1
     ·rename_i c;rw[if_neg c]at h;simp at h
def X5(row:List Int)(n:Nat):Inf:={ ofM row n with blank:=decide ((ofM row n).next=0) }
def FV(C:Cm)(page:Int):Inf×Int:=
 if AT C page C.s.pages.length≠0 then (inf0,AT C page C.s.pages.length) else (X5 (C.s.pages.getD page.toNat []) C.cfg.cells.toNat,0)
theorem zV{Q:Int->List Int->Int->Bool->Int->Int->HP}(hs:Sat h0 A h)(ci:At A i (AF p C))(page:Int)
  (k:∀h',Sat h0 A h'->Q (FV C page).1.head (FV C page).1.nums (FV C page).1.next (FV C page).1.blank (FV C page).1.torn (FV C page).2 h'):OI ⟨p,0,none⟩ page Q h:=by
 unfold OI dJ
 try simp only[AI,Nat.zero_add,List.append_nil]
 have ok:=CW hs ci
 intro n1 _ hn;replace hs:=Sat.new hs hn
 intro n2 _ hn;replace hs:=Sat.new hs hn
 have z9:(AB 9).length=9:=rfl
 refine ZR hs ci.s.s page ?_
 unfold FV at k
 by_cases e:AT C page C.s.pages.length=0
 case neg=>
  have ee:EO C page=(0,AT C page C.s.pages.length):=by unfold EO;rw[if_pos (by simpa using e)]
  rw[ee,if_pos (by simpa using e)]
  rw[if_pos (by simpa using e)]at k
  refine⟨_,Sat.ld hs (by repeat constructor) rfl,_,z9,Sat.row hs (by repeat constructor) (UW z9),_,Sat.ld hs (by repeat constructor) (UU z9),_,Sat.ld hs (by repeat constructor) (UV z9),_,Sat.ld hs (by repeat constructor) (P0 z9),?_⟩
  (refine⟨Sat.can hs (by repeat constructor) (by decide),?_⟩;intro _ e;replace hs:=Sat.wra hs (by repeat constructor) e ((HQ z9).trans rfl);clear e;simp only[put]at hs)
  refine⟨_,Sat.ld hs (by repeat constructor) rfl,_,z9,Sat.row hs (by repeat constructor) (UW z9),_,Sat.ld hs (by repeat constructor) (UU z9),_,Sat.ld hs (by repeat constructor) (UV z9),_,Sat.ld hs (by repeat constructor) (P0 z9),?_⟩
  exact k _ hs.drop.drop
 have ee:EO C page=(C.s.erases.getD page.toNat 0,0):=by unfold EO;rw[if_neg (by simpa using e)]
 rw[ee,if_neg (by simp)]
 rw[if_neg (by simpa using e)]at k
 obtain⟨ho,p1,p2⟩:=EA e
 refine CO hs ci.s.s ?_
 intro h1 hs
 have hcells:=ok.may.cells
 have hj:page.toNat<C.s.pages.length:=by omega
 have erow:C.s.pages.getD page.toNat []=C.s.pages[page.toNat]:=by simp[List.getD,List.getElem?_eq_getElem hj]
 have hrl:=ok.fits.cells _ (List.getElem_mem hj)
 have hrb:=ok.typed.bytes _ (List.getElem_mem hj)
 rw[erow]at k
 generalize hrow:C.s.pages[page.toNat]=row at *
 have eread:∀n:Nat,n<C.cfg.cells.toNat->CI C page n=(AY row n,0):=by
  intro n hn
  have ec:DP C page n=0:=by
   unfold DP
   rw[DB ho p1 p2,if_neg (by simp),DB ho (by omega) (by omega)]
  unfold CI
  rw[ec,if_neg (by simp),erow,Int.toNat_natCast]
 intro J hJ
 refine BS C.cfg.cells.toNat (fun n h=>Sat h0 (blk n2 (D5 (ofM row n))::blk n1 (D5 inf0)::A) h) ?_ ?_ 0 _ (by omega) hs
 ·intro n h2 hn hs hk
  apply hJ
  rw[AD,if_pos (by simp;omega)]
  refine gW hs ci.s.s page n ?_
  intro h3 hs
  rw[eread n hn]
  have hcl:(AY row n).length=32:=FT (by omega)
  have hcb:AW (AY row n):=fun v hv=>hrb v (PS hv)
  have hnl:=MS row n
  have hslot:=Ak4 (AY row n) hcb
  intro n3 _ hn3;replace hs:=Sat.new hs hn3;clear hn3
  refine⟨Sat.can hs (by repeat constructor) (by simp[hcl]),?_⟩
  intro _ e;replace hs:=Sat.wra hs (by repeat constructor) e (by rw[BV,BV,hcl];rfl);clear e;simp only[put]at hs
  rw[if_neg (by simp)]
  refine⟨_,hcl,hs.row0 .z,?_⟩
  refine AcV _ hcl hcb hs ?_
  intro h4 hs
  refine Ai3 (i:=1) (ofM row n) hnl hs zs1 n _ _ _ hslot ?_
  intro h5 hs
  rw[A0 (by omega)]
  exact hk _ hs.drop
 ·intro h2 hs
  apply hJ
  rw[AD,if_neg (by simp;omega)]
  have hnl:=MS row C.cfg.cells.toNat
  have hbl:=tQ row C.cfg.cells.toNat (by omega)
  generalize hO:ofM row C.cfg.cells.toNat=O at *
  refine⟨_,Sat.ld hs (by repeat constructor) rfl,_,hnl,Sat.row hs (by repeat constructor) (UW hnl),_,Sat.ld hs (by repeat constructor) (UU hnl),_,Sat.ld hs (by repeat constructor) (UV hnl),_,Sat.ld hs (by repeat constructor) (P0 hnl),?_⟩
  have ebl:(O.head == 0&&(O.nums == AB 9&&(O.next == 0&&(O.blank == false&&(O.torn == 0&&true)))))=decide (O.next=0):=by
   by_cases c:O.next=0
   ·rw[hbl.1 c];decide
   ·rw[decide_eq_false c]
    have:(O.next == 0)=false:=by simpa using c
    rw[this];simp
  rw[ebl]
  refine⟨hs.can .z (by rw[HQ hnl];decide),?_⟩
  intro h3 e
  replace hs:=hs.wr .z e
  rw[AhE hnl,AG]at hs
  refine⟨_,Sat.ld hs (by repeat constructor) rfl,_,hnl,Sat.row hs (by repeat constructor) (UW hnl),_,Sat.ld hs (by repeat constructor) (UU hnl),_,Sat.ld hs (by repeat constructor) (UV hnl),_,Sat.ld hs (by repeat constructor) (P0 hnl),?_⟩
  (refine⟨Sat.can hs (by repeat constructor) (by decide),?_⟩;intro _ e;replace hs:=Sat.wra hs (by repeat constructor) e ((HQ hnl).trans rfl);clear e;simp only[put]at hs)
  refine⟨_,Sat.ld hs (by repeat constructor) rfl,_,hnl,Sat.row hs (by repeat constructor) (UW hnl),_,Sat.ld hs (by repeat constructor) (UU hnl),_,Sat.ld hs (by repeat constructor) (UV hnl),_,Sat.ld hs (by repeat constructor) (P0 hnl),?_⟩
  unfold X5 at k
  rw[hO]at k
  exact k _ hs.drop.drop
end
end Go.Proofs.YteedolonhdbieaaGreatDoor
/- Contracts of the document's pages;PageLooks. Own work. -/
set_option maxRecDepth 100000
namespace Go.Proofs.YteedolonhdbieaaGreatDoor
open Go Go.Vc
section
variable {h0 h:H} {A:List Ent} {i j p r b:Nat} {C:Cm}
end
end Go.Proofs.YteedolonhdbieaaGreatDoor
end
section
namespace Go.Proofs.YteedolonhdbieaaGreatDoor
open Go Go.Vc
set_option maxRecDepth 100000
section
variable {h0 h:H} {A:List Ent} {i j p r b:Nat} {C:Cm}
theorem AiA(C:Cm)(page:Int):(FV C page).1.nums.length=9:=by
 unfold FV
 split
 ·rfl
 ·exact MS _ _
end
def FN(a b:Int):Prop:=bits .or .u8 a b=b
theorem L7{x y:Int}(hx:A4 x)(hy:A4 y)(e:b8 x=b8 y):x=y:=by
 have h2:=congrArg BitVec.toNat e
 simp only[BitVec.toNat_ofInt]at h2
 obtain⟨a1,a2⟩:=hx
 obtain⟨a3,a4⟩:=hy
 omega
theorem GS(x y:Int):b8 (bits .or .u8 x y)=b8 x ||| b8 y:=by rw[iF,PQ]
theorem iD(x y:Int):b8 (bits .xor .u8 x y)=b8 x ^^^ b8 y:=by rw[pD,PQ]
theorem WN(x y:Int):b8 (bits .andNot .u8 x y)=b8 x &&& ~~~ b8 y:=by rw[UA,PQ]
theorem JY:b8 255=BitVec.allOnes 8:=by decide
theorem AjH{x y v:Int}(hx:A4 x)(hy:A4 y)(hv:A4 v)(s:bits .or .u8 x y=255)(h1:FN x v)(h2:FN y (HN v)):x=v/\y=HN v:=by
 unfold FN at h1 h2
 have s':=congrArg b8 s
 have h1':=congrArg b8 h1
 have h2':=congrArg b8 h2
 unfold HN at h2' ⊢
 rw[GS,JY]at s'
 rw[GS]at h1'
 rw[GS,iD,JY]at h2'
 have key:∀i (hi:i<8),(b8 x)[i]=(b8 v)[i]/\(b8 y)[i]=!(b8 v)[i]:=by
  intro i hi
  have a1:=congrArg (fun z:BitVec 8=>z.getLsbD i) s'
  have a2:=congrArg (fun z:BitVec 8=>z.getLsbD i) h1'
  have a3:=congrArg (fun z:BitVec 8=>z.getLsbD i) h2'
  simp only[BitVec.getLsbD_or,BitVec.getLsbD_xor,BitVec.getLsbD_allOnes,hi,decide_true]at a1 a2 a3
  rw[BitVec.getElem_eq_testBit_toNat,BitVec.getElem_eq_testBit_toNat,BitVec.getElem_eq_testBit_toNat]
  change ((b8 x).getLsbD i=(b8 v).getLsbD i)/\((b8 y).getLsbD i=!(b8 v).getLsbD i)
  revert a1 a2 a3
  cases (b8 x).getLsbD i <;> cases (b8 y).getLsbD i <;> cases (b8 v).getLsbD i <;> simp
 refine⟨L7 hx hv ?_,L7 hy (EV _ _ _) ?_⟩
 ·ext i hi;exact (key i hi).1
 ·rw[iD,JY]
  ext i hi
  rw[(key i hi).2]
  simp only[BitVec.getElem_xor,BitVec.getElem_allOnes]
  cases (b8 v)[i] <;> rfl
theorem AlZ(a m:Int)(ha:A4 a):FN a (bits .or .u8 a m):=by
 unfold FN
 refine L7 (EV _ _ _) (EV _ _ _) ?_
 rw[GS,GS]
 ext i hi
 simp only[BitVec.getElem_or]
 cases (b8 a)[i] <;> cases (b8 m)[i] <;> rfl
theorem vK{a b:Int}(m m':Int)(s:bits .or .u8 a b=255):bits .or .u8 (bits .or .u8 a m) (bits .or .u8 b m')=255:=by
 have s':=congrArg b8 s
 rw[GS,JY]at s'
 refine L7 (EV _ _ _) ⟨by decide,by decide⟩ ?_
 rw[GS,GS,GS,JY,←s']
 ext i hi
 have a1:=congrArg (fun z:BitVec 8=>z[i]) s'
 simp only[BitVec.getElem_or,BitVec.getElem_allOnes]at a1 ⊢
 revert a1
 cases (b8 a)[i] <;> cases (b8 b)[i] <;> simp
theorem AjP(x m:Int)(hx:A4 x):FN x (bits .andNot .u8 255 (bits .andNot .u8 m x)):=by
 unfold FN
 refine L7 (EV _ _ _) (EV _ _ _) ?_
 rw[GS,WN,WN,JY]
 ext i hi
 simp only[BitVec.getElem_or,BitVec.getElem_and,BitVec.getElem_not,BitVec.getElem_allOnes]
 cases (b8 x)[i] <;> cases (b8 m)[i] <;> rfl
theorem AlO{a b a' b':Int}(s:bits .or .u8 a b=255)(h1:FN a a')(h2:FN b b'):bits .or .u8 a' b'=255:=by
 rw[←h1,←h2]
 have:∀p q r t:Int,bits .or .u8 (bits .or .u8 p q) (bits .or .u8 r t)=bits .or .u8 (bits .or .u8 p q) (bits .or .u8 r t):=fun _ _ _ _=>rfl
 exact vK a' b' s
theorem t9(x:Int)(hx:A4 x):bits .andNot .u8 255 (bits .andNot .u8 255 x)=x:=by
 refine L7 (EV _ _ _) hx ?_
 rw[WN,WN,JY]
 ext i hi
 simp only[BitVec.getElem_and,BitVec.getElem_not,BitVec.getElem_allOnes]
 cases (b8 x)[i] <;> rfl
def UG(x:List Int):Prop:=∀k,k<16->bits .or .u8 (x.getD k 0) (x.getD (16+k) 0)=255
theorem TD{n:Nat}(f:Nat->Int){k:Nat}(h:k<n):(tab n f).getD k 0=f k:=by rw[List.getD_eq_getElem?_getD,ID,if_pos h];rfl
theorem U2(kind slot n:Int)(k:Nat)(hk:k<16):(BD kind slot n).getD k 0=EB kind slot n k/\(BD kind slot n).getD (16+k) 0=HN (EB kind slot n k):=by
 unfold BD
 rw[TD _ (by omega),TD _ (by omega)]
 exact⟨if_pos hk,by rw[if_neg (by omega),Nat.add_sub_cancel_left]⟩
theorem iI{kind slot n:Int}(hk:A4 kind)(k:Nat):A4 (EB kind slot n k):=by
 unfold EB
 split
 ·exact lB _
 ·exact pJ hk k
theorem MG{x:List Int}(hb:AW x)(k:Nat):A4 (x.getD k 0):=by
 rw[List.getD_eq_getElem?_getD]
 cases e:x[k]? with
 | none=>exact⟨by decide,by decide⟩
 | some v=>exact hb v (List.mem_iff_getElem?.2 ⟨k,e⟩)
theorem AeI{x x':List Int}(hx:x.length=32)(hb:AW x)(s:UG x)(hs:∀k,k<32->FN (x.getD k 0) (x'.getD k 0)){kind slot n:Int}(hk:A4 kind)(e:x'=BD kind slot n):x'=x:=by
 rw[Aj3 x,hx,e]
 refine TC fun i hi=>?_
 have key:∀k,k<16->x.getD k 0=EB kind slot n k/\x.getD (16+k) 0=HN (EB kind slot n k):=by
  intro k hk'
  obtain⟨l1,l2⟩:=U2 kind slot n k hk'
  have s1:=hs k (by omega)
  have s2:=hs (16+k) (by omega)
  rw[e,l1]at s1
  rw[e,l2]at s2
  exact AjH (MG hb _) (MG hb _) (iI hk k) (s k hk') s1 s2
 by_cases h:i<16
 ·rw[if_pos h,(key i h).1]
 ·rw[if_neg h]
  have:=(key (i-16) (by omega)).2
  rw[show 16+(i-16)=i by omega]at this
  exact this.symm
theorem Ak2(x:List Int):(A1 x).1=0∨(A1 x).1=3∨∃kind slot n:Int,A4 kind/\x=BD kind slot n:=by
 unfold A1
 split
 ·exact Or.inl rfl
 ·split
  ·exact Or.inr (Or.inl rfl)
  ·split
   ·exact Or.inr (Or.inl rfl)
   ·split
    ·rename_i c;exact Or.inr (Or.inr ⟨_,_,_,⟨by decide,by decide⟩,c.2⟩)
    ·split
     ·rename_i c;exact Or.inr (Or.inr ⟨_,_,_,⟨by decide,by decide⟩,c.2.2⟩)
     ·exact Or.inr (Or.inl rfl)
theorem uO{x x':List Int}(hx:x.length=32)(hb:AW x)(s:UG x)(hs:∀k,k<32->FN (x.getD k 0) (x'.getD k 0)):(A1 x').1=0∨(A1 x').1=3∨A1 x'=A1 x:=by
 rcases Ak2 x' with h | h | ⟨kind,slot,n,hk,e⟩
 ·exact Or.inl h
 ·exact Or.inr (Or.inl h)
 ·exact Or.inr (Or.inr (by rw[AeI hx hb s hs hk e]))
theorem AhT(kind slot n:Int)(hk:A4 kind):UG (BD kind slot n):=by
 intro k hk'
 obtain⟨l1,l2⟩:=U2 kind slot n k hk'
 rw[l1,l2]
 unfold HN
 refine L7 (EV _ _ _) ⟨by decide,by decide⟩ ?_
 rw[GS,iD,JY]
 ext i hi
 simp only[BitVec.getElem_or,BitVec.getElem_xor,BitVec.getElem_allOnes]
 cases (b8 (EB kind slot n k))[i] <;> rfl
theorem s9(I:Inf)(n kind slot num:Int)(hk:kind=0∨kind=3):(CD I n kind slot num).nums=I.nums/\(CD I n kind slot num).head=I.head:=by
 unfold CD
 have e1:=P6 I n kind
 have e2:(C3 I n kind).head=I.head:=by unfold C3;split <;> rfl
 unfold EG
 by_cases c1:kind=3
 ·rw[if_pos c1];exact⟨e1,e2⟩
 rw[if_neg c1,if_neg (by omega),if_neg (by omega)]
 exact⟨e1,e2⟩
theorem s8(I:Inf)(n kind slot num:Int)(hn:n≠0):(CD I n kind slot num).head=I.head:=by
 unfold CD
 have e2:(C3 I n kind).head=I.head:=by unfold C3;split <;> rfl
 unfold EG
 split
 ·exact e2
 ·rw[if_neg (by omega)]
  split
  ·exact e2
  ·exact e2
def FB(row:List Int)(l:Nat):Prop:=∀i,i<l->∀k,k<16->bits .or .u8 (row.getD (i*32+k) 0) (row.getD (i*32+(16+k)) 0)=255
instance (row:List Int) (l:Nat):Decidable (FB row l):=by unfold FB;infer_instance
theorem ME{x y:List Int}(h:x.length=y.length)(e:∀i,i<x.length->x.getD i 0=y.getD i 0):x=y:=by
 apply List.ext_getElem h
 intro i h1 h2
 have:=e i h1
 rw[List.getD_eq_getElem?_getD,List.getD_eq_getElem?_getD,List.getElem?_eq_getElem h1,List.getElem?_eq_getElem h2]at this
 exact this
theorem GW(row:List Int)(k i:Nat)(hi:i<32):(AY row k).getD i 0=row.getD (k*32+i) 0:=by
 rw[List.getD_eq_getElem?_getD,pM row k i hi,List.getD_eq_getElem?_getD]
theorem sound_cells{row:List Int}{l:Nat}:FB row l↔∀k,k<l->UG (AY row k):=by
 unfold FB UG
 constructor
 ·intro h k hk j hj
  rw[GW _ _ _ (by omega),GW _ _ _ (by omega)]
  exact h k hk j hj
 ·intro h k hk j hj
  have:=h k hk j hj
  rw[GW _ _ _ (by omega),GW _ _ _ (by omega)]at this
  exact this
theorem MQ(g:Nat->Int->Int)(n:Nat)(ns:List Int)(j:Nat)(hj:j<ns.length)(hn:j<n):(B5 g n ns).getD j 0=g j (ns.getD j 0):=by
 rw[List.getD_eq_getElem?_getD,IT,List.getElem?_eq_getElem hj]
 simp[hn,List.getD,List.getElem?_eq_getElem hj]
theorem AgO(f:Nat->Int){row:List Int}{l:Nat}(hlen:row.length=l*32)(hb:AW row)(hs:FB row l):
  FB (CB row f) l/\∀k,k<l->(A1 (AY (CB row f) k)).1=0∨(A1 (AY (CB row f) k)).1=3∨A1 (AY (CB row f) k)=A1 (AY row k):=by
 have eg:∀q,q<row.length->(CB row f).getD q 0=bits .or .u8 (row.getD q 0) (f q):=fun q hq=>MQ _ _ _ _ hq hq
 refine⟨?_,?_⟩
 ·intro i hi k hk
  rw[eg _ (by omega),eg _ (by omega)]
  exact vK _ _ (hs i hi k hk)
 ·intro k hk
  refine uO (FT (by omega)) (fun v hv=>hb v (PS hv)) (sound_cells.1 hs k hk) ?_
  intro j hj
  rw[GW _ _ _ hj,GW _ _ _ hj,eg _ (by omega)]
  exact AlZ _ _ (MG hb _)
theorem VK{row c:List Int}{k:Nat}(hk:(k+1)*32≤row.length)(hc:c.length=32):AY (CK row k c) k=c:=by
 unfold AY CK
 rw[List.append_assoc,List.drop_append_of_le_length (by simp;omega),List.drop_eq_nil_of_le (by simp;omega),List.nil_append,List.take_append_of_le_length (by omega),List.take_of_length_le (by omega)]
theorem AkO{row c:List Int}{k q:Nat}(hk:(k+1)*32≤row.length)(hc:c.length=32)(hq:q<k*32∨k*32+32≤q):(CK row k c).getD q 0=row.getD q 0:=by
 unfold CK
 rw[List.getD_eq_getElem?_getD,List.getD_eq_getElem?_getD]
 congr 1
 rcases hq with hq | hq
 ·rw[List.append_assoc,List.getElem?_append_left (by simp;omega),List.getElem?_take,if_pos hq]
 ·rw[List.getElem?_append_right (by simp;omega),List.getElem?_drop]
  congr 1
  simp;omega
theorem VJ{row c:List Int}{k j:Nat}(hk:(k+1)*32≤row.length)(hj:(j+1)*32≤row.length)(hc:c.length=32)(h:j≠k):AY (CK row k c) j=AY row j:=by
 have l1:(AY (CK row k c) j).length=32:=FT (by rw[VI hk hc];exact hj)
 have l2:(AY row j).length=32:=FT hj
 refine ME (l1.trans l2.symm) fun i hi=>?_
 rw[l1]at hi
 rw[GW _ _ _ hi,GW _ _ _ hi,AkO hk hc (by omega)]
theorem j7(x:List Int)(f:Nat->Int)(i:Nat)(hi:i<32):(CS blankCell x f).getD i 0=bits .andNot .u8 255 (bits .andNot .u8 (f i) (x.getD i 0)):=by
 unfold CS
 rw[MQ _ _ _ _ (by simpa[blankCell]using hi) hi]
 have:blankCell.getD i 0=255:=by
  unfold blankCell
  rw[List.getD_eq_getElem?_getD,List.getElem?_replicate,if_pos hi];rfl
 rw[this]
theorem VD(old x:List Int)(f:Nat->Int)(h:old.length=32):(CS old x f).length=32:=by
 unfold CS B5;simpa using h
theorem AgP(f:Nat->Int){row:List Int}{l place:Nat}{kind slot n:Int}(hk:A4 kind)(hlen:row.length=l*32)(hb:AW row)(hs:FB row l)(hp:place<l)(hbl:AY row place=blankCell):
  FB (CK row place (CS (AY row place) (BD kind slot n) f)) l/\
  ∀k,k<l->AW (AY (CK row place (CS (AY row place) (BD kind slot n) fun _=>255)) k)/\((A1 (AY (CK row place (CS (AY row place) (BD kind slot n) f)) k)).1=0 ∨
   (A1 (AY (CK row place (CS (AY row place) (BD kind slot n) f)) k)).1=3 ∨
   A1 (AY (CK row place (CS (AY row place) (BD kind slot n) f)) k)=A1 (AY (CK row place (CS (AY row place) (BD kind slot n) fun _=>255)) k)):=by
 rw[hbl]
 have hX:=XO kind slot n
 have hXb:AW (BD kind slot n):=Y4 fun k=>by
  split
  ·exact iI hk _
  ·exact EV _ _ _
 have hXs:=AhT kind slot n hk
 generalize BD kind slot n=X at *
 have hcl:∀g,(CS blankCell X g).length=32:=fun g=>VD _ _ _ (by simp[blankCell])
 have hfull:CS blankCell X (fun _=>255)=X:=by
  refine ME ((hcl _).trans hX.symm) fun i hi=>?_
  rw[hcl]at hi
  rw[j7 _ _ _ hi]
  exact t9 _ (MG hXb _)
 rw[hfull]
 have hpl:(place+1)*32≤row.length:=by omega
 have hsub:∀j,j<32->FN (X.getD j 0) ((CS blankCell X f).getD j 0):=by
  intro j hj
  rw[j7 _ _ _ hj]
  exact AjP _ _ (MG hXb _)
 refine⟨sound_cells.2 fun k hk'=>?_,fun k hk'=>?_⟩
 ·by_cases e:k=place
  ·rw[e,VK hpl (hcl f)]
   intro j hj
   exact AlO (hXs j hj) (hsub j (by omega)) (hsub (16+j) (by omega))
  ·rw[VJ hpl (by omega) (hcl f) e]
   exact sound_cells.1 hs k hk'
 ·by_cases e:k=place
  ·rw[e,VK hpl (hcl f),VK hpl hX]
   exact⟨hXb,uO hX hXb hXs hsub⟩
  ·rw[VJ hpl (by omega) (hcl f) e,VJ hpl (by omega) hX e]
   exact⟨fun v hv=>hb v (PS hv),Or.inr (Or.inr rfl)⟩
section
variable {h0 h:H} {A:List Ent} {i j p r b:Nat} {C:Cm}
end
structure Half (c:Cfg) (s:St) (pg:Nat) (row:List Int) (l:Nat) (D E:Cm):Prop where
 dc:D.cfg=c
 ec:E.cfg=c
 eo:E.out=false
 dp:D.s.pages.length=s.pages.length
 ep:E.s.pages.length=s.pages.length
 ds:FB (D.s.pages.getD pg []) l
 z:∃z,(z=row∨z=E.s.pages.getD pg [])/\(∀k,k<l->AW (AY z k))/\
  ∀k,k<l->(A1 (AY (D.s.pages.getD pg []) k)).1=0∨(A1 (AY (D.s.pages.getD pg []) k)).1=3∨A1 (AY (D.s.pages.getD pg []) k)=A1 (AY z k)
section
variable {c:Cfg} {s:St} {C0:Cm} {pg:Int} {row:List Int} {l:Nat}
end
section
variable {h0 h:H} {A:List Ent} {i j p r b:Nat} {C:Cm}
end
def CN(c:Cfg):Int:=if c.may then c.area*c.cells*32 else 0
theorem AlK{c:Cfg}(m:c.may):0≤c.area*c.cells/\c.area*c.cells≤16384:=by
 have h1:=m.area;have h2:=m.cells;have h3:=m.slots
 refine⟨Int.mul_nonneg (by omega) (by omega),?_⟩
 calc c.area*c.cells≤64*c.cells:=Int.mul_le_mul_of_nonneg_right (by omega) (by omega)
  _≤16384:=by omega
section
variable {h0 h:H} {A:List Ent} {i j p r b:Nat} {C:Cm}
theorem gY(c:Cfg){Q:Int->HP}(hs:Sat h0 A h)(k:∀h',Sat h0 A h'->Q (CN c) h'):IJ c.cells c.slots c.fuses c.step c.keys c.erases c.area Q h:=by
 unfold IJ ZV
 try simp only[AI,Nat.zero_add]
 intro n1 _ hn;replace hs:=Sat.new hs hn
 refine⟨_,Sat.ld hs (by repeat constructor) (by rfl),?_⟩
 refine⟨_,Sat.ld hs (by repeat constructor) (by rfl),?_⟩
 refine⟨_,Sat.ld hs (by repeat constructor) (by rfl),?_⟩
 refine⟨_,Sat.ld hs (by repeat constructor) (by rfl),?_⟩
 refine⟨_,Sat.ld hs (by repeat constructor) (by rfl),?_⟩
 refine⟨_,Sat.ld hs (by repeat constructor) (by rfl),?_⟩
 refine⟨_,Sat.ld hs (by repeat constructor) (by rfl),?_⟩
 refine gH c hs ?_
 intro h1 hs
 unfold CN at k
 unfold Cfg.may?
 by_cases m:c.may
 ·rw[if_pos m]at k ⊢
  rw[if_neg (by simp)]
  refine⟨_,Sat.ld hs (by repeat constructor) (by rfl),?_⟩
  refine⟨_,Sat.ld hs (by repeat constructor) (by rfl),?_⟩
  obtain⟨z1,z2⟩:=AlK m
  rw[AQ (n:=c.area*c.cells) (by omega),AQ (by omega)]
  exact k _ hs.drop
 ·rw[if_neg m]at k ⊢
  rw[if_pos (by simp)]
  exact k _ hs.drop
theorem oJ{Q:Int->HP}(hs:Sat h0 A h)(ci:At A i (AF p C))(j:Int)(k:Q (AT C j 2) h):I4 ⟨p,0,none⟩ j Q h:=by
 unfold I4 ZY
 refine PH hs ci ?_
 unfold AT at k
 rw[AD,AD]
 by_cases c1:C.out=true
 ·rw[if_pos c1]at k ⊢;exact k
 rw[if_neg c1]at k ⊢
 by_cases c2:j<0
 ·rw[if_pos c2]at k;rw[if_pos (by simpa using c2)];exact k
 rw[if_neg c2]at k
 rw[if_neg (by simpa using c2)]
 by_cases c3:2≤j
 ·rw[if_pos c3]at k;rw[if_pos (by simp;omega)];exact k
 ·rw[if_neg c3]at k;rw[if_neg (by simp;omega)];exact k
theorem hH{Q:Int->Int->HP}(hs:Sat h0 A h)(ci:At A i (AF p C))(ar:Int)(a1:0≤ar)(a2:ar<2)(k:∀h',Sat h0 A h'->Q (2+ar*C.cfg.area) (2+ar*C.cfg.area+C.cfg.area) h'):G8 ⟨p,0,none⟩ ar Q h:=by
 unfold G8 Z2
 refine CO hs ci ?_
 intro h1 hs
 have hm:=(CW hs ci).may.area
 have e:(ar+1)*C.cfg.area=ar*C.cfg.area+C.cfg.area:=by rw[Int.add_mul,Int.one_mul]
 have z:0≤ar*C.cfg.area/\ar*C.cfg.area≤64:=by
  have:ar=0∨ar=1:=by omega
  rcases this with rfl | rfl <;> omega
 rw[AQ (n:=ar+1) (by omega),e,AQ (n:=ar*C.cfg.area) (by omega),AQ (n:=ar*C.cfg.area+C.cfg.area) (by omega),AQ (by omega),AQ (by omega),←Int.add_assoc]
 exact k _ hs
theorem oY{Q:Int->Int->HP}(hs:Sat h0 A h)(ci:At A i (AF p C))(ar:Int)(a1:0≤ar)(a2:ar<2)(n:Nat)(hn:n<2^40)(k:∀h',Sat h0 A h'->Q (2+ar*C.cfg.area+((n / C.cfg.cells.toNat:Nat):Int)) ((n % C.cfg.cells.toNat:Nat):Int) h'):I6 ⟨p,0,none⟩ ar n Q h:=by
 unfold I6 Z3
 refine hH hs ci ar a1 a2 ?_
 intro h1 hs
 refine CO hs ci ?_
 intro h2 hs
 have hm:=(CW hs ci).may.area
 have hc:=(CW hs ci).may.cells
 have hsl:=(CW hs ci).may.slots
 have z:0≤ar*C.cfg.area/\ar*C.cfg.area≤64:=by
  have:ar=0∨ar=1:=by omega
  rcases this with rfl | rfl <;> omega
 have ec:(C.cfg.cells.toNat:Int)=C.cfg.cells:=by omega
 have e1:(n:Int).tdiv C.cfg.cells=((n / C.cfg.cells.toNat:Nat):Int):=by
  rw[Int.tdiv_eq_ediv_of_nonneg (by omega),←ec];rfl
 have e2:(n:Int).tmod C.cfg.cells=((n % C.cfg.cells.toNat:Nat):Int):=by
  rw[Int.tmod_eq_emod_of_nonneg (by omega),←ec];rfl
 have hd:n / C.cfg.cells.toNat≤n:=Nat.div_le_self _ _
 rw[e1,e2]
 clear e1 e2
 generalize n / C.cfg.cells.toNat=dd at *
 generalize n % C.cfg.cells.toNat=mm at *
 rw[AQ (n:=(dd:Int)) (by omega),AQ (by omega)]
 exact⟨by omega,by omega,k _ hs⟩
theorem oK{Q:List Int->HP}(hs:Sat h0 A h)(k:∀h',Sat h0 A h'->Q ffs h'):I5 Q h:=by
 unfold I5 ZZ
 try simp only[AI,Nat.zero_add,List.append_nil]
 intro n1 _ hn;replace hs:=Sat.new hs hn
 intro n2 _ hn;replace hs:=Sat.new hs hn
 rw[lG]at hs
 intro J hJ
 replace hs:=Sat.tab_to (g:=fun i=>if i<0 then 255 else 0) hs fun i hi=>(if_neg (by omega)).symm
 refine BS 32 (fun n h=>Sat h0 (blk n2 (AA .u8 (tab 32 fun i=>if i<n then 255 else 0))::blk n1 (AA .u8 (tab 32 fun _=>0))::A) h) ?_ ?_ 0 _ (by omega) hs
 ·intro n h1 hn hs hk
  apply hJ
  rw[AD,if_pos (by simp;omega)]
  refine⟨by omega,by omega,?_⟩
  rw[Int.toNat_natCast,Nat.mul_one]
  refine⟨hs.can .z (by simp;omega),?_⟩
  intro h2 e
  replace hs:=hs.wr .z e
  rw[AG,UY]at hs
  rw[A0 (by omega)]
  refine hk _ (Sat.tab_to hs fun i hi=>?_)
  by_cases e:i=n
  ·rw[if_pos e,if_pos (by omega)]
  ·rw[if_neg e]
   by_cases e2:i<n
   ·rw[if_pos e2,if_pos (by omega)]
   ·rw[if_neg e2,if_neg (by omega)]
 ·intro h1 hs
  apply hJ
  rw[AD,if_neg (by simp)]
  replace hs:=Sat.tab_to (g:=fun _=>255) hs fun i hi=>if_pos hi
  refine⟨ffs,rfl,hs.row0 .z,?_⟩
  have hll:ffs.length=32:=rfl
  (refine⟨Sat.can hs (by repeat constructor) (by simp),?_⟩;intro _ e;replace hs:=Sat.wra hs (by repeat constructor) e (by simp[*]);clear e;simp only[put]at hs)
  refine⟨_,hll,hs.row0 (by repeat constructor),?_⟩
  exact k _ hs.drop.drop
def M5(C:Cm)(page:Int)(l:Nat):Prop:=∃n,n<l/\(CI C page n).2=0/\(CI C page n).1≠ffs
instance (C:Cm) (page:Int) (l:Nat):Decidable (M5 C page l):=by unfold M5;infer_instance
def DW(C:Cm)(page:Int):Bool:=decide (M5 C page C.cfg.cells.toNat)
theorem YD(ok:C.ok)(page cell:Int):(CI C page cell).1.length=32:=by
 unfold CI
 split
 ·rfl
 ·rename_i e
  obtain⟨_,_,_,_,_,hj,_,hk⟩:=iB ok (by simpa using e)
  have:C.s.pages.getD page.toNat []=C.s.pages[page.toNat]:=by simp[List.getD,List.getElem?_eq_getElem hj]
  rw[this]
  exact FT hk
theorem wD{Q:Bool->HP}(hs:Sat h0 A h)(ci:At A i (AF p C))(page:Int)(k:∀h',Sat h0 A h'->Q (DW C page) h'):I7 ⟨p,0,none⟩ page Q h:=by
 unfold I7 Z4
 try simp only[AI,Nat.zero_add,List.append_nil]
 refine CO hs ci ?_
 intro h1 hs
 have ok:=CW hs ci
 have hc:=ok.may.cells
 have hsl:=ok.may.slots
 intro J hJ
 refine BS C.cfg.cells.toNat (fun n h=>Sat h0 A h/\¬M5 C page n) ?_ ?_ 0 _ (by omega) ⟨hs,fun⟨n,hn,_⟩=>by omega⟩
 ·rintro n h2 hn ⟨hs,hu⟩ hk
  apply hJ
  rw[AD,if_pos (by simp;omega)]
  have hl:=YD ok page n
  refine gW hs ci page n ?_
  intro h3 hs
  intro n2 _ hn2;replace hs:=Sat.new hs hn2;clear hn2
  refine⟨Sat.can hs (by repeat constructor) (by simp[hl]),?_⟩
  intro _ e;replace hs:=Sat.wra hs (by repeat constructor) e (by rw[BV,BV,hl];rfl);clear e;simp only[put]at hs
  have next:¬((CI C page n).2=0/\(CI C page n).1≠ffs)->¬M5 C page (n+1):=by
   rintro hnn ⟨m,hm,e1,e2⟩
   by_cases e:m=n
   ·subst e;exact hnn ⟨e1,e2⟩
   ·exact hu ⟨m,by omega,e1,e2⟩
  by_cases c1:(CI C page n).2=0
  case neg=>
   rw[if_neg (by rw[beq_iff_eq];exact c1),A0 (by omega)]
   exact hk _ ⟨hs.drop,next fun y=>c1 y.1⟩
  rw[if_pos (by rw[beq_iff_eq];exact c1)]
  refine⟨_,hl,hs.row0 .z,?_⟩
  refine oK hs ?_
  intro h4 hs
  refine⟨Sat.whole hs .z,?_⟩
  by_cases c2:(CI C page n).1=ffs
  ·rw[if_neg (by rw[c2];simp),A0 (by omega)]
   exact hk _ ⟨hs.drop,next fun y=>y.2 c2⟩
  ·rw[if_pos (by simpa using c2)]
   have:=k _ hs.drop
   unfold DW at this
   rw[decide_eq_true ⟨n,hn,c1,c2⟩]at this
   exact this
 ·rintro h2 ⟨hs,hu⟩
  apply hJ
  rw[AD,if_neg (by simp;omega)]
  have:=k _ hs
  unfold DW at this
  rw[decide_eq_false hu]at this
  exact this
def TE(C:Cm)(ar:Int)(l:Nat):Prop:=∃n:Nat,n<l/\(EO C (2+ar*C.cfg.area+n)).2=0/\C.cfg.erases≤(EO C (2+ar*C.cfg.area+n)).1/\DW C (2+ar*C.cfg.area+n)=true
instance (C:Cm) (ar:Int) (l:Nat):Decidable (TE C ar l):=by unfold TE;infer_instance
def DX(C:Cm)(ar:Int):Bool×Int:=if AT C ar 2≠0 then (false,AT C ar 2) else (decide (TE C ar C.cfg.area.toNat),0)
theorem oI{Q:Bool->Int->HP}(hs:Sat h0 A h)(ci:At A i (AF p C))(ar:Int)(k:∀h',Sat h0 A h'->Q (DX C ar).1 (DX C ar).2 h'):LT ⟨p,0,none⟩ ar Q h:=by
 unfold LT ZW
 refine oJ hs ci ar ?_
 unfold DX at k
 by_cases e:AT C ar 2=0
 case neg=>
  rw[if_pos (by simpa using e)]at k ⊢
  exact k _ hs
 rw[if_neg (by simpa using e)]at k ⊢
 obtain⟨ho,a1,a2⟩:=EA e
 refine hH hs ci ar a1 a2 ?_
 intro h1 hs
 have ok:=CW hs ci
 have hm:=ok.may.area
 have z:0≤ar*C.cfg.area/\ar*C.cfg.area≤64:=by
  have:ar=0∨ar=1:=by omega
  rcases this with rfl | rfl <;> omega
 intro J hJ
 have key:=MP (J:=J) C.cfg.area.toNat (fun n (_:Unit)=>[.dv (.one (.int .i64 (2+ar*C.cfg.area+(n:Int))))]) (fun n _ h=>Sat h0 A h/\¬TE C ar n) ?_ ?_ 0 () _ (by omega) ⟨hs,fun⟨n,hn,_⟩=>by omega⟩
 ·simpa using key
 ·rintro n _ h2 hn ⟨hs,hu⟩ hk
  apply hJ
  rw[AD,if_pos (by simp;omega)]
  have ew:IntKind.i64.wrap (2+ar*C.cfg.area+(n:Int)+1)=2+ar*C.cfg.area+((n+1:Nat):Int):=by rw[AQ (by omega)];omega
  rw[ew]
  have next:¬((EO C (2+ar*C.cfg.area+n)).2=0/\C.cfg.erases≤(EO C (2+ar*C.cfg.area+n)).1/\DW C (2+ar*C.cfg.area+n)=true)->¬TE C ar (n+1):=by
   rintro hnn ⟨m,hm,e1,e2⟩
   by_cases e:m=n
   ·subst e;exact hnn ⟨e1,e2⟩
   ·exact hu ⟨m,by omega,e1,e2⟩
  refine ZR hs ci _ ?_
  by_cases c1:(EO C (2+ar*C.cfg.area+n)).2=0
  case neg=>
   rw[if_neg (by rw[beq_iff_eq];exact c1)]
   exact hk () _ ⟨hs,next fun y=>c1 y.1⟩
  rw[if_pos (by rw[beq_iff_eq];exact c1)]
  refine CO hs ci ?_
  intro h3 hs
  by_cases c2:C.cfg.erases≤(EO C (2+ar*C.cfg.area+n)).1
  case neg=>
   rw[BQ,if_neg (by rw[decide_eq_true_eq];exact c2)]
   exact hk () _ ⟨hs,next fun y=>c2 y.2.1⟩
  rw[BQ,if_pos (by rw[decide_eq_true_eq];exact c2)]
  refine wD hs ci _ ?_
  intro h4 hs
  by_cases c3:DW C (2+ar*C.cfg.area+n)=true
  ·rw[if_pos c3]
   have:=k _ hs
   rw[decide_eq_true ⟨n,hn,c1,c2,c3⟩]at this
   exact this
  ·rw[if_neg c3]
   exact hk () _ ⟨hs,next fun y=>c3 y.2.2⟩
 ·rintro _ h2 ⟨hs,hu⟩
  apply hJ
  rw[AD,if_neg (by simp;omega)]
  have:=k _ hs
  rw[decide_eq_false hu]at this
  exact this
end
def GU(row:List Int)(l:Nat):Prop:=∀n,n<l->AY row n=ffs
instance (row:List Int) (l:Nat):Decidable (GU row l):=by unfold GU;infer_instance
theorem AdQ:blankCell=ffs:=by decide
section
variable {h0 h:H} {A:List Ent} {i j p r b:Nat} {C:Cm}
theorem AmF(ok:C.ok)(ho:C.out=false){page:Int}(p1:0≤page)(p2:page<C.s.pages.length):DW C page=!decide (GU (C.s.pages.getD page.toNat []) C.cfg.cells.toNat):=by
 have hc:=ok.may.cells
 have hsl:=ok.may.slots
 have er:∀n:Nat,n<C.cfg.cells.toNat->CI C page n=(AY (C.s.pages.getD page.toNat []) n,0):=by
  intro n hn
  have ec:DP C page n=0:=by
   unfold DP
   rw[DB ho p1 p2,if_neg (by simp),DB ho (by omega) (by omega)]
  unfold CI
  rw[ec,if_neg (by simp),Int.toNat_natCast]
 unfold DW
 by_cases e:GU (C.s.pages.getD page.toNat []) C.cfg.cells.toNat
 ·rw[decide_eq_true e,decide_eq_false]
  ·rfl
  ·rintro⟨n,hn,_,e2⟩
   rw[er n hn]at e2
   exact e2 (e n hn)
 ·rw[decide_eq_false e]
  have:M5 C page C.cfg.cells.toNat:=by
   apply Classical.byContradiction
   intro hn
   refine e fun n hn2=>?_
   apply Classical.byContradiction
   intro hn3
   exact hn ⟨n,hn2,by rw[er n hn2],by rw[er n hn2];exact hn3⟩
  rw[decide_eq_true this];rfl
end
def DC(bs:List Int)(n:Nat):List Int:=tab 32 fun k=>if n*32+k<bs.length then bs.getD (n*32+k) 0 else 255
theorem iM(bs:List Int)(n:Nat):(DC bs n).length=32:=rfl
section
variable {h0 h:H} {A:List Ent} {i j p r b:Nat} {C:Cm}
theorem gZ(q:Addr)(a b:Nat):(q.add a).add b=q.add (a+b):=by
 cases q with | mk b' o s=>unfold Addr.add;by_cases h1:a=0 <;> by_cases h2:b=0 <;> simp[h1,h2,Nat.add_assoc]
theorem AfU{Q:List Int->HP}{q:Option Addr}{l c:Nat}{bs:List Int}(n:Nat)(hs:Sat h0 A h)(rd:∀h',Sat h0 A h'->hsv h' q 1 l (AA .u8 bs))(hl:l<2^60)(hlc:l≤c)(hn:n*32<l)
  (k:∀h',Sat h0 A h'->Q (DC bs n) h'):NA q l c n Q h:=by
 unfold NA Z1
 simp only[List.append_nil]
 intro n1 _ hn1;replace hs:=Sat.new hs hn1;clear hn1
 have ew:IntKind.i64.wrap ((n:Int)*32)=((n*32:Nat):Int):=by rw[AQ (by omega)];omega
 rw[ew]
 simp only[Int.toNat_natCast]
 have hbl:bs.length=l:=by have:=(rd _ hs.drop).1;simpa using this
 obtain⟨q',hq,_⟩:=E7 (rd _ hs.drop) (x:=0) (by omega)
 subst hq
 have e1:AK (some q') (n*32) c 1=some (q'.add (n*32)):=by
  unfold AK
  rw[if_neg (by omega),Nat.mul_one];rfl
 have hcs:∀h',Sat h0 A h'->∀x,x<l->hc h' (q'.add x)=some (.int .u8 (bs.getD x 0)):=by
  intro h' hs' x hx
  obtain⟨q2,hq2,g⟩:=E7 (rd _ hs') hx
  injection hq2 with hq2
  subst hq2
  exact g
 refine⟨by omega,by omega,?_⟩
 rw[e1]
 have hll:=iM bs n
 by_cases c1:32≤l-n*32
 ·rw[BQ,if_pos (by simp;omega)]
  have e2:AK (some (q'.add (n*32))) 0 (c-n*32) 1=some (q'.add (n*32)):=by
   unfold AK
   rw[if_neg (by omega)]
   simp only[Option.map_some,gZ,Nat.zero_mul,Nat.add_zero]
  rw[e2]
  refine⟨by decide,by omega,_,rfl,Nat.le_refl _,DC bs n,hll,?_,?_⟩
  ·intro x v hv
   have hx:x<32:=by
    have:=(List.getElem?_eq_some_iff.1 hv).1
    rw[BV,hll]at this;exact this
   rw[BR]at hv
   unfold DC at hv
   rw[ID,if_pos hx]at hv
   rw[if_pos (by omega)]at hv
   simp only[Option.map_some,Option.some.injEq]at hv
   rw[←hv,gZ]
   exact hcs _ hs.drop _ (by omega)
  ·(refine⟨Sat.can hs (by repeat constructor) (by simp),?_⟩;intro _ e;replace hs:=Sat.wra hs (by repeat constructor) e (by simp[*]);clear e;simp only[put]at hs)
   refine⟨_,hll,hs.row0 (by repeat constructor),?_⟩
   exact k _ hs.drop
 ·rw[BQ,if_neg (by simp;omega)]
  refine oK hs ?_
  intro h2 hs
  intro n2 _ hn2;replace hs:=Sat.new hs hn2;clear hn2
  have hf:ffs.length=32:=rfl
  (refine⟨Sat.can hs (by repeat constructor) (by simp),?_⟩;intro _ e;replace hs:=Sat.wra hs (by repeat constructor) e (by simp[*]);clear e;simp only[put]at hs)
  have em:(l-n*32).min 32=l-n*32:=Nat.min_eq_left (by omega)
  rw[em]
  have e3:AK (some ⟨n2,0,none⟩) 0 32 1=some ⟨n2,0,none⟩:=rfl
  rw[e3]
  refine⟨AA .u8 ((bs.drop (n*32)).take (l-n*32)),⟨by simp;omega,A9 _ _,Or.inr ⟨_,rfl,?_⟩⟩,Or.inr ⟨_,rfl,hs.can .z (by simp[hf];omega)⟩,?_⟩
  ·intro x v hv
   have hx:x<l-n*32:=by
    have:=(List.getElem?_eq_some_iff.1 hv).1
    simp at this;omega
   rw[BR,List.getElem?_take,if_pos hx,List.getElem?_drop,List.getElem?_eq_getElem (by omega)]at hv
   simp only[Option.map_some,Option.some.injEq]at hv
   rw[←hv,gZ,hcs _ hs.drop.drop _ (by omega)]
   simp[List.getD,List.getElem?_eq_getElem (show n*32+x<bs.length by omega)]
  ·intro h3 e
   replace hs:=hs.wr .z e
   have es:AO (AA .u8 ffs) 0 (AA .u8 ((bs.drop (n*32)).take (l-n*32)))=AA .u8 (DC bs n):=by
    apply List.ext_getElem?
    intro x
    rw[VN,BR,BR,BR]
    unfold DC ffs
    rw[ID,ID]
    simp only[BV,Am2,Nat.zero_add,Nat.zero_le,true_and,Nat.sub_zero]
    have el:((bs.drop (n*32)).take (l-n*32)).length=l-n*32:=by simp;omega
    rw[el]
    by_cases c2:x<l-n*32
    ·rw[if_pos ⟨c2,by omega⟩,if_pos (show x<32 by omega),if_pos (show n*32+x<bs.length by omega),List.getElem?_take,if_pos c2,List.getElem?_drop,List.getElem?_eq_getElem (by omega)]
     simp[List.getD,List.getElem?_eq_getElem (show n*32+x<bs.length by omega)]
    ·rw[if_neg (fun y=>c2 y.1)]
     by_cases c3:x<32
     ·rw[if_pos c3,if_pos c3,if_neg (by omega)]
     ·rw[if_neg c3,if_neg c3]
   rw[es,AG]at hs
   refine⟨_,hll,hs.row0 .z,?_⟩
   (refine⟨Sat.can hs (by repeat constructor) (by simp),?_⟩;intro _ e;replace hs:=Sat.wra hs (by repeat constructor) e (by simp[*]);clear e;simp only[put]at hs)
   refine⟨_,hll,hs.row0 (by repeat constructor),?_⟩
   exact k _ hs.drop.drop
def DK(base:Int):Nat->Nat->Cm->Cm×Int
 | 0,_,C=>(C,0)
 | m+1,j,C=>if DW C (base+j)=true then (if (CP C (base+j)).2≠0 then CP C (base+j) else DK base m (j+1) (CP C (base+j)).1) else DK base m (j+1) C
def FY(base:Int)(cells:Nat)(bs:List Int)(n:Nat):Nat->Nat->Cm->Cm×Int
 | 0,_,C=>(C,0)
 | m+1,k,C=>
  if (CH C (base+(((k+1) % n / cells:Nat):Int)) (((k+1) % n % cells:Nat):Int) (DC bs ((k+1) % n))).2≠0 then CH C (base+(((k+1) % n / cells:Nat):Int)) (((k+1) % n % cells:Nat):Int) (DC bs ((k+1) % n))
  else FY base cells bs n m (k+1) (CH C (base+(((k+1) % n / cells:Nat):Int)) (((k+1) % n % cells:Nat):Int) (DC bs ((k+1) % n))).1
def FD(C:Cm)(ar:Int)(bs:List Int):Cm×Int:=
 if (DX C ar).2≠0 then (C,(DX C ar).2) else if bs.length=0 then (C,1) else if CN C.cfg<bs.length then (C,4) else if (DX C ar).1=true then (C,9)
 else if (DK (2+ar*C.cfg.area) C.cfg.area.toNat 0 C).2≠0 then DK (2+ar*C.cfg.area) C.cfg.area.toNat 0 C
 else FY (2+ar*C.cfg.area) C.cfg.cells.toNat bs ((bs.length+31) / 32) ((bs.length+31) / 32) 0 (DK (2+ar*C.cfg.area) C.cfg.area.toNat 0 C).1
theorem W0(C:Cm)(page:Int):(CP C page).1.cfg=C.cfg:=by
 unfold CP
 split
 ·rfl
 ·split
  ·rfl
  ·exact DA C
theorem VE(C:Cm)(page cell:Int)(x:List Int):(CH C page cell x).1.cfg=C.cfg:=by
 unfold CH
 split
 ·rfl
 ·exact DA C
theorem vG(c:Cfg):CN c≤524288:=by
 unfold CN
 split
 ·rename_i m
  have h1:=m.area
  have h2:=m.cells
  have h3:=m.slots
  have h4:c.area*c.cells≤64*c.cells:=Int.mul_le_mul_of_nonneg_right h1.2 (by omega)
  omega
 ·decide
theorem Ad4{Q:Int->HP}{q:Option Addr}{l c:Nat}{bs:List Int}(hs:Sat h0 A h)(ci:At A i (AF p C))(ar:Int)(rd:∀D h',Sat h0 (put A i (AF p D)) h'->hsv h' q 1 l (AA .u8 bs))(hl:l<2^50)(hlc:l≤c)
  (k:∀h',Sat h0 (put A i (AF p (FD C ar bs).1)) h'->Q (FD C ar bs).2 h'):TJ ⟨p,0,none⟩ ar q l c Q h:=by
 unfold TJ ZX
 have hbl:bs.length=l:=by have:=(rd C h (by rw[ci.put_self];exact hs)).1;simpa using this
 refine oI hs ci ar ?_
 intro h1 hs
 unfold FD at k
 by_cases c1:(DX C ar).2=0
 case neg=>
  rw[if_pos (by simpa using c1)]at k ⊢
  exact k _ (by rw[ci.put_self];exact hs)
 rw[if_neg (by simpa using c1)]at k ⊢
 by_cases c2:bs.length=0
 ·rw[if_pos c2]at k
  rw[if_pos (by rw[beq_iff_eq];omega)]
  exact k _ (by rw[ci.put_self];exact hs)
 rw[if_neg c2]at k
 rw[if_neg (by rw[beq_iff_eq];omega)]
 refine CO hs ci ?_
 intro h2 hs
 refine gY C.cfg hs ?_
 intro h3 hs
 by_cases c3:CN C.cfg<bs.length
 ·rw[if_pos c3]at k
  rw[AD,if_pos (by simp;omega)]
  exact k _ (by rw[ci.put_self];exact hs)
 rw[if_neg c3]at k
 rw[AD,if_neg (by simp;omega)]
 have hsle:=vG C.cfg
 by_cases c4:(DX C ar).1=true
 ·rw[if_pos c4]at k ⊢
  exact k _ (by rw[ci.put_self];exact hs)
 rw[if_neg c4]at k ⊢
 have hask:AT C ar 2=0:=by
  unfold DX at c1
  by_cases y:AT C ar 2=0
  ·exact y
  ·rw[if_pos (by simpa using y)]at c1;exact absurd c1 y
 obtain⟨ho,a1,a2⟩:=EA hask
 have ok:=CW hs ci
 have hm:=ok.may.area
 have hcl:=ok.may.cells
 have hsl:=ok.may.slots
 have z:0≤ar*C.cfg.area/\ar*C.cfg.area≤64:=by
  have:ar=0∨ar=1:=by omega
  rcases this with rfl | rfl <;> omega
 refine hH hs ci ar a1 a2 ?_
 intro h4 hs
 intro J hJ
 generalize hE:DK (2+ar*C.cfg.area) C.cfg.area.toNat 0 C=E at k
 have hs0:∃D:Cm,Sat h0 (put A i (AF p D)) h4/\D.cfg=C.cfg/\DK (2+ar*C.cfg.area) (C.cfg.area.toNat-0) 0 D=E:=⟨C,by rw[ci.put_self];exact hs,rfl,hE⟩
 have key:=MP (J:=J) C.cfg.area.toNat (fun n (_:Unit)=>[.dv (.one (.int .i64 (2+ar*C.cfg.area+(n:Int))))]) (fun n _ h=>∃D:Cm,Sat h0 (put A i (AF p D)) h/\D.cfg=C.cfg/\DK (2+ar*C.cfg.area) (C.cfg.area.toNat-n) n D=E) ?_ ?_ 0 () _ (by omega) hs0
 ·simpa using key
 ·rintro n _ h5 hn ⟨D,hs,hcf,hL⟩ hk
  apply hJ
  rw[AD,if_pos (by simp;omega)]
  have ew:IntKind.i64.wrap (2+ar*C.cfg.area+(n:Int)+1)=2+ar*C.cfg.area+((n+1:Nat):Int):=by rw[AQ (by omega)];omega
  rw[ew]
  obtain⟨m,hm2⟩:∃m,C.cfg.area.toNat-n=m+1:=⟨C.cfg.area.toNat-n-1,by omega⟩
  rw[hm2]at hL
  unfold DK at hL
  refine wD hs (ci.put _) _ ?_
  intro h6 hs
  by_cases u:DW D (2+ar*C.cfg.area+(n:Int))=true
  case neg=>
   rw[if_neg u]at hL
   rw[if_pos (by simpa using u)]
   exact hk () _ ⟨D,hs,hcf,by rw[show C.cfg.area.toNat-(n+1)=m by omega];exact hL⟩
  rw[if_pos u]at hL
  rw[if_neg (by rw[u];simp)]
  refine lV hs (ci.put _) _ ?_
  intro h7 hs
  rw[DU]at hs
  by_cases e:(CP D (2+ar*C.cfg.area+(n:Int))).2=0
  ·rw[if_neg (by simpa using e)]at hL ⊢
   exact hk () _ ⟨_,hs,(W0 D _).trans hcf,by rw[show C.cfg.area.toNat-(n+1)=m by omega];exact hL⟩
  ·rw[if_pos (by simpa using e)]at hL ⊢
   rw[←hL,if_pos (by simpa using e)]at k
   exact k _ hs
 ·rintro _ h5 ⟨D,hs,hcf,hL⟩
  apply hJ
  rw[AD,if_neg (by simp;omega)]
  refine⟨by decide,?_⟩
  clear hJ J
  intro J hJ
  rw[Nat.sub_self]at hL
  unfold DK at hL
  rw[←hL,if_neg (by simp)]at k
  dsimp only at k
  obtain⟨n,hn⟩:∃n,n=(bs.length+31) / 32:=⟨_,rfl⟩
  rw[←hn]at k
  have en:IntKind.i64.wrap ((IntKind.i64.wrap (IntKind.i64.wrap ((l:Int)+32)-1)).tdiv 32)=(n:Int):=by
   rw[AQ (n:=(l:Int)+32) (by omega),AQ (n:=(l:Int)+32-1) (by omega),Int.tdiv_eq_ediv_of_nonneg (by omega),AQ (by omega)];omega
  generalize hP:FY (2+ar*C.cfg.area) C.cfg.cells.toNat bs n n 0 D=P at k
  have hs1:∃D:Cm,Sat h0 (put A i (AF p D)) h5/\D.cfg=C.cfg/\FY (2+ar*C.cfg.area) C.cfg.cells.toNat bs n (n-0) 0 D=P:=⟨D,hs,hcf,hP⟩
  refine BS n (fun t h=>∃D:Cm,Sat h0 (put A i (AF p D)) h/\D.cfg=C.cfg/\FY (2+ar*C.cfg.area) C.cfg.cells.toNat bs n (n-t) t D=P) ?_ ?_ 0 _ (by omega) hs1
  ·rintro t h6 ht ⟨D,hs,hcf,hL⟩ hk
   apply hJ
   rw[en,AD,if_pos (by simp;omega)]
   have ei:(IntKind.i64.wrap ((t:Int)+1)).tmod (n:Int)=(((t+1) % n:Nat):Int):=by
    rw[A0 (by omega),Int.tmod_eq_emod_of_nonneg (by omega)];rfl
   rw[ei]
   have hin:(t+1) % n<n:=Nat.mod_lt _ (by omega)
   obtain⟨m,hm2⟩:∃m,n-t=m+1:=⟨n-t-1,by omega⟩
   rw[hm2]at hL
   unfold FY at hL
   refine⟨by omega,?_⟩
   refine oY hs (ci.put _) ar a1 a2 ((t+1) % n) (by omega) ?_
   intro h7 hs
   rw[hcf]
   refine AfU (bs:=bs) ((t+1) % n) hs (fun h' hs'=>rd _ h' hs') (by omega) hlc (by omega) ?_
   intro h8 hs
   refine V8 hs (ci.put _) _ _ _ (iM _ _) ?_
   intro h9 hs
   rw[DU]at hs
   generalize hX:CH D (2+ar*C.cfg.area+(((t+1) % n / C.cfg.cells.toNat:Nat):Int)) (((t+1) % n % C.cfg.cells.toNat:Nat):Int) (DC bs ((t+1) % n))=X at *
   have hXc:X.1.cfg=D.cfg:=by rw[←hX];exact VE _ _ _ _
   by_cases e:X.2=0
   ·rw[if_neg (by simpa using e)]at hL ⊢
    rw[A0 (by omega)]
    exact hk _ ⟨_,hs,hXc.trans hcf,by rw[show n-(t+1)=m by omega];exact hL⟩
   ·rw[if_pos (by simpa using e)]at hL ⊢
    rw[←hL]at k
    exact k _ hs
  ·rintro h6 ⟨D,hs,hcf,hL⟩
   apply hJ
   rw[en,AD,if_neg (by simp)]
   rw[Nat.sub_self]at hL
   unfold FY at hL
   rw[←hL]at k
   exact k _ hs
end
def CZ(C:Cm)(ar:Int):Nat->List Int
 | 0=>[]
 | n+1=>CZ C ar n++(CI C (2+ar*C.cfg.area+((n / C.cfg.cells.toNat:Nat):Int)) ((n % C.cfg.cells.toNat:Nat):Int)).1
section
variable {h0 h:H} {A:List Ent} {i j p r b:Nat} {C:Cm}
theorem uL(ok:C.ok)(ho:C.out=false){ar:Int}(a1:0≤ar)(a2:ar<2){n:Nat}(hn:n<C.cfg.area.toNat*C.cfg.cells.toNat):(CI C (2+ar*C.cfg.area+((n / C.cfg.cells.toNat:Nat):Int)) ((n % C.cfg.cells.toNat:Nat):Int)).2=0:=by
 have hm:=ok.may.area
 have hcl:=ok.may.cells
 have hsl:=ok.may.slots
 have hpg:=ok.fits.pages
 have hnp:C.cfg.np=2+2*C.cfg.area:=rfl
 have z:0≤ar*C.cfg.area/\ar*C.cfg.area≤C.cfg.area/\C.cfg.area≤64:=by
  have:ar=0∨ar=1:=by omega
  rcases this with rfl | rfl <;> omega
 have h1:n / C.cfg.cells.toNat<C.cfg.area.toNat:=(Nat.div_lt_iff_lt_mul (by omega)).2 hn
 have h2:n % C.cfg.cells.toNat<C.cfg.cells.toNat:=Nat.mod_lt _ (by omega)
 generalize n / C.cfg.cells.toNat=dd at *
 generalize n % C.cfg.cells.toNat=mm at *
 have ec:DP C (2+ar*C.cfg.area+(dd:Int)) (mm:Int)=0:=by
  unfold DP
  rw[DB ho (by omega) (by omega),if_neg (by simp),DB ho (by omega) (by omega)]
 unfold CI
 rw[ec,if_neg (by simp)]
theorem kL(hs:Sat h0 A h){q:Option Addr}{l c sz:Nat}{vs:List Value}(m:At A i (slE q l c sz vs)):l≤c:=by
 obtain⟨f,hp,_⟩:=hs.take m
 obtain⟨bs,⟨_,h2,_⟩,_⟩:=slE_P.1 hp
 exact h2
theorem oL{Q:Option Addr->Nat->Nat->Int->HP}(hs:Sat h0 A h)(ci:At A i (AF p C))(ho:C.out=false)(ar:Int)(a1:0≤ar)(a2:ar<2)(n:Nat)(hn:n≤32*(C.cfg.area.toNat*C.cfg.cells.toNat))(hn0:0<n)
  (k:∀(o:Option Addr) (c m:Nat) (h':H),m=(n+31) / 32->Sat h0 (slE o (32*m) c 1 (AA .u8 (CZ C ar m))::A) h'->n≤32*m->Q (AK o 0 n 1) n n 0 h'):M9 ⟨p,0,none⟩ ar n Q h:=by
 unfold M9 Z0
 try simp only[AI,Nat.zero_add,List.append_nil]
 have ok:=CW hs ci
 have hm:=ok.may.area
 have hcl:=ok.may.cells
 have hsl:=ok.may.slots
 have hsz:C.cfg.area.toNat*C.cfg.cells.toNat≤16384:=by
  calc C.cfg.area.toNat*C.cfg.cells.toNat≤64*C.cfg.cells.toNat:=Nat.mul_le_mul_right _ (by omega)
   _≤16384:=by omega
 intro J hJ
 obtain⟨M,hM⟩:∃M,M=(n+31) / 32:=⟨_,rfl⟩
 replace hs:=hs.sl_nil 1 none
 refine MP M (fun m (s:Option Addr×Nat)=>[.dv (.one (.slice s.1 (32*m) s.2)),.dv (.one (.int .i64 (m:Int)))]) (fun m s h=>Sat h0 (slE s.1 (32*m) s.2 1 (AA .u8 (CZ C ar m))::A) h) ?_ ?_ 0 (none,0) _ (by omega) hs
 ·rintro m ⟨o,c⟩ h1 hm2 hs hk
  apply hJ
  rw[AD,if_pos (by simp;omega)]
  refine oY hs ci.s ar a1 a2 m (by omega) ?_
  intro h2 hs
  have hri:=uL ok ho a1 a2 (n:=m) (by omega)
  have hrl:=YD ok (2+ar*C.cfg.area+((m / C.cfg.cells.toNat:Nat):Int)) ((m % C.cfg.cells.toNat:Nat):Int)
  refine gW hs ci.s _ _ ?_
  intro h3 hs
  have hB:CZ C ar (m+1)=CZ C ar m++(CI C (2+ar*C.cfg.area+((m / C.cfg.cells.toNat:Nat):Int)) ((m % C.cfg.cells.toNat:Nat):Int)).1:=rfl
  generalize CI C (2+ar*C.cfg.area+((m / C.cfg.cells.toNat:Nat):Int)) ((m % C.cfg.cells.toNat:Nat):Int)=X at *
  intro n2 _ hn2;replace hs:=Sat.new hs hn2;clear hn2
  refine⟨Sat.can hs (by repeat constructor) (by simp[hrl]),?_⟩
  intro _ e;replace hs:=Sat.wra hs (by repeat constructor) e (by rw[BV,BV,hrl];rfl);clear e;simp only[put]at hs
  rw[if_neg (by rw[hri];simp)]
  rw[show AK (some ⟨n2,0,none⟩) 0 32 1=some ⟨n2,0,none⟩ from rfl]
  refine⟨_,hs.bv .z (by rw[BV,hrl]) (A9 _ _),?_⟩
  refine Sat.app hs zs1 (by rw[BV,hrl]) rfl (A9 _ _) (by omega) ?_
  intro p' c' h4 hs
  rw[AV,AG]at hs
  rw[A0 (by omega)]
  have hs':=hs.drop
  have el:32*m+32=32*(m+1):=by omega
  rw[el]at hs' ⊢
  have ea:AA .u8 (CZ C ar m)++AA .u8 X.1=AA .u8 (CZ C ar (m+1)):=by rw[hB];simp[AA]
  rw[ea]at hs'
  exact hk (p',c') _ hs'
 ·rintro⟨o,c⟩ h1 hs
  have hc0:=kL hs .z
  apply hJ
  rw[AD,if_neg (by simp;omega)]
  dsimp only at hs hc0 ⊢
  refine⟨by omega,by omega,by omega,?_⟩
  have:=k o c M h1 (by omega) hs (by omega)
  simpa using this
end
section
variable {h0 h:H} {A:List Ent} {i j p r b:Nat} {C:Cm}
theorem Am0(hs:Sat h0 A h){q:Option Addr}{l c n:Nat}{bs:List Int}(m:At A i (slE q l c 1 (AA .u8 bs)))(hn:n≤l)(hn0:0<n):∃q',AK q 0 n 1=some q'/\hsv h (some q') 1 n (AA .u8 (bs.take n)):=by
 have sv:=hs.sv m
 have hbl:bs.length=l:=by have:=sv.1;simpa using this
 obtain⟨q',hq⟩:=hs.sl_some m (by omega)
 subst hq
 refine⟨⟨q',0,none⟩,?_,?_⟩
 ·unfold AK
  rw[if_neg (by omega)]
  simp
 ·obtain⟨_,_,e3⟩:=sv
  rcases e3 with e3 | ⟨q2,hq2,g⟩
  ·have e4:=congrArg List.length e3
   rw[BV,List.length_nil]at e4;omega
  ·injection hq2 with hq2
   subst hq2
   refine⟨by simp;omega,A9 _ _,Or.inr ⟨_,rfl,?_⟩⟩
   intro x v hv
   refine g x v ?_
   rw[BR]at hv ⊢
   rw[List.getElem?_take]at hv
   split at hv
   ·exact hv
   ·simp at hv
end
end Go.Proofs.YteedolonhdbieaaGreatDoor
end
