/- LoaderDoes and its parts, laid together by a program of ours: Ce4 Pg2 Pg3 Pg4 Pg5 Pg6 Ar1 -/
import Derived.Test.YteedolonhdbieaaGreatDoorK13
set_option autoImplicit false
set_option linter.all false
section
namespace Go.Proofs.YteedolonhdbieaaGreatDoor
open Go Go.Vc
set_option maxRecDepth 100000
def tab(n:Nat)(f:Nat->Int):List Int:=(List.range n).map f
@[simp] theorem Aq6(n:Nat)(f:Nat->Int):(tab n f).length=n:=by simp[tab]
theorem IL(n:Nat)(f:Nat->Int)(i:Nat):(tab n f)[i]?=if i<n then some (f i) else none:=by
 unfold tab
 rw[List.getElem?_map]
 by_cases h:i<n
 ·rw[List.getElem?_range h,if_pos h];rfl
 ·rw[if_neg h,List.getElem?_eq_none (by simpa using h)];rfl
theorem Aq7(n:Nat)(f:Nat->Int)(k:Nat)(v:Int):(tab n f).set k v=tab n (fun i=>if i=k then v else f i):=by
 apply List.ext_getElem?
 intro i
 rw[List.getElem?_set,IL,IL]
 by_cases h:k=i
 ·subst h;simp
 ·rw[if_neg h];simp only[show (i=k)=False by simp;omega,if_false]
theorem WF{n:Nat}{f g:Nat->Int}(h:∀i,i<n->f i=g i):tab n f=tab n g:=by
 apply List.ext_getElem?
 intro i
 rw[IL,IL]
 split
 ·rw[h i (by assumption)]
 ·rfl
theorem WL(n:Nat):AB n=tab n fun _=>0:=by
 apply List.ext_getElem?
 intro i
 rw[IL]
 unfold AB
 by_cases h:i<n
 ·rw[List.getElem?_replicate,if_pos h]
  try rw[if_pos h]
 ·rw[List.getElem?_replicate,if_neg h]
  try rw[if_neg h]
theorem I9(k:IntKind)(n:Nat)(f:Nat->Int)(j:Nat)(v:Int):AR (AA k (tab n f)) j [.int k v]=AA k (tab n (fun i=>if i=j then v else f i)):=by
 rw[FN,OR,E4,Aq7]
def I4(n:Int)(i:Nat):Int:=IntKind.u8.wrap (n.fdiv (2^(8*i)))
theorem Ac0(n:Int):CC (IntKind.u8.wrap n):=by unfold CC;rw[IntKind.wrap_u8];omega
def N0(x:Int):Int:=bits .xor .u8 255 x
/-! ### The sum -/
abbrev b32(x:Int):BitVec 32:=BitVec.ofInt 32 x
theorem AbQ(v:BitVec 32):IntKind.u32.wrap (v.toNat:Int)=(v.toNat:Int):=by
 have:=v.isLt
 rw[IntKind.wrap_u32];omega
theorem XG(v:BitVec 32):b32 (v.toNat:Int)=v:=by simp[b32]
theorem XH(x y:Int):bits .xor .u32 x y=((b32 x ^^^ b32 y).toNat:Int):=AbQ (b32 x ^^^ b32 y)
theorem Aj2(x y:Int):bits .and .u32 x y=((b32 x &&& b32 y).toNat:Int):=AbQ (b32 x &&& b32 y)
def LB(x:Int):Prop:=0≤x/\x<2^32
theorem yB(v:BitVec 32):LB (v.toNat:Int):=by have:=v.isLt;unfold LB;omega
theorem An4{x:Int}(h:LB x):((b32 x).toNat:Int)=x:=by
 unfold LB at h
 simp only[BitVec.toNat_ofInt]
 omega
def R8(x:Int):Int:=if bits .and .u32 x 1=1 then bits .xor .u32 (x.fdiv (2^1)) 3988292384 else x.fdiv (2^1)
def EZ:Nat->Int->Int
 | 0,x=>x
 | n+1,x=>EZ n (R8 x)
def JH(v:BitVec 32):BitVec 32:=if v.getLsbD 0=true then (v >>> 1) ^^^ 3988292384#32 else v >>> 1
def vIt:Nat->BitVec 32->BitVec 32
 | 0,v=>v
 | n+1,v=>vIt n (JH v)
theorem AaZ(v:BitVec 32)(k:Nat):((v.toNat:Int)).fdiv (2^k)=((v >>> k).toNat:Int):=by
 rw[BitVec.toNat_ushiftRight,Nat.shiftRight_eq_div_pow,Int.fdiv_eq_ediv_of_nonneg _ (Int.le_of_lt (Int.pow_pos (by decide)))]
 simp
theorem Ak7(v:BitVec 32):R8 (v.toNat:Int)=((JH v).toNat:Int):=by
 unfold R8 JH
 rw[Aj2,AaZ,XG]
 have:((((v &&& b32 1).toNat:Nat):Int)=1)↔v.getLsbD 0=true:=by
  have e1:b32 1=1#32:=by decide
  rw[e1]
  have:(v &&& 1#32).toNat=v.toNat % 2:=by
   rw[BitVec.toNat_and]
   exact Nat.and_one_is_mod _
  rw[this]
  have:v.getLsbD 0=decide (v.toNat % 2=1):=by
   rw[BitVec.getLsbD,Nat.testBit_zero]
  rw[this,decide_eq_true_eq];omega
 by_cases h:v.getLsbD 0=true
 ·rw[if_pos (this.2 h),if_pos h,XH,XG];rfl
 ·rw[if_neg (fun x=>h (this.1 x)),if_neg h]
theorem oZ(n:Nat):∀v:BitVec 32,EZ n (v.toNat:Int)=((vIt n v).toNat:Int):=by
 induction n with
 | zero=>intro v;rfl
 | succ n ih=>intro v;unfold EZ vIt;rw[Ak7,ih]
theorem AqM(v w:BitVec 32):JH (v ^^^ w)=JH v ^^^ JH w:=by
 unfold JH
 have e:(v ^^^ w) >>> 1=(v >>> 1) ^^^ (w >>> 1):=BitVec.ushiftRight_xor_distrib v w 1
 rw[BitVec.getLsbD_xor,e]
 generalize v >>> 1=a
 generalize w >>> 1=b
 generalize 3988292384#32=P
 cases v.getLsbD 0 <;> cases w.getLsbD 0 <;> simp only[Bool.xor_true,Bool.xor_false,Bool.not_true,Bool.not_false,Bool.false_eq_true,if_true,if_false]
 all_goals
  ext i hi
  simp only[BitVec.getElem_xor]
  cases a[i] <;> cases b[i] <;> cases P[i] <;> rfl
theorem AqL(n:Nat):∀v w:BitVec 32,vIt n (v ^^^ w)=vIt n v ^^^ vIt n w:=by
 induction n with
 | zero=>intro v w;rfl
 | succ n ih=>intro v w;unfold vIt;rw[AqM,ih]
theorem AqK(n:Nat):∀v:BitVec 32,(∀i,i<n->v.getLsbD i=false)->vIt n v=v >>> n:=by
 induction n with
 | zero=>intro v _;simp[vIt]
 | succ n ih=>
  intro v h
  unfold vIt
  have:JH v=v >>> 1:=by unfold JH;rw[h 0 (by omega)];simp
  rw[this,ih]
  ·rw[←BitVec.shiftRight_add,Nat.add_comm]
  ·intro i hi
   rw[BitVec.getLsbD_ushiftRight]
   have:=h (1+i) (by omega)
   exact this
theorem Ak9(v:BitVec 32)(c:Int)(hc:CC c):bits .xor .u32 (EZ 8 (IntKind.u32.wrap (bits .xor .u8 (IntKind.u8.wrap (v.toNat:Int)) c))) ((v.toNat:Int).fdiv (2^8))=EZ 8 (bits .xor .u32 (v.toNat:Int) (IntKind.u32.wrap c)):=by
 rw[AaZ,Aj3,XH,XH]
 obtain⟨c1,c2⟩:=hc
 have hw:IntKind.u32.wrap c=c:=by rw[IntKind.wrap_u32];omega
 rw[hw]
 have low:(IntKind.u32.wrap ((b8 (IntKind.u8.wrap (v.toNat:Int)) ^^^ b8 c).toNat:Int))=(((v &&& 255#32) ^^^ b32 c).toNat:Int):=by
  have h1:(b8 (IntKind.u8.wrap (v.toNat:Int)) ^^^ b8 c).toNat<256:=(b8 (IntKind.u8.wrap (v.toNat:Int)) ^^^ b8 c).isLt
  rw[IntKind.wrap_u32]
  have h2:(b8 (IntKind.u8.wrap (v.toNat:Int)) ^^^ b8 c).toNat=((v &&& 255#32) ^^^ b32 c).toNat:=by
   rw[BitVec.toNat_xor,BitVec.toNat_xor,BitVec.toNat_and]
   have e1:(b8 (IntKind.u8.wrap (v.toNat:Int))).toNat=v.toNat % 256:=by
    simp only[BitVec.toNat_ofInt];rw[IntKind.wrap_u8];omega
   have e2:(b8 c).toNat=c.toNat:=by simp only[BitVec.toNat_ofInt];omega
   have e3:(b32 c).toNat=c.toNat:=by simp only[BitVec.toNat_ofInt];omega
   have e4:v.toNat &&& (255#32).toNat=v.toNat % 256:=Nat.and_two_pow_sub_one_eq_mod v.toNat 8
   rw[e1,e2,e3,e4]
  omega
 rw[low,oZ,XG,XG,XG,oZ]
 congr 1
 have split:v ^^^ b32 c=((v &&& 255#32) ^^^ b32 c) ^^^ (v &&& ~~~ 255#32):=by
  ext i hi
  simp only[BitVec.getElem_xor,BitVec.getElem_and,BitVec.getElem_not]
  cases v[i] <;> cases (b32 c)[i] <;> cases (255#32)[i] <;> rfl
 rw[split,AqL 8 (v &&& 255#32 ^^^ b32 c) (v &&& ~~~ 255#32)]
 congr 1
 have hb:∀i,i<8->(v &&& ~~~ 255#32).getLsbD i=false:=by
  intro i hi
  have:(~~~ 255#32).getLsbD i=false:=by
   have:∀i,i<8->(~~~ 255#32).getLsbD i=false:=by decide
   exact this i hi
  rw[BitVec.getLsbD_and,this,Bool.and_false]
 rw[AqK 8 _ hb]
 congr 1
 ext i hi
 simp only[BitVec.getElem_ushiftRight,BitVec.getLsbD_and]
 have:∀j,j<32->(~~~ 255#32).getLsbD j=decide (8≤j):=by decide
 by_cases hj:8+i<32
 ·rw[this _ hj];simp
 ·rw[BitVec.getLsbD_of_ge _ _ (by omega)];simp
def ZS(x:Int)(c:Int):Int:=bits .xor .u32 (EZ 8 (IntKind.u32.wrap (bits .xor .u8 (IntKind.u8.wrap x) c))) (x.fdiv (2^8))
def R7(x:Int)(c:Int):Int:=EZ 8 (bits .xor .u32 x (IntKind.u32.wrap c))
theorem Ak4{x c:Int}(hx:LB x)(hc:CC c):ZS x c=R7 x c/\LB (R7 x c):=by
 have e:=An4 hx
 have:=Ak9 (b32 x) c hc
 rw[e]at this
 refine⟨this,?_⟩
 unfold R7
 rw[XH,oZ]
 exact yB _
def HN(bs:List Int):Int:=bits .xor .u32 4294967295 (bs.foldl R7 4294967295)
theorem Ak8(bs:List Int)(hb:A4 bs):∀x,LB x->bs.foldl ZS x=bs.foldl R7 x:=by
 induction bs with
 | nil=>intro x _;rfl
 | cons c r ih=>
  intro x hx
  obtain⟨e1,e2⟩:=Ak4 hx (hb c (by simp))
  rw[List.foldl_cons,List.foldl_cons,e1]
  exact ih (fun n hn=>hb n (by simp[hn])) _ e2
theorem Ak5(bs:List Int):LB (HN bs):=by unfold HN;rw[XH];exact yB _
/-! ### Numbers of eight bytes -/
abbrev b64(x:Int):BitVec 64:=BitVec.ofInt 64 x
theorem wrap_u64'(n:Int):IntKind.u64.wrap n=n % 18446744073709551616:=by simp[IntKind.wrap,IntKind.bits,IntKind.signed]
theorem vI(v:BitVec 64):b64 (v.toNat:Int)=v:=by simp[b64]
theorem AnE(x y:Int):b64 (bits .or .u64 x y)=b64 x ||| b64 y:=by
 have:bits .or .u64 x y=IntKind.u64.wrap ((b64 x ||| b64 y).toNat:Int):=rfl
 rw[this]
 have h:=(b64 x ||| b64 y).isLt
 have:IntKind.u64.wrap ((b64 x ||| b64 y).toNat:Int)=((b64 x ||| b64 y).toNat:Int):=by rw[wrap_u64'];omega
 rw[this,vI]
theorem AqX(x:Int):b64 (IntKind.u64.wrap x)=b64 x:=by
 apply BitVec.eq_of_toNat_eq
 simp only[BitVec.toNat_ofInt]
 rw[wrap_u64'];omega
theorem AbZ(x:Int):b64 (IntKind.i64.wrap x)=b64 x:=by
 apply BitVec.eq_of_toNat_eq
 simp only[BitVec.toNat_ofInt]
 rw[IntKind.wrap_i64];omega
theorem AnC(x y:Int):b64 (bits .or .i64 x y)=b64 x ||| b64 y:=by
 have:bits .or .i64 x y=IntKind.i64.wrap ((b64 x ||| b64 y).toNat:Int):=rfl
 rw[this,AbZ,vI]
theorem AqY{x y:Int}(h:b64 x=b64 y):IntKind.i64.wrap x=IntKind.i64.wrap y:=by
 have h2:=congrArg BitVec.toNat h
 simp only[BitVec.toNat_ofInt]at h2
 rw[IntKind.wrap_i64,IntKind.wrap_i64];omega
def SC(l:List Int):Nat->Int
 | 0=>0
 | n+1=>bits .or .u64 (SC l n) (IntKind.u64.wrap (IntKind.u64.wrap (l.getD n 0)*2^(8*n)))
def C8(l:List Int):Nat->Int
 | 0=>0
 | n+1=>bits .or .i64 (C8 l n) (IntKind.i64.wrap (IntKind.i64.wrap (l.getD n 0)*2^(8*n)))
theorem AlB(l:List Int)(hb:A4 l)(n:Nat):b64 (SC l n)=b64 (C8 l n):=by
 induction n with
 | zero=>rfl
 | succ n ih=>
  unfold SC C8
  rw[AnE,AnC,ih,AqX,AbZ]
  have:CC (l.getD n 0):=by
   rw[List.getD_eq_getElem?_getD]
   cases e:l[n]? with
   | none=>exact⟨by decide,by decide⟩
   | some v=>exact hb v (List.mem_iff_getElem?.2 ⟨n,e⟩)
  obtain⟨h1,h2⟩:=this
  have e1:IntKind.u64.wrap (l.getD n 0)=l.getD n 0:=by rw[wrap_u64'];omega
  have e2:IntKind.i64.wrap (l.getD n 0)=l.getD n 0:=by rw[IntKind.wrap_i64];omega
  rw[e1,e2]
theorem AlA(l:List Int)(n:Nat):IntKind.i64.wrap (C8 l n)=C8 l n:=by
 cases n with
 | zero=>exact (by decide:IntKind.i64.wrap 0=0)
 | succ n=>
  unfold C8
  have:∀x y,IntKind.i64.wrap (bits .or .i64 x y)=bits .or .i64 x y:=by
   intro x y
   have:bits .or .i64 x y=IntKind.i64.wrap ((b64 x ||| b64 y).toNat:Int):=rfl
   rw[this,IntKind.wrap_i64,IntKind.wrap_i64];omega
  exact this _ _
theorem AlC(l:List Int)(hb:A4 l)(n:Nat):IntKind.i64.wrap (SC l n)=C8 l n:=by
 rw[AqY (AlB l hb n),AlA]
end Go.Proofs.YteedolonhdbieaaGreatDoor
/- Contracts of sums,rails and cells. Own work. -/
set_option maxRecDepth 100000
namespace Go.Proofs.YteedolonhdbieaaGreatDoor
open Go Go.Vc
section
variable {h0 h:H} {A:List Ent} {i j p r b:Nat} {C:Cm}
theorem y8:(if IntKind.u32.signed=true then (-1:Int) else IntKind.u32.max)=4294967295:=by decide
theorem y9:(if IntKind.u8.signed=true then (-1:Int) else IntKind.u8.max)=255:=by decide
theorem Sat.tab_to{N:Nat}{f g:Nat->Int}{k:IntKind}(hs:Sat h0 (blk b (AA k (tab N f))::A) h)(e:∀i,i<N->f i=g i):Sat h0 (blk b (AA k (tab N g))::A) h:=by
 rw[←WF e];exact hs
theorem Sat.part(hs:Sat h0 A h){ms xs:List Int}{k:IntKind}(m:At A i (blk b (AA k ms)))(o:Nat)(e:(ms.drop o).take xs.length=xs):hsv h (some ⟨b,o,none⟩) 1 xs.length (AA k xs):=by
 refine⟨by simp,A5 _ _,Or.inr ⟨_,rfl,hs.cs m ?_⟩⟩
 rw[A6]
 unfold AA
 rw[←List.map_drop,←List.map_take,e]
theorem CI{p:Option Addr}{l:Nat}{k:IntKind}{ns:List Int}{x:Nat}(rd:hsv h p 1 l (AA k ns))(hx:x<l):∃q,p=some q/\hc h (q.add x)=some (.int k (ns.getD x 0)):=by
 have hl:ns.length=l:=by have:=rd.1;simpa using this
 obtain⟨q,hq,g⟩:=FP rd (i:=x) (v:=.int k (ns.getD x 0)) (by rw[BA,List.getElem?_eq_getElem (by omega)];simp[List.getD,List.getElem?_eq_getElem (show x<ns.length by omega)])
 exact⟨q,hq,g⟩
theorem AkJ{Q:Int->HP}{x:Int}(hs:Sat h0 A h)(k:∀h',Sat h0 A h'->Q (EZ 8 (IntKind.u32.wrap x)) h'):PC x Q h:=by
 unfold PC fR
 intro J hJ
 generalize hR:EZ 8 (IntKind.u32.wrap x)=R at k
 refine DE 8 (fun n (y:Int)=>[.dv (.one (.int .u32 y)),.dv (.one (.int .i64 (n:Int)))]) (fun n y h=>Sat h0 A h/\EZ (8-n) y=R) ?_ ?_ 0 _ _ (by omega) ⟨hs,hR⟩
 ·rintro n y h1 hn ⟨hs,hy⟩ hk
  apply hJ
  rw[AD,if_pos (by simp;omega)]
  refine⟨by decide,?_⟩
  obtain⟨m,hm⟩:∃m,8-n=m+1:=⟨7-n,by omega⟩
  rw[hm]at hy
  unfold EZ R8 at hy
  rw[AU (by omega)]
  split
  ·rename_i h2
   intro _ e;subst e
   refine hk _ _ ⟨hs,?_⟩
   rw[if_pos (by simpa using h2)]at hy
   rw[show 8-(n+1)=m by omega];exact hy
  ·rename_i h2
   refine hk _ _ ⟨hs,?_⟩
   rw[if_neg (by simpa using h2)]at hy
   rw[show 8-(n+1)=m by omega];exact hy
 ·rintro y h1 ⟨hs,hy⟩
  apply hJ
  rw[AD,if_neg (by simp)]
  have hy:y=R:=hy
  rw[hy]
  exact k _ hs
theorem wX(bs:List Int)(n:Nat)(hn:n<bs.length)(f:Int->Int->Int)(x:Int):(bs.take (n+1)).foldl f x=f ((bs.take n).foldl f x) (bs.getD n 0):=by
 rw[List.take_succ,List.foldl_append]
 simp[List.getElem?_eq_getElem hn]
theorem AiH{Q:HP}{t:Int}{s:Nat}{q:Option Addr}{l c:Nat}{bs:List Int}(hs:Sat h0 A h)(m:At A i (blk s [.int .u32 t]))(rd:∀h',Sat h0 A h'->hsv h' q 1 l (AA .u8 bs))(hl:l<2^62)
  (k:∀h',Sat h0 (put A i (blk s [.int .u32 (bits .xor .u32 4294967295 (bs.foldl ZS (bits .xor .u32 4294967295 t)))])) h'->Q h'):PB ⟨s,0,none⟩ q l c Q h:=by
 unfold PB fQ
 simp only[y8]
 refine⟨_,hs.ld m rfl,?_⟩
 have hbl:bs.length=l:=by have:=(rd _ hs).1;simpa using this
 intro J hJ
 refine DE l (fun n (_:Unit)=>[.dv (.one (.int .u32 ((bs.take n).foldl ZS (bits .xor .u32 4294967295 t)))),.dv (.one (.int .i64 (n:Int)))]) (fun n _ h=>Sat h0 A h) ?_ ?_ 0 () _ (by omega) hs
 ·intro n _ h1 hn hs hk
  apply hJ
  rw[AD,if_pos (by simp;omega)]
  obtain⟨q',hq,g⟩:=CI (rd _ hs) hn
  refine⟨_,hq,by omega,by omega,_,by rw[Int.toNat_natCast,Nat.mul_one];exact g,?_⟩
  refine AkJ hs ?_
  intro h2 hs
  refine⟨by decide,?_⟩
  have:=hk () _ hs
  rw[wX bs n (by omega)]at this
  rw[AU (by omega)]
  exact this
 ·intro _ h1 hs
  apply hJ
  rw[AD,if_neg (by simp),List.take_of_length_le (by omega)]
  refine⟨hs.can m (by simp),?_⟩
  intro h2 e
  exact k _ (hs.wr m e)
theorem Ak6{Q:Int->HP}{q:Option Addr}{l c:Nat}{bs:List Int}(hs:Sat h0 A h)(rd:∀h',Sat h0 A h'->hsv h' q 1 l (AA .u8 bs))(hb:A4 bs)(hl:l<2^62)
  (k:∀h',Sat h0 A h'->Q (HN bs) h'):PA q l c Q h:=by
 unfold PA fO WO fN
 intro n1 _ hn;replace hs:=Sat.new hs hn
 refine⟨_,rfl,?_⟩
 refine AiH hs .z (fun h' hs'=>rd h' hs'.drop) hl ?_
 intro h1 hs
 refine⟨_,rfl,?_⟩
 unfold WP fP
 refine⟨_,hs.ld (.z) rfl,?_⟩
 have e0:bits .xor .u32 4294967295 0=4294967295:=by decide
 rw[e0,Ak8 bs hb _ ⟨by decide,by decide⟩]
 exact k _ hs.drop
theorem YL{n:Nat}(h:n<8):min (IntKind.i64.wrap (8*(n:Int))).toNat 64=8*n:=by
 rw[AL (by omega)];omega
theorem zO{Q:HP}{N o l c:Nat}{f:Nat->Int}(x:Int)(hs:Sat h0 A h)(m:At A i (blk b (AA .u8 (tab N f))))(hl:l≤8)(ho:o+l≤N)
  (k:∀h',Sat h0 (put A i (blk b (AA .u8 (tab N fun k=>if o≤k/\k<o+l then I4 x (k-o) else f k)))) h'->Q h'):O3 (some ⟨b,o,none⟩) l c x Q h:=by
 unfold O3 eF
 intro J hJ
 refine BB l (fun n h=>Sat h0 (put A i (blk b (AA .u8 (tab N fun k=>if o≤k/\k<o+n then I4 x (k-o) else f k)))) h) ?_ ?_ 0 _ (by omega) ?_
 ·intro n h1 hn hs hk
  apply hJ
  rw[AD,if_pos (by simp;omega)]
  rw[YL (by omega)]
  refine⟨by rw[AL (by omega)];omega,_,rfl,by omega,by omega,?_⟩
  rw[Int.toNat_natCast,Nat.mul_one,AF]
  refine⟨hs.can (m.put _) (by simp;omega),?_⟩
  intro h2 e
  replace hs:=hs.wr (m.put _) e
  rw[CD,I9]at hs
  rw[AU (by omega)]
  refine hk _ ?_
  have:(tab N fun k=>if o≤k/\k<o+(n+1) then I4 x (k-o) else f k)=tab N (fun i=>if i=o+n then IntKind.u8.wrap (x.fdiv (2^(8*n))) else if o≤i/\i<o+n then I4 x (i-o) else f i):=by
   apply WF
   intro i hi
   by_cases e:i=o+n
   ·rw[if_pos e,if_pos (by omega),e,Nat.add_sub_cancel_left];rfl
   ·rw[if_neg e]
    by_cases e2:o≤i/\i<o+n
    ·rw[if_pos e2,if_pos (by omega)]
    ·rw[if_neg e2,if_neg (by omega)]
  rw[this];exact hs
 ·intro h1 hs
  apply hJ
  rw[AD,if_neg (by simp)]
  exact k _ hs
 ·have:(tab N fun k=>if o≤k/\k<o+0 then I4 x (k-o) else f k)=tab N f:=WF fun i _=>if_neg (by omega)
  rw[this,m.put_self];exact hs
theorem AlD{Q:Int->HP}{q:Option Addr}{l c:Nat}{bs:List Int}(hs:Sat h0 A h)(rd:∀h',Sat h0 A h'->hsv h' q 1 l (AA .u8 bs))(hl:l≤8)(k:∀h',Sat h0 A h'->Q (SC bs l) h'):O2 q l c Q h:=by
 unfold O2 eD
 intro J hJ
 refine DE l (fun n (_:Unit)=>[.dv (.one (.int .u64 (SC bs n))),.dv (.one (.int .i64 (n:Int)))]) (fun n _ h=>Sat h0 A h) ?_ ?_ 0 () _ (by omega) hs
 ·intro n _ h1 hn hs hk
  apply hJ
  rw[AD,if_pos (by simp;omega)]
  obtain⟨q',hq,g⟩:=CI (rd _ hs) hn
  refine⟨_,hq,by omega,by omega,_,by rw[Int.toNat_natCast,Nat.mul_one];exact g,by rw[AL (by omega)];omega,?_⟩
  rw[YL (by omega),AU (by omega)]
  exact hk () _ hs
 ·intro _ h1 hs
  apply hJ
  rw[AD,if_neg (by simp)]
  exact k _ hs
theorem AkT(n:Nat):(List.replicate n [Value.int .u8 0]).flatten=AA .u8 (tab n fun _=>0):=by
 rw[←WL];simp[AA,AB]
theorem AoC{Q:Option Addr->Nat->Nat->HP}{q:Option Addr}{l c:Nat}{bs:List Int}(hs:Sat h0 A h)(rd:∀h',Sat h0 A h'->hsv h' q 1 l (AA .u8 bs))(hl:l≤2^40)
  (k:∀n h',Sat h0 (blk n (AA .u8 (tab (2*l) fun k=>if k<l then bs.getD k 0 else N0 (bs.getD (k-l) 0)))::A) h'->Q (some ⟨n,0,none⟩) (2*l) (2*l) h'):RK q l c Q h:=by
 unfold RK mB
 have e1:IntKind.i64.wrap (2*(l:Int))=((2*l:Nat):Int):=by rw[AL (by omega)];omega
 simp only[e1,y9,Int.toNat_natCast]
 refine⟨by omega,by omega,by omega,by omega,?_⟩
 intro n1 _ hn
 rw[AkT]at hn
 replace hs:=Sat.new hs hn
 unfold W0 mC
 have e2:IntKind.i64.wrap ((((2*l:Nat):Int)).tdiv 2)=(l:Int):=by rw[Int.tdiv_eq_ediv_of_nonneg (by omega),AL (by omega)];omega
 simp only[e2,e1,Int.toNat_natCast]
 refine⟨by decide,by omega,by omega,by omega,by omega,by omega,by omega,by omega,?_⟩
 have hbl:bs.length=l:=by have:=(rd _ hs.drop).1;simpa using this
 intro J hJ
 have a1:0<l->AJ (some ⟨n1,0,none⟩) 0 l 1=some ⟨n1,0,none⟩:=by
  intro h;unfold AJ;rw[if_neg (by omega)];simp[AF]
 have a2:0<l->AJ (some ⟨n1,0,none⟩) l (2*l) 1=some ⟨n1,l,none⟩:=by
  intro h;unfold AJ;rw[if_neg (by omega)];simp[AF]
 refine BB l (fun n h=>Sat h0 (blk n1 (AA .u8 (tab (2*l) fun k=>if k<n then bs.getD k 0 else if l≤k/\k<l+n then N0 (bs.getD (k-l) 0) else 0))::A) h) ?_ ?_ 0 _ (by omega) ?_
 ·intro n h1 hn hs hk
  apply hJ
  rw[AD,if_pos (by simp;omega)]
  obtain⟨q',hq,g⟩:=CI (rd _ hs.drop) hn
  refine⟨_,hq,by omega,by omega,_,by rw[Int.toNat_natCast,Nat.mul_one];exact g,?_⟩
  refine⟨_,hq,by omega,by omega,_,by rw[Int.toNat_natCast,Nat.mul_one];exact g,?_⟩
  refine⟨_,a1 (by omega),by omega,by omega,?_⟩
  rw[Int.toNat_natCast,Nat.mul_one,AF]
  refine⟨hs.can .z (by simp;omega),?_⟩
  intro h2 e
  replace hs:=hs.wr .z e
  rw[AG,I9]at hs
  refine⟨_,a2 (by omega),by omega,by omega,?_⟩
  rw[AF]
  refine⟨hs.can .z (by simp;omega),?_⟩
  intro h3 e
  replace hs:=hs.wr .z e
  rw[AG,I9]at hs
  rw[AU (by omega)]
  refine hk _ ?_
  refine Sat.tab_to hs fun i hi=>?_
  by_cases e:i=l+n
  ·rw[if_pos e,if_neg (by omega),if_pos (by omega),e,Nat.add_sub_cancel_left];rfl
  ·rw[if_neg e]
   by_cases e2:i=0+n
   ·rw[if_pos e2,if_pos (by omega),show i=n by omega]
   ·rw[if_neg e2]
    by_cases e3:i<n
    ·rw[if_pos e3,if_pos (by omega)]
    ·rw[if_neg e3]
     by_cases e4:l≤i/\i<l+n
     ·rw[if_pos e4,if_neg (show ¬i<n+1 by omega),if_pos (show l≤i/\i<l+(n+1) by omega)]
     ·rw[if_neg e4,if_neg (show ¬i<n+1 by omega),if_neg (show ¬(l≤i/\i<l+(n+1)) by omega)]
 ·intro h1 hs
  apply hJ
  rw[AD,if_neg (by simp)]
  refine k _ _ ?_
  refine Sat.tab_to hs fun i hi=>?_
  by_cases e:i<l
  ·rw[if_pos e,if_pos e]
  ·rw[if_neg e,if_neg e,if_pos (by omega)]
 ·refine Sat.tab_to hs fun i hi=>?_
  rw[if_neg (by omega),if_neg (by omega)]
def C1(kind slot n:Int)(k:Nat):Int:=if k=0 then kind else if k=1 then IntKind.u8.wrap slot else if k<4 then 0 else if k<12 then I4 (IntKind.u64.wrap n) (k-4) else 0
def CN(kind slot n:Int)(k:Nat):Int:=if 12≤k then I4 (HN (tab 12 (C1 kind slot n))) (k-12) else C1 kind slot n k
def E5(kind slot n:Int):List Int:=tab 32 fun k=>if k<16 then CN kind slot n k else N0 (CN kind slot n (k-16))
theorem Aj8{kind slot n:Int}(hk:CC kind)(k:Nat):CC (C1 kind slot n k):=by
 unfold C1
 repeat' split
 ·exact hk
 ·exact Ac0 _
 ·exact⟨by decide,by decide⟩
 ·exact Ac0 _
 ·exact⟨by decide,by decide⟩
theorem Aq5{n:Nat}{f:Nat->Int}(h:∀k,CC (f k)):A4 (tab n f):=by
 intro x hx
 simp only[tab,List.mem_map]at hx
 obtain⟨k,_,rfl⟩:=hx
 exact h k
theorem aG{Q:List Int->HP}(kind slot n:Int)(hk:CC kind)(hs:Sat h0 A h)(k:∀h',Sat h0 A h'->Q (E5 kind slot n) h'):G2 kind slot n Q h:=by
 unfold G2 eE
 try simp only[AF,Nat.zero_add,List.append_nil]
 intro n1 _ hn;replace hs:=Sat.new hs hn
 intro n2 _ hn;replace hs:=Sat.new hs hn
 (refine⟨Sat.can hs (by repeat constructor) (by simp),?_⟩;intro _ e;replace hs:=Sat.wra hs (by repeat constructor) e (by simp[*]);clear e;simp only[put]at hs)
 have e0:[kind,IntKind.u8.wrap slot,0,0,0,0,0,0,0,0,0,0,0,0,0,0]=tab 16 (fun k=>if k=0 then kind else if k=1 then IntKind.u8.wrap slot else 0):=rfl
 rw[e0]at hs
 refine⟨by decide,by decide,by decide,?_⟩
 rw[show AJ (some ⟨n2,0,none⟩) 4 16 1=some ⟨n2,4,none⟩ from rfl]
 refine zO (IntKind.u64.wrap n) hs .z (by decide) (by decide) ?_
 intro h1 hs
 rw[AG]at hs
 have e1:(tab 16 fun k=>if 4≤k/\k<4+8 then I4 (IntKind.u64.wrap n) (k-4) else if k=0 then kind else if k=1 then IntKind.u8.wrap slot else 0)=tab 16 (C1 kind slot n):=by
  apply WF
  intro i hi
  unfold C1
  by_cases q1:i=0
  ·rw[if_neg (by omega),if_pos q1,if_pos q1]
  by_cases q2:i=1
  ·rw[if_neg (by omega),if_neg q1,if_pos q2,if_neg q1,if_pos q2]
  rw[if_neg q1,if_neg q2,if_neg q1,if_neg q2]
  by_cases q3:i<4
  ·rw[if_neg (by omega),if_pos q3]
  rw[if_neg q3]
  by_cases q4:i<12
  ·rw[if_pos (by omega),if_pos q4]
  ·rw[if_neg (by omega),if_neg q4]
 rw[e1]at hs
 refine⟨by decide,by decide,by decide,by decide,?_⟩
 have e2:((tab 16 (C1 kind slot n)).drop 0).take (tab 12 (C1 kind slot n)).length=tab 12 (C1 kind slot n):=rfl
 refine Ak6 (bs:=tab 12 (C1 kind slot n)) hs (fun h' hs'=>Sat.part hs' .z 0 e2) (Aq5 (Aj8 hk)) (by decide) ?_
 intro h2 hs
 have e3:IntKind.u64.wrap (HN (tab 12 (C1 kind slot n)))=HN (tab 12 (C1 kind slot n)):=by
  obtain⟨c1,c2⟩:=Ak5 (tab 12 (C1 kind slot n))
  rw[wrap_u64'];omega
 rw[e3]
 refine zO (HN (tab 12 (C1 kind slot n))) hs .z (by decide) (by decide) ?_
 intro h3 hs
 rw[AG]at hs
 have e4:(tab 16 fun k=>if 12≤k/\k<12+4 then I4 (HN (tab 12 (C1 kind slot n))) (k-12) else C1 kind slot n k)=tab 16 (CN kind slot n):=by
  apply WF
  intro i hi
  unfold CN
  by_cases q1:12≤i
  ·rw[if_pos (by omega),if_pos q1]
  ·rw[if_neg (by omega),if_neg q1]
 rw[e4]at hs
 intro n3 _ hn;replace hs:=Sat.new hs hn
 have e5:((tab 16 (CN kind slot n)).drop 0).take (tab 16 (CN kind slot n)).length=tab 16 (CN kind slot n):=rfl
 refine AoC (bs:=tab 16 (CN kind slot n)) hs (fun h' hs'=>Sat.part hs' zs1 0 e5) (by decide) ?_
 intro n4 h4 hs
 have e6:(tab (2*16) fun k=>if k<16 then (tab 16 (CN kind slot n)).getD k 0 else N0 ((tab 16 (CN kind slot n)).getD (k-16) 0))=E5 kind slot n:=rfl
 rw[e6]at hs
 have hll:(E5 kind slot n).length=32:=rfl
 refine⟨AA .u8 (E5 kind slot n),⟨by rw[A6,hll];rfl,A5 _ _,Or.inr ⟨_,rfl,hs.cs .z (by rw[A6,hll];exact List.take_of_length_le (by rw[List.drop_zero,A6,hll];decide))⟩⟩,Or.inr ⟨_,rfl,hs.can zs1 (by decide)⟩,?_⟩
 intro h5 e
 replace hs:=Sat.wra hs zs1 e (by rw[A6,A6,hll];rfl)
 simp only[put]at hs
 refine⟨_,hll,hs.row0 zs1,?_⟩
 (refine⟨Sat.can hs (by repeat constructor) (by simp),?_⟩;intro _ e;replace hs:=Sat.wra hs (by repeat constructor) e (by simp[*]);clear e;simp only[put]at hs)
 refine⟨_,hll,hs.row0 (by repeat constructor),?_⟩
 exact k _ hs.drop.drop.drop.drop
end
end Go.Proofs.YteedolonhdbieaaGreatDoor
/- Contracts of cells: Head,Value,Blank,Read. Own work. -/
set_option maxRecDepth 100000
namespace Go.Proofs.YteedolonhdbieaaGreatDoor
open Go Go.Vc
section
variable {h0 h:H} {A:List Ent} {i j p r b:Nat} {C:Cm}
theorem Sat.whole(hs:Sat h0 A h){vs:List Value}(m:At A i (blk b vs)):hcs h ⟨b,0,none⟩ vs:=hs.cs m (by rw[List.drop_zero,List.take_length])
def A8:Int:=4611686018427387904
theorem X0(kind slot n:Int):(E5 kind slot n).length=32:=rfl
def DN(n:Int):List Int×Int:=if n<1 then (AB 32,2) else if A8<n then (AB 32,2) else (E5 1 0 n,0)
def C3(slot n:Int):List Int×Int:=if slot<0 then (AB 32,2) else if 8<slot then (AB 32,2) else if n<1 then (AB 32,2) else if A8<n then (AB 32,2) else (E5 2 slot n,0)
theorem pE(n:Int):(DN n).1.length=32:=by unfold DN;(repeat' split) <;> rfl
theorem YO(slot n:Int):(C3 slot n).1.length=32:=by unfold C3;(repeat' split) <;> rfl
theorem AdW{Q:List Int->Int->HP}(n:Int)(hs:Sat h0 A h)(k:∀h',Sat h0 A h'->Q (DN n).1 (DN n).2 h'):O0 n Q h:=by
 unfold O0 dZ
 try simp only[AF,Nat.zero_add,List.append_nil]
 intro n1 _ hn;replace hs:=Sat.new hs hn
 unfold DN at k
 by_cases h1:n<1
 ·rw[if_pos h1]at k
  rw[AD,if_pos (by simpa using h1)]
  (refine⟨Sat.can hs (by repeat constructor) (by simp),?_⟩;intro _ e;replace hs:=Sat.wra hs (by repeat constructor) e (by simp[*]);clear e;simp only[put]at hs)
  refine⟨_,rfl,hs.row0 (by repeat constructor),?_⟩
  exact k _ hs.drop
 rw[if_neg h1]at k
 rw[AD,if_neg (by simpa using h1)]
 intro _ e;subst e
 by_cases h2:A8<n
 ·rw[if_pos h2]at k
  rw[AD,if_pos (by simpa[A8]using h2)]
  (refine⟨Sat.can hs (by repeat constructor) (by simp),?_⟩;intro _ e;replace hs:=Sat.wra hs (by repeat constructor) e (by simp[*]);clear e;simp only[put]at hs)
  refine⟨_,rfl,hs.row0 (by repeat constructor),?_⟩
  exact k _ hs.drop
 rw[if_neg h2]at k
 rw[AD,if_neg (by simpa[A8]using h2)]
 refine aG 1 0 n ⟨by decide,by decide⟩ hs ?_
 intro h3 hs
 have hll:=X0 1 0 n
 (refine⟨Sat.can hs (by repeat constructor) (by simp),?_⟩;intro _ e;replace hs:=Sat.wra hs (by repeat constructor) e (by simp[*]);clear e;simp only[put]at hs)
 refine⟨_,hll,hs.row0 (by repeat constructor),?_⟩
 exact k _ hs.drop
theorem uT{Q:List Int->Int->HP}(slot n:Int)(hs:Sat h0 A h)(k:∀h',Sat h0 A h'->Q (C3 slot n).1 (C3 slot n).2 h'):JP slot n Q h:=by
 unfold JP eC
 try simp only[AF,Nat.zero_add,List.append_nil]
 intro n1 _ hn;replace hs:=Sat.new hs hn
 unfold C3 at k
 by_cases h1:slot<0
 ·rw[if_pos h1]at k
  rw[AD,if_pos (by simpa using h1)]
  (refine⟨Sat.can hs (by repeat constructor) (by simp),?_⟩;intro _ e;replace hs:=Sat.wra hs (by repeat constructor) e (by simp[*]);clear e;simp only[put]at hs)
  refine⟨_,rfl,hs.row0 (by repeat constructor),?_⟩
  exact k _ hs.drop
 rw[if_neg h1]at k
 rw[AD,if_neg (by simpa using h1)]
 by_cases h1:8<slot
 ·rw[if_pos h1]at k
  rw[AD,if_pos (by simpa using h1)]
  (refine⟨Sat.can hs (by repeat constructor) (by simp),?_⟩;intro _ e;replace hs:=Sat.wra hs (by repeat constructor) e (by simp[*]);clear e;simp only[put]at hs)
  refine⟨_,rfl,hs.row0 (by repeat constructor),?_⟩
  exact k _ hs.drop
 rw[if_neg h1]at k
 rw[AD,if_neg (by simpa using h1)]
 by_cases h1:n<1
 ·rw[if_pos h1]at k
  rw[AD,if_pos (by simpa using h1)]
  (refine⟨Sat.can hs (by repeat constructor) (by simp),?_⟩;intro _ e;replace hs:=Sat.wra hs (by repeat constructor) e (by simp[*]);clear e;simp only[put]at hs)
  refine⟨_,rfl,hs.row0 (by repeat constructor),?_⟩
  exact k _ hs.drop
 rw[if_neg h1]at k
 rw[AD,if_neg (by simpa using h1)]
 intro _ e;subst e
 by_cases h2:A8<n
 ·rw[if_pos h2]at k
  rw[AD,if_pos (by simpa[A8]using h2)]
  (refine⟨Sat.can hs (by repeat constructor) (by simp),?_⟩;intro _ e;replace hs:=Sat.wra hs (by repeat constructor) e (by simp[*]);clear e;simp only[put]at hs)
  refine⟨_,rfl,hs.row0 (by repeat constructor),?_⟩
  exact k _ hs.drop
 rw[if_neg h2]at k
 rw[AD,if_neg (by simpa[A8]using h2)]
 refine aG 2 slot n ⟨by decide,by decide⟩ hs ?_
 intro h3 hs
 have hll:=X0 2 slot n
 (refine⟨Sat.can hs (by repeat constructor) (by simp),?_⟩;intro _ e;replace hs:=Sat.wra hs (by repeat constructor) e (by simp[*]);clear e;simp only[put]at hs)
 refine⟨_,hll,hs.row0 (by repeat constructor),?_⟩
 exact k _ hs.drop
def ffs:List Int:=tab 32 fun _=>255
theorem Ac9{Q:List Int->HP}(hs:Sat h0 A h)(k:∀h',Sat h0 A h'->Q ffs h'):OZ Q h:=by
 unfold OZ dY
 try simp only[AF,Nat.zero_add,List.append_nil]
 intro n1 _ hn;replace hs:=Sat.new hs hn
 intro n2 _ hn;replace hs:=Sat.new hs hn
 rw[WL]at hs
 intro J hJ
 refine BB 32 (fun n h=>Sat h0 (blk n2 (AA .u8 (tab 32 fun i=>if i<n then 255 else 0))::blk n1 (AA .u8 (tab 32 fun _=>0))::A) h) ?_ ?_ 0 _ (by omega) ?_
 ·intro n h1 hn hs hk
  apply hJ
  rw[AD,if_pos (by simp;omega)]
  refine⟨by omega,by omega,?_⟩
  rw[Int.toNat_natCast,Nat.mul_one]
  refine⟨hs.can .z (by simp;omega),?_⟩
  intro h2 e
  replace hs:=hs.wr .z e
  rw[AG,I9]at hs
  rw[AU (by omega)]
  refine hk _ (Sat.tab_to hs fun i hi=>?_)
  by_cases e:i=n
  ·rw[if_pos e,if_pos (by omega)]
  ·rw[if_neg e]
   by_cases e2:i<n
   ·rw[if_pos e2,if_pos (by omega)]
   ·rw[if_neg e2,if_neg (by omega)]
 ·intro h1 hs
  apply hJ
  rw[AD,if_neg (by simp)]
  replace hs:=Sat.tab_to (g:=fun _=>255) hs fun i hi=>if_pos hi
  refine⟨ffs,rfl,hs.row0 .z,?_⟩
  have hll:ffs.length=32:=rfl
  (refine⟨Sat.can hs (by repeat constructor) (by simp),?_⟩;intro _ e;replace hs:=Sat.wra hs (by repeat constructor) e (by simp[*]);clear e;simp only[put]at hs)
  refine⟨_,hll,hs.row0 (by repeat constructor),?_⟩
  exact k _ hs.drop.drop
 ·exact Sat.tab_to hs fun i hi=>(if_neg (by omega)).symm
def BZ(x:List Int):Int×Int×Int:=
 if x=ffs then (0,0,0)
 else if C8 ((x.drop 4).take 8) 8<1 then (3,0,0)
 else if A8<C8 ((x.drop 4).take 8) 8 then (3,0,0)
 else if x.getD 0 0=1/\x=E5 1 0 (C8 ((x.drop 4).take 8) 8) then (1,0,C8 ((x.drop 4).take 8) 8)
 else if x.getD 0 0=2/\x.getD 1 0≤8/\x=E5 2 (x.getD 1 0) (C8 ((x.drop 4).take 8) 8) then (2,x.getD 1 0,C8 ((x.drop 4).take 8) 8)
 else (3,0,0)
theorem Ai8{Q:Int->Int->Int->HP}(x:List Int)(hx:x.length=32)(hb:A4 x)(hs:Sat h0 A h)(k:∀h',Sat h0 A h'->Q (BZ x).1 (BZ x).2.1 (BZ x).2.2 h'):O1 x Q h:=by
 unfold O1 eA
 try simp only[AF,Nat.zero_add,List.append_nil]
 intro n1 _ hn;replace hs:=Sat.new hs hn
 intro n2 _ hn;replace hs:=Sat.new hs hn
 refine⟨by decide,by decide,by decide,?_⟩
 rw[show AJ (some ⟨n1,0,none⟩) 4 32 1=some ⟨n1,4,none⟩ from rfl]
 have el:((x.drop 4).take 8).length=8:=by simp[hx]
 have e2:(x.drop 4).take ((x.drop 4).take 8).length=(x.drop 4).take 8:=by rw[el]
 have hsub:A4 ((x.drop 4).take 8):=fun v hv=>hb v (List.mem_of_mem_drop (List.mem_of_mem_take hv))
 refine AlD (bs:=(x.drop 4).take 8) hs (fun h' hs'=>by
  have:=Sat.part hs' zs1 4 e2
  rw[el]at this;exact this) (by decide) ?_
 intro h1 hs
 unfold BZ at k
 have eg:=AlC ((x.drop 4).take 8) hsub 8
 rw[eg]
 generalize C8 ((x.drop 4).take 8) 8=g at k
 have x0:=hb (x.getD 0 0) (by rw[List.getD_eq_getElem?_getD,List.getElem?_eq_getElem (by omega)];exact List.getElem_mem _)
 have x1:=hb (x.getD 1 0) (by rw[List.getD_eq_getElem?_getD,List.getElem?_eq_getElem (by omega)];exact List.getElem_mem _)
 have g0:(AA .u8 x)[0]?=some (.int .u8 (x.getD 0 0)):=by rw[BA,List.getElem?_eq_getElem (by omega)];simp[List.getD,List.getElem?_eq_getElem (show 0<x.length by omega)]
 have g1:(AA .u8 x)[1]?=some (.int .u8 (x.getD 1 0)):=by rw[BA,List.getElem?_eq_getElem (by omega)];simp[List.getD,List.getElem?_eq_getElem (show 1<x.length by omega)]
 refine⟨by decide,by decide,_,hs.ld zs1 g1,x,hx,hs.row0 zs1,?_⟩
 have ew1:IntKind.i64.wrap (x.getD 1 0)=x.getD 1 0:=by obtain⟨q1,q2⟩:=x1;rw[AL (by omega)]
 rw[ew1]
 refine Ac9 hs ?_
 intro h2 hs
 refine⟨Sat.whole hs zs1,?_⟩
 by_cases c1:x=ffs
 ·rw[if_pos c1]at k
  rw[if_pos (by rw[c1];simp)]
  (refine⟨Sat.can hs (by repeat constructor) (by simp),?_⟩;intro _ e;replace hs:=Sat.wra hs (by repeat constructor) e (by simp[*]);clear e;simp only[put]at hs)
  refine⟨_,Sat.ld hs (by repeat constructor) (by rfl),?_⟩
  refine⟨_,Sat.ld hs (by repeat constructor) (by rfl),?_⟩
  refine⟨_,Sat.ld hs (by repeat constructor) (by rfl),?_⟩
  exact k _ hs.drop.drop
 rw[if_neg c1]at k
 rw[if_neg (by simpa using c1)]
 intro J hJ
 have torn:∀(bb:Bool),(bb=true->g<1∨A8<g)->(bb=false->¬g<1/\¬A8<g)->J [.dv (.one (.bool bb))] h2:=by
  intro bb b1 b2
  apply hJ
  by_cases c2:bb=true
  ·rw[if_pos c2]
   (refine⟨Sat.can hs (by repeat constructor) (by simp),?_⟩;intro _ e;replace hs:=Sat.wra hs (by repeat constructor) e (by simp[*]);clear e;simp only[put]at hs)
   refine⟨_,Sat.ld hs (by repeat constructor) (by rfl),?_⟩
   refine⟨_,Sat.ld hs (by repeat constructor) (by rfl),?_⟩
   refine⟨_,Sat.ld hs (by repeat constructor) (by rfl),?_⟩
   rcases b1 c2 with b1 | b1
   ·rw[if_pos b1]at k
    exact k _ hs.drop.drop
   ·rw[if_neg (by unfold A8 at b1;omega),if_pos b1]at k
    exact k _ hs.drop.drop
  rw[if_neg c2]
  obtain⟨b3,b4⟩:=b2 (by simpa using c2)
  rw[if_neg b3,if_neg b4]at k
  intro J2 hJ2
  have two:∀(cc:Bool),(cc=true↔x.getD 0 0=1/\x=E5 1 0 g)->∀h3,Sat h0 (blk n2 [.int .i64 0,.int .i64 0,.int .i64 0]::blk n1 (AA .u8 x)::A) h3->J2 [.dv (.one (.bool cc))] h3:=by
   intro cc c3 h3 hs
   apply hJ2
   by_cases c4:cc=true
   ·rw[if_pos c4]
    rw[if_pos (c3.1 c4)]at k
    (refine⟨Sat.can hs (by repeat constructor) (by simp),?_⟩;intro _ e;replace hs:=Sat.wra hs (by repeat constructor) e (by simp[*]);clear e;simp only[put]at hs)
    refine⟨_,Sat.ld hs (by repeat constructor) (by rfl),?_⟩
    refine⟨_,Sat.ld hs (by repeat constructor) (by rfl),?_⟩
    refine⟨_,Sat.ld hs (by repeat constructor) (by rfl),?_⟩
    exact k _ hs.drop.drop
   rw[if_neg c4]
   rw[if_neg (fun y=>c4 (c3.2 y))]at k
   refine⟨by decide,by decide,_,hs.ld zs1 g0,?_⟩
   by_cases c5:x.getD 0 0=2
   case neg=>
    rw[if_neg (fun y=>c5 y.1)]at k
    rw[if_neg (by rw[beq_iff_eq];exact c5)]
    (refine⟨Sat.can hs (by repeat constructor) (by simp),?_⟩;intro _ e;replace hs:=Sat.wra hs (by repeat constructor) e (by simp[*]);clear e;simp only[put]at hs)
    refine⟨_,Sat.ld hs (by repeat constructor) (by rfl),?_⟩
    refine⟨_,Sat.ld hs (by repeat constructor) (by rfl),?_⟩
    refine⟨_,Sat.ld hs (by repeat constructor) (by rfl),?_⟩
    exact k _ hs.drop.drop
   rw[if_pos (by rw[beq_iff_eq];exact c5)]
   by_cases c6:x.getD 1 0≤8
   case neg=>
    rw[if_neg (fun y=>c6 y.2.1)]at k
    rw[A0,if_neg (by rw[decide_eq_true_eq];exact c6)]
    (refine⟨Sat.can hs (by repeat constructor) (by simp),?_⟩;intro _ e;replace hs:=Sat.wra hs (by repeat constructor) e (by simp[*]);clear e;simp only[put]at hs)
    refine⟨_,Sat.ld hs (by repeat constructor) (by rfl),?_⟩
    refine⟨_,Sat.ld hs (by repeat constructor) (by rfl),?_⟩
    refine⟨_,Sat.ld hs (by repeat constructor) (by rfl),?_⟩
    exact k _ hs.drop.drop
   rw[A0,if_pos (by rw[decide_eq_true_eq];exact c6)]
   refine⟨x,hx,hs.row0 zs1,?_⟩
   refine aG 2 (x.getD 1 0) g ⟨by decide,by decide⟩ hs ?_
   intro h4 hs
   refine⟨Sat.whole hs zs1,?_⟩
   by_cases c7:x=E5 2 (x.getD 1 0) g
   ·rw[if_pos ⟨c5,c6,c7⟩]at k
    rw[if_pos (by rw[beq_iff_eq];exact c7)]
    clear c7
    (refine⟨Sat.can hs (by repeat constructor) (by simp),?_⟩;intro _ e;replace hs:=Sat.wra hs (by repeat constructor) e (by simp[*]);clear e;simp only[put]at hs)
    refine⟨_,Sat.ld hs (by repeat constructor) (by rfl),?_⟩
    refine⟨_,Sat.ld hs (by repeat constructor) (by rfl),?_⟩
    refine⟨_,Sat.ld hs (by repeat constructor) (by rfl),?_⟩
    exact k _ hs.drop.drop
   ·rw[if_neg (fun y=>c7 y.2.2)]at k
    rw[if_neg (by rw[beq_iff_eq];exact c7)]
    (refine⟨Sat.can hs (by repeat constructor) (by simp),?_⟩;intro _ e;replace hs:=Sat.wra hs (by repeat constructor) e (by simp[*]);clear e;simp only[put]at hs)
    refine⟨_,Sat.ld hs (by repeat constructor) (by rfl),?_⟩
    refine⟨_,Sat.ld hs (by repeat constructor) (by rfl),?_⟩
    refine⟨_,Sat.ld hs (by repeat constructor) (by rfl),?_⟩
    exact k _ hs.drop.drop
  refine⟨by decide,by decide,_,hs.ld zs1 g0,?_⟩
  by_cases c5:x.getD 0 0=1
  ·rw[if_pos (by rw[beq_iff_eq];exact c5)]
   refine⟨x,hx,hs.row0 zs1,?_⟩
   refine aG 1 0 g ⟨by decide,by decide⟩ hs ?_
   intro h4 hs
   refine⟨Sat.whole hs zs1,?_⟩
   refine two _ ?_ _ hs
   rw[beq_iff_eq]
   exact⟨fun y=>⟨c5,y⟩,fun y=>y.2⟩
  ·rw[if_neg (by rw[beq_iff_eq];exact c5)]
   exact two _ ⟨fun y=>by simp at y,fun y=>absurd y.1 c5⟩ _ hs
 by_cases c2:g<1
 ·rw[AD,if_pos (by simpa using c2)]
  exact torn true (fun _=>Or.inl c2) (fun y=>by simp at y)
 ·rw[AD,if_neg (by simpa using c2)]
  intro _ e;subst e
  rw[AD]
  refine torn _ (fun y=>Or.inr (by simpa[A8]using y)) (fun y=>⟨c2,by simpa[A8]using y⟩)
end
end Go.Proofs.YteedolonhdbieaaGreatDoor
/- Contracts of the document's cells. Own work. -/
set_option maxRecDepth 100000
namespace Go.Proofs.YteedolonhdbieaaGreatDoor
open Go Go.Vc
section
variable {h0 h:H} {A:List Ent} {i j p r b:Nat} {C:Cm}
theorem AbB(n:Nat)(f:Nat->Int):tab (n+1) f=tab n f++[f n]:=by simp[tab,List.range_succ]
theorem Ap0{Q:Int->HP}{x:Int}(hs:Sat h0 A h)(k:∀h',Sat h0 A h'->Q (R8 x) h'):QI x Q h:=by
 unfold QI iW
 unfold R8 at k
 split
 ·rename_i h1
  refine⟨by decide,?_⟩
  intro _ e;subst e
  rw[if_pos (by simpa using h1)]at k
  exact k _ hs
 ·rename_i h1
  refine⟨by decide,?_⟩
  rw[if_neg (by simpa using h1)]at k
  exact k _ hs
theorem AoJ{Q:Int->HP}{x:Int}(hs:Sat h0 A h)(k:∀h',Sat h0 A h'->Q (EZ 8 x) h'):QH x Q h:=by
 unfold QH iV
 intro J hJ
 generalize hR:EZ 8 x=R at k
 refine DE 8 (fun n (y:Int)=>[.dv (.one (.int .u32 y)),.dv (.one (.int .i64 (n:Int)))]) (fun n y h=>Sat h0 A h/\EZ (8-n) y=R) ?_ ?_ 0 _ _ (by omega) ⟨hs,hR⟩
 ·rintro n y h1 hn ⟨hs,hy⟩ hk
  apply hJ
  rw[AD,if_pos (by simp;omega)]
  obtain⟨m,hm⟩:∃m,8-n=m+1:=⟨7-n,by omega⟩
  rw[hm]at hy
  unfold EZ at hy
  refine Ap0 hs ?_
  intro h2 hs
  rw[AU (by omega)]
  exact hk _ _ ⟨hs,by rw[show 8-(n+1)=m by omega];exact hy⟩
 ·rintro y h1 ⟨hs,hy⟩
  apply hJ
  rw[AD,if_neg (by simp)]
  have hy:y=R:=hy
  rw[hy]
  exact k _ hs
theorem AnZ{Q:Int->HP}{q:Option Addr}{l c:Nat}{bs:List Int}(hs:Sat h0 A h)(rd:∀h',Sat h0 A h'->hsv h' q 1 l (AA .u8 bs))(hl:l<2^62)
  (k:∀h',Sat h0 A h'->Q (HN bs) h'):QG q l c Q h:=by
 unfold QG iU
 simp only[y8]
 have hbl:bs.length=l:=by have:=(rd _ hs).1;simpa using this
 intro J hJ
 refine DE l (fun n (_:Unit)=>[.dv (.one (.int .u32 ((bs.take n).foldl R7 4294967295))),.dv (.one (.int .i64 (n:Int)))]) (fun n _ h=>Sat h0 A h) ?_ ?_ 0 () _ (by omega) hs
 ·intro n _ h1 hn hs hk
  apply hJ
  rw[AD,if_pos (by simp;omega)]
  obtain⟨q',hq,g⟩:=CI (rd _ hs) hn
  refine⟨_,hq,by omega,by omega,_,by rw[Int.toNat_natCast,Nat.mul_one];exact g,?_⟩
  refine AoJ hs ?_
  intro h2 hs
  have:=hk () _ hs
  rw[wX bs n (by omega)]at this
  rw[AU (by omega)]
  exact this
 ·intro _ h1 hs
  apply hJ
  rw[AD,if_neg (by simp),List.take_of_length_le (by omega)]
  exact k _ hs
theorem Aa2{Q:List Int->HP}(kind slot n:Int)(hk:kind=1∨kind=2)(n1:1≤n)(n2:n≤A8)(hs:Sat h0 A h)(k:∀h',Sat h0 A h'->Q (E5 kind slot n) h'):KK kind slot n Q h:=by
 unfold KK j7
 try simp only[AF,Nat.zero_add,List.append_nil,y9]
 unfold A8 at n2
 have ek:IntKind.u8.wrap kind=kind:=by rcases hk with e | e <;> subst e <;> decide
 have en:IntKind.u64.wrap n=n:=by rw[wrap_u64'];omega
 rw[ek]
 intro b1 _ hn;replace hs:=Sat.new hs hn
 intro b2 _ hn;replace hs:=Sat.new hs hn
 have e0:[Value.int .u8 kind,.int .u8 (IntKind.u8.wrap slot),.int .u8 0,.int .u8 0]=AA .u8 (tab 4 (C1 kind slot n)):=rfl
 rw[e0]at hs
 replace hs:=hs.as_sl (i:=0) (l:=4) (sz:=1) .z rfl (A5 _ _)
 rw[AG]at hs
 intro J hJ
 refine DE 8 (fun m (s:Option Addr×Nat)=>[.dv (.one (.slice s.1 (4+m) s.2)),.dv (.one (.int .i64 (m:Int)))]) (fun m s h=>Sat h0 (slE s.1 (4+m) s.2 1 (AA .u8 (tab (4+m) (C1 kind slot n)))::blk b1 (AA .u8 (AB 32))::A) h) ?_ ?_ 0 (some ⟨b2,0,none⟩,4) _ (by omega) hs
 ·rintro m ⟨sp,sc⟩ h1 hm hs hkk
  apply hJ
  rw[AD,if_pos (by simp;omega)]
  refine⟨by rw[AL (by omega)];omega,?_⟩
  rw[YL (by omega)]
  intro b3 _ hn;replace hs:=Sat.new hs hn
  refine⟨_,hs.bv (l:=1) .z (by simp) (by simp),?_⟩
  refine Sat.app hs zs1 (by simp) rfl (by simp) (by omega) ?_
  intro p' c' h2 hs
  rw[AS,AG]at hs
  rw[AU (by omega)]
  refine hkk (p',c') _ ?_
  have e1:tab (4+(m+1)) (C1 kind slot n)=tab (4+m) (C1 kind slot n)++[IntKind.u8.wrap (n.fdiv (2^(8*m)))]:=by
   rw[show 4+(m+1)=(4+m)+1 by omega,AbB]
   congr 2
   unfold C1
   rw[if_neg (by omega),if_neg (by omega),if_neg (by omega),if_pos (by omega),en,show 4+m-4=m by omega]
   rfl
  rw[e1]
  have:=hs.drop
  rw[Nat.add_assoc]at this
  simpa[AA]using this
 ·rintro⟨sp,sc⟩ h1 hs
  apply hJ
  rw[AD,if_neg (by simp)]
  clear hJ J
  dsimp only at hs
  refine AnZ (bs:=tab 12 (C1 kind slot n)) hs (fun h' hs'=>hs'.sv .z) (by omega) ?_
  intro h2 hs
  generalize hcr:HN (tab 12 (C1 kind slot n))=cr
  intro J hJ
  have e2:tab 12 (C1 kind slot n)=tab 12 (CN kind slot n):=WF fun i hi=>by unfold CN;rw[if_neg (by omega)]
  have hs1:Sat h0 (slE sp (12+0) sc 1 (AA .u8 (tab (12+0) (CN kind slot n)))::blk b1 (AA .u8 (AB 32))::A) h2:=by
   rw[Nat.add_zero,←e2];exact hs
  refine DE 4 (fun m (s:Option Addr×Nat)=>[.dv (.one (.slice s.1 (12+m) s.2)),.dv (.one (.int .i64 (m:Int)))]) (fun m s h=>Sat h0 (slE s.1 (12+m) s.2 1 (AA .u8 (tab (12+m) (CN kind slot n)))::blk b1 (AA .u8 (AB 32))::A) h) ?_ ?_ 0 (sp,sc) _ (by omega) hs1
  ·rintro m ⟨sp,sc⟩ h1 hm hs hkk
   apply hJ
   rw[AD,if_pos (by simp;omega)]
   refine⟨by rw[AL (by omega)];omega,?_⟩
   have e8:min (IntKind.i64.wrap (8*(m:Int))).toNat 32=8*m:=by rw[AL (by omega)];omega
   rw[e8]
   intro b3 _ hn;replace hs:=Sat.new hs hn
   refine⟨_,hs.bv (l:=1) .z (by simp) (by simp),?_⟩
   refine Sat.app hs zs1 (by simp) rfl (by simp) (by omega) ?_
   intro p' c' h2 hs
   rw[AS,AG]at hs
   rw[AU (by omega)]
   refine hkk (p',c') _ ?_
   have e1:tab (12+(m+1)) (CN kind slot n)=tab (12+m) (CN kind slot n)++[IntKind.u8.wrap (cr.fdiv (2^(8*m)))]:=by
    rw[show 12+(m+1)=(12+m)+1 by omega,AbB]
    congr 2
    unfold CN
    rw[if_pos (by omega),hcr,show 12+m-12=m by omega]
    rfl
   rw[e1]
   have:=hs.drop
   rw[Nat.add_assoc]at this
   simpa[AA]using this
  ·rintro⟨sp,sc⟩ h1 hs
   apply hJ
   rw[AD,if_neg (by simp)]
   clear hJ J
   dsimp only at hs ⊢
   intro b4 _ hn;replace hs:=Sat.new hs hn
   (refine⟨Sat.can hs (by repeat constructor) (by simp),?_⟩;intro _ e;replace hs:=Sat.wra hs (by repeat constructor) e (by simp[*]);clear e;simp only[put]at hs)
   intro J hJ
   rw[WL]at hs
   replace hs:=Sat.tab_to (g:=fun k=>if k<0 then CN kind slot n k else if 16≤k/\k<16+0 then N0 (CN kind slot n (k-16)) else 0) hs fun i hi=>by rw[if_neg (by omega),if_neg (by omega)]
   rw[←WL]at hs
   refine BB 16 (fun m h=>Sat h0 (blk b4 (AA .u8 (tab 32 fun k=>if k<m then CN kind slot n k else if 16≤k/\k<16+m then N0 (CN kind slot n (k-16)) else 0))::slE sp 16 sc 1 (AA .u8 (tab 16 (CN kind slot n)))::blk b1 (AA .u8 (AB 32))::A) h) ?_ ?_ 0 _ (by omega) hs
   ·intro m h3 hm hs hkk
    apply hJ
    rw[AD,if_pos (by simp;omega)]
    obtain⟨q',hq,g⟩:=CI (hs.sv zs1) hm
    have eg:(tab 16 (CN kind slot n)).getD m 0=CN kind slot n m:=by
     rw[List.getD_eq_getElem?_getD,IL,if_pos hm];rfl
    rw[eg]at g
    refine⟨_,hq,by omega,by omega,_,by rw[Int.toNat_natCast,Nat.mul_one];exact g,by omega,by omega,?_⟩
    rw[Int.toNat_natCast,Nat.mul_one]
    refine⟨hs.can .z (by simp;omega),?_⟩
    intro h4 e
    replace hs:=hs.wr .z e
    rw[AG,I9]at hs
    obtain⟨q',hq,g⟩:=CI (hs.sv zs1) hm
    rw[eg]at g
    have ew:IntKind.i64.wrap (16+(m:Int))=((16+m:Nat):Int):=by rw[AL (by omega)];omega
    refine⟨_,hq,by omega,by omega,_,g,by rw[ew];omega,by rw[ew];omega,?_⟩
    rw[ew,Int.toNat_natCast,Nat.mul_one]
    refine⟨hs.can .z (by simp;omega),?_⟩
    intro h5 e
    replace hs:=hs.wr .z e
    rw[AG,I9]at hs
    rw[AU (by omega)]
    refine hkk _ (Sat.tab_to hs fun i hi=>?_)
    by_cases e:i=16+m
    ·rw[if_pos e,if_neg (by omega),if_pos (by omega),e,Nat.add_sub_cancel_left];rfl
    ·rw[if_neg e]
     by_cases e2:i=m
     ·rw[if_pos e2,if_pos (by omega),e2]
     ·rw[if_neg e2]
      by_cases e3:i<m
      ·rw[if_pos e3,if_pos (by omega)]
      ·rw[if_neg e3]
       by_cases e4:16≤i/\i<16+m
       ·rw[if_pos e4,if_neg (show ¬i<m+1 by omega),if_pos (show 16≤i/\i<16+(m+1) by omega)]
       ·rw[if_neg e4,if_neg (show ¬i<m+1 by omega),if_neg (show ¬(16≤i/\i<16+(m+1)) by omega)]
   ·intro h3 hs
    apply hJ
    rw[AD,if_neg (by simp)]
    replace hs:=Sat.tab_to (g:=fun k=>if k<16 then CN kind slot n k else N0 (CN kind slot n (k-16))) hs fun i hi=>by
     by_cases e:i<16
     ·rw[if_pos e,if_pos e]
     ·rw[if_neg e,if_neg e,if_pos (by omega)]
    replace hs:Sat h0 (blk b4 (AA .u8 (E5 kind slot n))::slE sp 16 sc 1 (AA .u8 (tab 16 (CN kind slot n)))::blk b1 (AA .u8 (AB 32))::A) h3:=hs
    have hll:=X0 kind slot n
    refine⟨_,hll,hs.row0 .z,?_⟩
    (refine⟨Sat.can hs (by repeat constructor) (by simp),?_⟩;intro _ e;replace hs:=Sat.wra hs (by repeat constructor) e (by simp[*]);clear e;simp only[put]at hs)
    refine⟨_,hll,hs.row0 (by repeat constructor),?_⟩
    exact k _ hs.drop.drop.drop
theorem zT{Q:List Int->Int->HP}(n:Int)(hs:Sat h0 A h)(k:∀h',Sat h0 A h'->Q (DN n).1 (DN n).2 h'):KJ n Q h:=by
 unfold KJ jZ
 try simp only[AF,Nat.zero_add,List.append_nil]
 intro n1 _ hn;replace hs:=Sat.new hs hn
 unfold DN at k
 by_cases h1:n<1
 ·rw[if_pos h1]at k
  rw[AD,if_pos (by simpa using h1)]
  (refine⟨Sat.can hs (by repeat constructor) (by simp),?_⟩;intro _ e;replace hs:=Sat.wra hs (by repeat constructor) e (by simp[*]);clear e;simp only[put]at hs)
  refine⟨_,rfl,hs.row0 (by repeat constructor),?_⟩
  exact k _ hs.drop
 rw[if_neg h1]at k
 rw[AD,if_neg (by simpa using h1)]
 intro _ e;subst e
 by_cases h2:A8<n
 ·rw[if_pos h2]at k
  rw[AD,if_pos (by simpa[A8]using h2)]
  (refine⟨Sat.can hs (by repeat constructor) (by simp),?_⟩;intro _ e;replace hs:=Sat.wra hs (by repeat constructor) e (by simp[*]);clear e;simp only[put]at hs)
  refine⟨_,rfl,hs.row0 (by repeat constructor),?_⟩
  exact k _ hs.drop
 rw[if_neg h2]at k
 rw[AD,if_neg (by simpa[A8]using h2)]
 refine Aa2 1 0 n (Or.inl rfl) (by omega) (by omega) hs ?_
 intro h3 hs
 have hll:=X0 1 0 n
 (refine⟨Sat.can hs (by repeat constructor) (by simp),?_⟩;intro _ e;replace hs:=Sat.wra hs (by repeat constructor) e (by simp[*]);clear e;simp only[put]at hs)
 refine⟨_,hll,hs.row0 (by repeat constructor),?_⟩
 exact k _ hs.drop
theorem qL{Q:List Int->Int->HP}(slot n:Int)(hs:Sat h0 A h)(k:∀h',Sat h0 A h'->Q (C3 slot n).1 (C3 slot n).2 h'):HE slot n Q h:=by
 unfold HE j6
 try simp only[AF,Nat.zero_add,List.append_nil]
 intro n1 _ hn;replace hs:=Sat.new hs hn
 unfold C3 at k
 by_cases h1:slot<0
 ·rw[if_pos h1]at k
  rw[AD,if_pos (by simpa using h1)]
  (refine⟨Sat.can hs (by repeat constructor) (by simp),?_⟩;intro _ e;replace hs:=Sat.wra hs (by repeat constructor) e (by simp[*]);clear e;simp only[put]at hs)
  refine⟨_,rfl,hs.row0 (by repeat constructor),?_⟩
  exact k _ hs.drop
 rw[if_neg h1]at k
 rw[AD,if_neg (by simpa using h1)]
 by_cases h1:8<slot
 ·rw[if_pos h1]at k
  rw[AD,if_pos (by simpa using h1)]
  (refine⟨Sat.can hs (by repeat constructor) (by simp),?_⟩;intro _ e;replace hs:=Sat.wra hs (by repeat constructor) e (by simp[*]);clear e;simp only[put]at hs)
  refine⟨_,rfl,hs.row0 (by repeat constructor),?_⟩
  exact k _ hs.drop
 rw[if_neg h1]at k
 rw[AD,if_neg (by simpa using h1)]
 by_cases h1:n<1
 ·rw[if_pos h1]at k
  rw[AD,if_pos (by simpa using h1)]
  (refine⟨Sat.can hs (by repeat constructor) (by simp),?_⟩;intro _ e;replace hs:=Sat.wra hs (by repeat constructor) e (by simp[*]);clear e;simp only[put]at hs)
  refine⟨_,rfl,hs.row0 (by repeat constructor),?_⟩
  exact k _ hs.drop
 rw[if_neg h1]at k
 rw[AD,if_neg (by simpa using h1)]
 intro _ e;subst e
 by_cases h2:A8<n
 ·rw[if_pos h2]at k
  rw[AD,if_pos (by simpa[A8]using h2)]
  (refine⟨Sat.can hs (by repeat constructor) (by simp),?_⟩;intro _ e;replace hs:=Sat.wra hs (by repeat constructor) e (by simp[*]);clear e;simp only[put]at hs)
  refine⟨_,rfl,hs.row0 (by repeat constructor),?_⟩
  exact k _ hs.drop
 rw[if_neg h2]at k
 rw[AD,if_neg (by simpa[A8]using h2)]
 refine Aa2 2 slot n (Or.inr rfl) (by omega) (by omega) hs ?_
 intro h3 hs
 have hll:=X0 2 slot n
 (refine⟨Sat.can hs (by repeat constructor) (by simp),?_⟩;intro _ e;replace hs:=Sat.wra hs (by repeat constructor) e (by simp[*]);clear e;simp only[put]at hs)
 refine⟨_,hll,hs.row0 (by repeat constructor),?_⟩
 exact k _ hs.drop
theorem AnR{Q:List Int->HP}(hs:Sat h0 A h)(k:∀h',Sat h0 A h'->Q ffs h'):QW Q h:=by
 unfold QW jY
 try simp only[AF,Nat.zero_add,List.append_nil]
 intro n1 _ hn;replace hs:=Sat.new hs hn
 intro n2 _ hn;replace hs:=Sat.new hs hn
 (refine⟨Sat.can hs (by repeat constructor) (by simp),?_⟩;intro _ e;replace hs:=Sat.wra hs (by repeat constructor) e (by simp[*]);clear e;simp only[put]at hs)
 rw[WL]at hs
 intro J hJ
 replace hs:=Sat.tab_to (g:=fun i=>if i<0 then 255 else 0) hs fun i hi=>(if_neg (by omega)).symm
 refine BB 32 (fun n h=>Sat h0 (blk n2 (AA .u8 (tab 32 fun i=>if i<n then 255 else 0))::blk n1 (AA .u8 (tab 32 fun _=>0))::A) h) ?_ ?_ 0 _ (by omega) hs
 ·intro n h1 hn hs hk
  apply hJ
  rw[AD,if_pos (by simp;omega)]
  refine⟨by omega,by omega,?_⟩
  rw[Int.toNat_natCast,Nat.mul_one]
  refine⟨hs.can .z (by simp;omega),?_⟩
  intro h2 e
  replace hs:=hs.wr .z e
  rw[AG,I9]at hs
  rw[AU (by omega)]
  refine hk _ (Sat.tab_to hs fun i hi=>?_)
  by_cases e:i=n
  ·rw[if_pos e,if_pos (by omega)]
  ·rw[if_neg e]
   by_cases e2:i<n
   ·rw[if_pos e2,if_pos (by omega)]
   ·rw[if_neg e2,if_neg (by omega)]
 ·intro h1 hs
  apply hJ
  rw[AD,if_neg (by simp)]
  replace hs:=Sat.tab_to (g:=fun _=>255) hs fun i hi=>if_pos hi
  refine⟨ffs,rfl,hs.row0 .z,?_⟩
  have hll:ffs.length=32:=rfl
  (refine⟨Sat.can hs (by repeat constructor) (by simp),?_⟩;intro _ e;replace hs:=Sat.wra hs (by repeat constructor) e (by simp[*]);clear e;simp only[put]at hs)
  refine⟨_,hll,hs.row0 (by repeat constructor),?_⟩
  exact k _ hs.drop.drop
theorem yP(kind slot n:Int):(E5 kind slot n).getD 0 0=kind:=rfl
theorem Ao3{Q:Int->Int->Int->HP}(x:List Int)(hx:x.length=32)(hb:A4 x)(hs:Sat h0 A h)(k:∀h',Sat h0 A h'->Q (BZ x).1 (BZ x).2.1 (BZ x).2.2 h'):QX x Q h:=by
 unfold QX j0
 try simp only[AF,Nat.zero_add,List.append_nil]
 intro n1 _ hn;replace hs:=Sat.new hs hn
 intro n2 _ hn;replace hs:=Sat.new hs hn
 refine⟨x,hx,hs.row0 zs1,?_⟩
 refine AnR hs ?_
 intro h1 hs
 refine⟨Sat.whole hs zs1,?_⟩
 unfold BZ at k
 by_cases c1:x=ffs
 ·rw[if_pos c1]at k
  rw[if_pos (by rw[c1];simp)]
  (refine⟨Sat.can hs (by repeat constructor) (by simp),?_⟩;intro _ e;replace hs:=Sat.wra hs (by repeat constructor) e (by simp[*]);clear e;simp only[put]at hs)
  refine⟨_,Sat.ld hs (by repeat constructor) (by rfl),?_⟩
  refine⟨_,Sat.ld hs (by repeat constructor) (by rfl),?_⟩
  refine⟨_,Sat.ld hs (by repeat constructor) (by rfl),?_⟩
  exact k _ hs.drop.drop
 rw[if_neg c1]at k
 rw[if_neg (by simpa using c1)]
 intro J hJ
 have el:((x.drop 4).take 8).length=8:=by simp[hx]
 refine DE 8 (fun n (_:Unit)=>[.dv (.one (.int .i64 (C8 ((x.drop 4).take 8) n))),.dv (.one (.int .i64 (n:Int)))]) (fun n _ h=>Sat h0 (blk n2 [.int .i64 0,.int .i64 0,.int .i64 0]::blk n1 (AA .u8 x)::A) h) ?_ ?_ 0 () _ (by omega) hs
 ·intro n _ h2 hn hs hk
  apply hJ
  have ew:IntKind.i64.wrap (4+(n:Int))=((4+n:Nat):Int):=by rw[AL (by omega)];omega
  rw[AD,if_pos (by simp;omega)]
  have gn:(AA .u8 x)[4+n]?=some (.int .u8 (((x.drop 4).take 8).getD n 0)):=by
   rw[BA,List.getElem?_eq_getElem (by omega),List.getD_eq_getElem?_getD,List.getElem?_take,if_pos hn,List.getElem?_drop,List.getElem?_eq_getElem (by omega)]
   rfl
  refine⟨by rw[ew];omega,by rw[ew];omega,_,by rw[ew,Int.toNat_natCast,Nat.mul_one];exact hs.ld zs1 gn,by rw[AL (by omega)];omega,?_⟩
  rw[YL hn,AU (by omega)]
  exact hk () _ hs
 intro _ h2 hs
 apply hJ
 rw[AD,if_neg (by simp)]
 clear hJ J
 generalize C8 ((x.drop 4).take 8) 8=g at k ⊢
 intro J hJ
 have x1:=hb (x.getD 1 0) (by rw[List.getD_eq_getElem?_getD,List.getElem?_eq_getElem (by omega)];exact List.getElem_mem _)
 have g1:(AA .u8 x)[1]?=some (.int .u8 (x.getD 1 0)):=by rw[BA,List.getElem?_eq_getElem (by omega)];simp[List.getD,List.getElem?_eq_getElem (show 1<x.length by omega)]
 have ew1:IntKind.i64.wrap (x.getD 1 0)=x.getD 1 0:=by obtain⟨q1,q2⟩:=x1;rw[AL (by omega)]
 have hh:=pE g
 have hv:=YO (x.getD 1 0) g
 -- what is said where it is no head
 have rest:¬((DN g).2=0/\(DN g).1=x)->∀h3,Sat h0 (blk n2 [.int .i64 0,.int .i64 0,.int .i64 0]::blk n1 (AA .u8 x)::A) h3->J [] h3:=by
  intro nh h3 hs
  apply hJ
  refine⟨by decide,by decide,_,hs.ld zs1 g1,?_⟩
  rw[ew1]
  refine qL _ _ hs ?_
  intro h4 hs
  intro n3 _ hn;replace hs:=Sat.new hs hn
  generalize hV:C3 (x.getD 1 0) g=V at *
  refine⟨Sat.can hs (by repeat constructor) (by simp[hv]),?_⟩
  intro _ e;replace hs:=Sat.wra hs (by repeat constructor) e (by rw[A6,A6,hv];rfl);clear e;simp only[put]at hs
  have nhead:¬(x.getD 0 0=1/\x=E5 1 0 g)∨g<1∨A8<g:=by
   by_cases q1:g<1
   ·exact Or.inr (Or.inl q1)
   by_cases q2:A8<g
   ·exact Or.inr (Or.inr q2)
   refine Or.inl fun y=>nh ?_
   unfold DN
   rw[if_neg q1,if_neg q2]
   exact⟨rfl,y.2.symm⟩
  have tornk:¬(V.2=0/\V.1=x)->∀h',Sat h0 A h'->Q 3 0 0 h':=by
   intro nv h' hs'
   have:=k h' hs'
   by_cases q1:g<1
   ·rw[if_pos q1]at this;exact this
   rw[if_neg q1]at this
   by_cases q2:A8<g
   ·rw[if_pos q2]at this;exact this
   rw[if_neg q2]at this
   rw[if_neg (by rcases nhead with y | y | y;exact y;exact absurd y q1;exact absurd y q2)]at this
   rw[if_neg ?_]at this
   ·exact this
   ·rintro⟨y1,y2,y3⟩
    refine nv ?_
    rw[←hV]
    unfold C3
    obtain⟨q3,q4⟩:=x1
    rw[if_neg (by omega),if_neg (by omega),if_neg q1,if_neg q2]
    exact⟨rfl,y3.symm⟩
  by_cases c2:V.2=0
  case neg=>
   rw[if_neg (by simpa using c2)]
   replace tornk:=tornk fun y=>c2 y.1
   (refine⟨Sat.can hs (by repeat constructor) (by simp),?_⟩;intro _ e;replace hs:=Sat.wra hs (by repeat constructor) e (by simp[*]);clear e;simp only[put]at hs)
   refine⟨_,Sat.ld hs (by repeat constructor) (by rfl),?_⟩
   refine⟨_,Sat.ld hs (by repeat constructor) (by rfl),?_⟩
   refine⟨_,Sat.ld hs (by repeat constructor) (by rfl),?_⟩
   exact tornk _ hs.drop.drop.drop
  rw[if_pos (by simpa using c2)]
  refine⟨_,hv,hs.row0 (by repeat constructor),x,hx,hs.row0 zs2,?_⟩
  by_cases c3:V.1=x
  case neg=>
   rw[if_neg (by rw[beq_iff_eq];exact c3)]
   replace tornk:=tornk fun y=>c3 y.2
   (refine⟨Sat.can hs (by repeat constructor) (by simp),?_⟩;intro _ e;replace hs:=Sat.wra hs (by repeat constructor) e (by simp[*]);clear e;simp only[put]at hs)
   refine⟨_,Sat.ld hs (by repeat constructor) (by rfl),?_⟩
   refine⟨_,Sat.ld hs (by repeat constructor) (by rfl),?_⟩
   refine⟨_,Sat.ld hs (by repeat constructor) (by rfl),?_⟩
   exact tornk _ hs.drop.drop.drop
  rw[if_pos (by rw[beq_iff_eq];exact c3)]
  refine⟨by decide,by decide,_,hs.ld zs2 g1,?_⟩
  rw[ew1]
  have good:∀h',Sat h0 A h'->Q 2 (x.getD 1 0) g h':=by
   intro h' hs'
   have:=k h' hs'
   rw[←hV]at c2 c3
   unfold C3 at c2 c3
   obtain⟨q3,q4⟩:=x1
   rw[if_neg (by omega)]at c2 c3
   by_cases z1:8<x.getD 1 0
   ·rw[if_pos z1]at c2;simp at c2
   rw[if_neg z1]at c2 c3
   by_cases q1:g<1
   ·rw[if_pos q1]at c2;simp at c2
   rw[if_neg q1]at c2 c3 this
   by_cases q2:A8<g
   ·rw[if_pos q2]at c2;simp at c2
   rw[if_neg q2]at c2 c3 this
   rw[if_neg (by rcases nhead with y | y | y;exact y;exact absurd y q1;exact absurd y q2)]at this
   dsimp only at c3
   rw[if_pos ⟨by rw[←c3];exact yP _ _ _,by omega,c3.symm⟩]at this
   exact this
  clear c3
  (refine⟨Sat.can hs (by repeat constructor) (by simp),?_⟩;intro _ e;replace hs:=Sat.wra hs (by repeat constructor) e (by simp[*]);clear e;simp only[put]at hs)
  refine⟨_,Sat.ld hs (by repeat constructor) (by rfl),?_⟩
  refine⟨_,Sat.ld hs (by repeat constructor) (by rfl),?_⟩
  refine⟨_,Sat.ld hs (by repeat constructor) (by rfl),?_⟩
  exact good _ hs.drop.drop.drop
 refine zT g hs ?_
 intro h3 hs
 intro n3 _ hn;replace hs:=Sat.new hs hn
 generalize hV:DN g=V at *
 refine⟨Sat.can hs (by repeat constructor) (by simp[hh]),?_⟩
 intro _ e;replace hs:=Sat.wra hs (by repeat constructor) e (by rw[A6,A6,hh];rfl);clear e;simp only[put]at hs
 by_cases c2:V.2=0
 case neg=>
  rw[if_neg (by simpa using c2)]
  exact rest (fun y=>c2 y.1) _ hs.drop
 rw[if_pos (by simpa using c2)]
 refine⟨_,hh,hs.row0 (by repeat constructor),x,hx,hs.row0 zs2,?_⟩
 by_cases c3:V.1=x
 case neg=>
  rw[if_neg (by rw[beq_iff_eq];exact c3)]
  exact rest (fun y=>c3 y.2) _ hs.drop
 rw[if_pos (by rw[beq_iff_eq];exact c3)]
 have good:∀h',Sat h0 A h'->Q 1 0 g h':=by
  intro h' hs'
  have:=k h' hs'
  rw[←hV]at c2 c3
  unfold DN at c2 c3
  by_cases q1:g<1
  ·rw[if_pos q1]at c2;simp at c2
  rw[if_neg q1]at c2 c3 this
  by_cases q2:A8<g
  ·rw[if_pos q2]at c2;simp at c2
  rw[if_neg q2]at c2 c3 this
  dsimp only at c3
  rw[if_pos ⟨by rw[←c3];exact yP _ _ _,c3.symm⟩]at this
  exact this
 clear c3 rest
 (refine⟨Sat.can hs (by repeat constructor) (by simp),?_⟩;intro _ e;replace hs:=Sat.wra hs (by repeat constructor) e (by simp[*]);clear e;simp only[put]at hs)
 refine⟨_,Sat.ld hs (by repeat constructor) (by rfl),?_⟩
 refine⟨_,Sat.ld hs (by repeat constructor) (by rfl),?_⟩
 refine⟨_,Sat.ld hs (by repeat constructor) (by rfl),?_⟩
 exact good _ hs.drop.drop.drop
end
end Go.Proofs.YteedolonhdbieaaGreatDoor
end
section
namespace Go.Proofs.YteedolonhdbieaaGreatDoor
open Go Go.Vc
set_option maxRecDepth 100000
structure Inf where
 head:Int
 nums:List Int
 next:Int
 blank:Bool
 torn:Int
abbrev B8(a:Int)(l:List Int)(n:Int)(b:Bool)(t:Int):List Value:=.int .i64 a::(AA .i64 l++[.int .i64 n,.bool b,.int .i64 t])
abbrev B3(I:Inf):List Value:=B8 I.head I.nums I.next I.blank I.torn
def inf0:Inf:=⟨0,AB 9,0,false,0⟩
theorem K9{a n t:Int}{l:List Int}{b:Bool}(h:l.length=9):(B8 a l n b t)[10]?=some (.int .i64 n):=by
 have:(AA .i64 l).length=9:=by simpa using h
 simp[B8,this]
theorem N7{a n t:Int}{l:List Int}{b:Bool}(h:l.length=9):(B8 a l n b t)[11]?=some (.bool b):=by
 have:(AA .i64 l).length=9:=by simpa using h
 simp[B8,this]
theorem I8{a n t:Int}{l:List Int}{b:Bool}(h:l.length=9):(B8 a l n b t)[12]?=some (.int .i64 t):=by
 have:(AA .i64 l).length=9:=by simpa using h
 simp[B8,this]
theorem Z9{a n t:Int}{l:List Int}{b:Bool}(h:l.length=9){i:Nat}(hi:i<9):(B8 a l n b t)[1+i]?=some (.int .i64 (l.getD i 0)):=by
 have:(AA .i64 l).length=9:=by simpa using h
 rw[B8,Nat.add_comm,List.getElem?_cons_succ,List.getElem?_append_left (by omega),BA,List.getElem?_eq_getElem (by omega)]
 simp[List.getD,List.getElem?_eq_getElem (show i<l.length by omega)]
theorem N8{a n t:Int}{l:List Int}{b:Bool}(h:l.length=9):∀i,i<l.length->(B8 a l n b t)[1+i]?=l[i]?.map (Value.int .i64):=by
 intro i hi
 rw[Z9 h (by omega),List.getElem?_eq_getElem hi]
 simp[List.getD,List.getElem?_eq_getElem hi]
theorem DO{a n t:Int}{l:List Int}{b:Bool}(h:l.length=9):(B8 a l n b t).length=13:=by simp[B8,h]
theorem x5{a n t v:Int}{l:List Int}{b:Bool}:AR (B8 a l n b t) 0 [.int .i64 v]=B8 v l n b t:=rfl
theorem cD(l:List Value)(x y:List Value)(i:Nat)(v:Value):(l++x).set (l.length+i) v=l++x.set i v:=by
 rw[List.set_append_right _ _ (by omega),Nat.add_sub_cancel_left]
theorem x7{a n t v:Int}{l:List Int}{b:Bool}(h:l.length=9):AR (B8 a l n b t) 10 [.int .i64 v]=B8 a l v b t:=by
 have h9:(AA .i64 l).length=9:=by simpa using h
 show (B8 a l n b t).set 10 (.int .i64 v)=_
 unfold B8
 rw[List.set_cons_succ,show 9=(AA .i64 l).length+0 by omega,cD _ _ []]
 rfl
theorem x9{a n t:Int}{l:List Int}{b v:Bool}(h:l.length=9):AR (B8 a l n b t) 11 [.bool v]=B8 a l n v t:=by
 have h9:(AA .i64 l).length=9:=by simpa using h
 show (B8 a l n b t).set 11 (.bool v)=_
 unfold B8
 rw[List.set_cons_succ,show 10=(AA .i64 l).length+1 by omega,cD _ _ []]
 rfl
theorem yA{a n t v:Int}{l:List Int}{b:Bool}(h:l.length=9):AR (B8 a l n b t) 12 [.int .i64 v]=B8 a l n b v:=by
 have h9:(AA .i64 l).length=9:=by simpa using h
 show (B8 a l n b t).set 12 (.int .i64 v)=_
 unfold B8
 rw[List.set_cons_succ,show 11=(AA .i64 l).length+2 by omega,cD _ _ []]
 rfl
theorem pM{a n t v:Int}{l:List Int}{b:Bool}(h:l.length=9){i:Nat}(hi:i<9):AR (B8 a l n b t) (1+i) [.int .i64 v]=B8 a (l.set i v) n b t:=by
 have h9:(AA .i64 l).length=9:=by simpa using h
 show (B8 a l n b t).set (1+i) (.int .i64 v)=_
 unfold B8
 rw[Nat.add_comm,List.set_cons_succ,List.set_append_left _ _ (by omega),E4]
def FV(I:Inf)(n kind:Int):Inf:=if kind≠0 then { I with next:=IntKind.i64.wrap (n+1) } else I
def FQ(I:Inf)(n kind slot num:Int):Inf:=
 if kind=3 then { I with torn:=IntKind.i64.wrap (I.torn+1) }
 else if kind=1/\n=0 then { I with head:=num }
 else if kind=2/\0<n then { I with nums:=I.nums.set slot.toNat (if num > I.nums.getD slot.toNat 0 then num else I.nums.getD slot.toNat 0) }
 else I
def JA(I:Inf)(n kind slot num:Int):Inf:=FQ (FV I n kind) n kind slot num
theorem AmY(I:Inf)(n kind:Int):(FV I n kind).nums=I.nums:=by unfold FV;split <;> rfl
theorem AmA(I:Inf)(n kind slot num:Int):(FQ I n kind slot num).nums.length=I.nums.length:=by
 unfold FQ
 split
 ·rfl
 ·split
  ·rfl
  ·split
   ·simp
   ·rfl
theorem Am9(I:Inf)(n kind slot num:Int):(JA I n kind slot num).nums.length=I.nums.length:=by
 unfold JA;rw[AmA,AmY]
section
variable {h0 h:H} {A:List Ent} {i j p r b:Nat} {C:Cm}
theorem AmB{Q:HP}(I:Inf)(hl:I.nums.length=9)(hs:Sat h0 A h)(m:At A i (blk b (B3 I)))(n kind slot num:Int)(hslot:kind=2->0≤slot/\slot≤8)
  (k:∀h',Sat h0 (put A i (blk b (B3 (JA I n kind slot num)))) h'->Q h'):P7 ⟨b,0,none⟩ n kind slot num Q h:=by
 unfold P7 iJ
 try simp only[AF,Nat.zero_add,List.append_nil]
 intro n1 _ hn;replace hs:=Sat.new hs hn
 intro J hJ
 unfold JA at k
 -- behind the first if
 have main:∀(I:Inf),I.nums.length=9->(∀h',Sat h0 (put A i (blk b (B3 (FQ I n kind slot num)))) h'->Q h')->∀h2,Sat h0 (blk n1 [.int .i64 kind,.int .i64 slot,.int .i64 num]::put A i (blk b (B3 I))) h2->J [] h2:=by
  intro I hl k h2 hs
  unfold FQ at k
  have m2:=(m.put (blk b (B3 I))).s (x:=blk n1 [.int .i64 kind,.int .i64 slot,.int .i64 num])
  apply hJ
  refine⟨_,Sat.ld hs (by repeat constructor) (by rfl),?_⟩
  by_cases c1:kind=3
  ·rw[if_pos c1]at k
   rw[if_pos (by simpa using c1)]
   refine⟨_,hs.ld m2 (I8 hl),hs.can m2 (by rw[DO hl];decide),?_⟩
   intro h3 e
   replace hs:=hs.wr m2 e
   rw[yA hl]at hs
   refine k _ ?_
   have:=hs
   simp only[AS,CD]at this
   exact this.drop
  rw[if_neg c1]at k
  rw[if_neg (by simpa using c1)]
  intro J2 hJ2
  have two:∀bb:Bool,(bb=true↔kind=1/\n=0)->J2 [.dv (.one (.bool bb))] h2:=by
   intro bb c2
   apply hJ2
   by_cases c3:bb=true
   ·rw[if_pos c3]
    rw[if_pos (c2.1 c3)]at k
    refine⟨_,Sat.ld hs (by repeat constructor) (by rfl),?_⟩
    refine⟨hs.can m2 (by rw[DO hl];decide),?_⟩
    intro h3 e
    replace hs:=hs.wr m2 e
    rw[x5]at hs
    refine k _ ?_
    have:=hs
    simp only[AS,CD]at this
    exact this.drop
   rw[if_neg c3]
   rw[if_neg (fun y=>c3 (c2.2 y))]at k
   refine⟨_,Sat.ld hs (by repeat constructor) (by rfl),?_⟩
   by_cases c4:kind=2
   case neg=>
    rw[if_neg (fun y=>c4 y.1)]at k
    rw[if_neg (by rw[beq_iff_eq];exact c4)]
    exact k _ hs.drop
   rw[if_pos (by rw[beq_iff_eq];exact c4)]
   by_cases c5:0<n
   case neg=>
    rw[if_neg (fun y=>c5 y.2)]at k
    rw[AD,if_neg (by simpa using c5)]
    exact k _ hs.drop
   rw[if_pos ⟨c4,c5⟩]at k
   rw[AD,if_pos (by simpa using c5)]
   obtain⟨s1,s2⟩:=hslot c4
   refine⟨_,Sat.ld hs (by repeat constructor) (by rfl),?_⟩
   refine⟨_,Sat.ld hs (by repeat constructor) (by rfl),?_⟩
   refine⟨by omega,by omega,_,by rw[Nat.mul_one];exact hs.ld m2 (Z9 hl (by omega)),?_⟩
   refine⟨_,Sat.ld hs (by repeat constructor) (by rfl),?_⟩
   refine⟨by omega,by omega,by rw[Nat.mul_one];exact hs.can m2 (by rw[DO hl];omega),?_⟩
   intro h3 e
   rw[Nat.mul_one]at e
   replace hs:=hs.wr m2 e
   rw[pM hl (by omega)]at hs
   refine k _ ?_
   have:=hs
   simp only[AS,CD]at this
   exact this.drop
  refine⟨_,Sat.ld hs (by repeat constructor) (by rfl),?_⟩
  by_cases c2:kind=1
  ·rw[if_pos (by rw[beq_iff_eq];exact c2)]
   exact two _ (by rw[beq_iff_eq];exact⟨fun y=>⟨c2,y⟩,fun y=>y.2⟩)
  ·rw[if_neg (by rw[beq_iff_eq];exact c2)]
   exact two _ ⟨fun y=>by simp at y,fun y=>absurd y.1 c2⟩
 refine⟨_,Sat.ld hs (by repeat constructor) (by rfl),?_⟩
 by_cases c0:kind=0
 ·rw[if_neg (by simpa using c0)]
  have e:FV I n kind=I:=if_neg (by simpa using c0)
  rw[e]at k
  exact main I hl k _ (by rw[m.put_self];exact hs)
 ·rw[if_pos (by simpa using c0)]
  have e:FV I n kind={ I with next:=IntKind.i64.wrap (n+1) }:=if_pos (by simpa using c0)
  rw[e]at k
  refine⟨hs.can m.s (by rw[DO hl];decide),?_⟩
  intro h3 e
  replace hs:=hs.wr m.s e
  rw[x7 hl,AS]at hs
  exact main { I with next:=IntKind.i64.wrap (n+1) } hl k _ hs
theorem XW{q:Option Addr}{l k:Nat}{row:List Int}(rd:hsv h q 32 l (AA .u8 row))(hk:k<l):∃q',q=some q'/\(k+1)*32≤row.length/\hrow h (q'.add (k*32)) .u8 (AX row k):=by
 obtain⟨e1,e2,e3⟩:=rd
 have hl:row.length=l*32:=by simpa using e1
 have hk2:(k+1)*32≤row.length:=by omega
 rcases e3 with e3 | ⟨q',hq,g⟩
 ·have:row.length=0:=by have:=congrArg List.length e3;simpa using this
  omega
 ·refine⟨q',hq,hk2,?_⟩
  intro i v hv
  have hi:i<32:=by
   have:=(List.getElem?_eq_some_iff.1 hv).1
   rw[A6,FA hk2]at this;exact this
  rw[BA,oW _ _ _ hi]at hv
  have:(q'.add (k*32)).add i=q'.add (k*32+i):=by
   cases q' with | mk b o s=>unfold Addr.add;by_cases h1:k*32=0 <;> by_cases h2:i=0 <;> simp[h1,h2,Nat.add_assoc]
  rw[this]
  exact g _ _ (by rw[BA];exact hv)
def ofM(row:List Int):Nat->Inf
 | 0=>inf0
 | n+1=>JA (ofM row n) n (BZ (AX row n)).1 (BZ (AX row n)).2.1 (BZ (AX row n)).2.2
theorem OG(row:List Int)(n:Nat):(ofM row n).nums.length=9:=by
 induction n with
 | zero=>rfl
 | succ n ih=>unfold ofM;rw[Am9,ih]
theorem yR(I:Inf)(n kind slot num:Int):(FQ I n kind slot num).next=I.next:=by
 unfold FQ;(repeat' split) <;> rfl
theorem An6(row:List Int)(n:Nat)(hn:n<2^60):((ofM row n).next=0->ofM row n=inf0)/\(ofM row n).blank=false:=by
 induction n with
 | zero=>exact⟨fun _=>rfl,rfl⟩
 | succ n ih=>
  obtain⟨i1,i2⟩:=ih (by omega)
  unfold ofM JA
  generalize (BZ (AX row n)).1=kind
  generalize (BZ (AX row n)).2.1=slot
  generalize (BZ (AX row n)).2.2=num
  by_cases c:kind=0
  ·have e:FV (ofM row n) n kind=ofM row n:=if_neg (by simpa using c)
   rw[e,yR]
   have e2:FQ (ofM row n) n kind slot num=ofM row n:=by
    unfold FQ;rw[if_neg (by omega),if_neg (by omega),if_neg (by omega)]
   rw[e2]
   exact⟨i1,i2⟩
  ·have e:FV (ofM row n) n kind={ ofM row n with next:=IntKind.i64.wrap (n+1) }:=if_pos (by simpa using c)
   rw[e,yR]
   refine⟨fun x=>?_,?_⟩
   ·dsimp only at x
    rw[AL (by omega)]at x;omega
   ·unfold FQ;(repeat' split) <;> exact i2
theorem Aa5(x:List Int)(hb:A4 x)(h:(BZ x).1=2):0≤(BZ x).2.1/\(BZ x).2.1≤8:=by
 unfold BZ at *
 split
 ·rename_i c;rw[if_pos c]at h;simp at h
 ·rename_i c;rw[if_neg c]at h
  split
  ·rename_i c;rw[if_pos c]at h;simp at h
  ·rename_i c;rw[if_neg c]at h
   split
   ·rename_i c;rw[if_pos c]at h;simp at h
   ·rename_i c;rw[if_neg c]at h
    split
    ·rename_i c;rw[if_pos c]at h;simp at h
    ·rename_i c;rw[if_neg c]at h
     split
     ·rename_i c
      refine⟨?_,c.2.1⟩
      show 0≤x.getD 1 0
      rw[List.getD_eq_getElem?_getD]
      cases e:x[1]? with
      | none=>exact Int.le_refl _
      | some v=>exact (hb v (List.mem_iff_getElem?.2 ⟨1,e⟩)).1
     ·rename_i c;rw[if_neg c]at h;simp at h
def HV(row:List Int)(n:Nat):Inf:={ ofM row n with blank:=decide ((ofM row n).next=0) }
def FT(C:Cm)(page:Int):Inf×Int:=
 if AT C page C.s.pages.length≠0 then (inf0,AT C page C.s.pages.length) else (HV (C.s.pages.getD page.toNat []) C.cfg.cells.toNat,0)
theorem AeE{Q:Int->List Int->Int->Bool->Int->Int->HP}(hs:Sat h0 A h)(ci:At A i (AH p C))(page:Int)
  (k:∀h',Sat h0 A h'->Q (FT C page).1.head (FT C page).1.nums (FT C page).1.next (FT C page).1.blank (FT C page).1.torn (FT C page).2 h'):P8 ⟨p,0,none⟩ page Q h:=by
 unfold P8 iK
 try simp only[AF,Nat.zero_add,List.append_nil]
 have ok:=CG hs ci
 intro n1 _ hn;replace hs:=Sat.new hs hn
 intro n2 _ hn;replace hs:=Sat.new hs hn
 have z9:(AB 9).length=9:=rfl
 refine dK hs ci.s.s page ?_
 unfold FT at k
 by_cases e:AT C page C.s.pages.length=0
 case neg=>
  have ee:DS C page=(0,AT C page C.s.pages.length):=by unfold DS;rw[if_pos (by simpa using e)]
  rw[ee,if_pos (by simpa using e)]
  rw[if_pos (by simpa using e)]at k
  refine⟨_,Sat.ld hs (by repeat constructor) rfl,_,z9,Sat.row hs (by repeat constructor) (N8 z9),_,Sat.ld hs (by repeat constructor) (K9 z9),_,Sat.ld hs (by repeat constructor) (N7 z9),_,Sat.ld hs (by repeat constructor) (I8 z9),?_⟩
  (refine⟨Sat.can hs (by repeat constructor) (by decide),?_⟩;intro _ e;replace hs:=Sat.wra hs (by repeat constructor) e ((DO z9).trans rfl);clear e;simp only[put]at hs)
  refine⟨_,Sat.ld hs (by repeat constructor) rfl,_,z9,Sat.row hs (by repeat constructor) (N8 z9),_,Sat.ld hs (by repeat constructor) (K9 z9),_,Sat.ld hs (by repeat constructor) (N7 z9),_,Sat.ld hs (by repeat constructor) (I8 z9),?_⟩
  exact k _ hs.drop.drop
 have ee:DS C page=(C.s.erases.getD page.toNat 0,0):=by unfold DS;rw[if_neg (by simpa using e)]
 rw[ee,if_neg (by simp)]
 rw[if_neg (by simpa using e)]at k
 obtain⟨ho,p1,p2⟩:=CV e
 refine CE hs ci.s.s ?_
 intro h1 hs
 have hcells:=ok.may.cells
 have hj:page.toNat<C.s.pages.length:=by omega
 have erow:C.s.pages.getD page.toNat []=C.s.pages[page.toNat]:=by simp[List.getD,List.getElem?_eq_getElem hj]
 have hrl:=ok.fits.cells _ (List.getElem_mem hj)
 have hrb:=ok.typed.bytes _ (List.getElem_mem hj)
 rw[erow]at k
 generalize hrow:C.s.pages[page.toNat]=row at *
 have eread:∀n:Nat,n<C.cfg.cells.toNat->CK C page n=(AX row n,0):=by
  intro n hn
  have ec:CZ C page n=0:=by
   unfold CZ
   rw[EK ho p1 p2,if_neg (by simp),EK ho (by omega) (by omega)]
  unfold CK
  rw[ec,if_neg (by simp),erow,Int.toNat_natCast]
 intro J hJ
 refine BB C.cfg.cells.toNat (fun n h=>Sat h0 (blk n2 (B3 (ofM row n))::blk n1 (B3 inf0)::A) h) ?_ ?_ 0 _ (by omega) hs
 ·intro n h2 hn hs hk
  apply hJ
  rw[AD,if_pos (by simp;omega)]
  refine oA hs ci.s.s page n ?_
  intro h3 hs
  rw[eread n hn]
  have hcl:(AX row n).length=32:=FA (by omega)
  have hcb:A4 (AX row n):=fun v hv=>hrb v (XL hv)
  have hnl:=OG row n
  have hslot:=Aa5 (AX row n) hcb
  intro n3 _ hn3;replace hs:=Sat.new hs hn3;clear hn3
  refine⟨Sat.can hs (by repeat constructor) (by simp[hcl]),?_⟩
  intro _ e;replace hs:=Sat.wra hs (by repeat constructor) e (by rw[A6,A6,hcl];rfl);clear e;simp only[put]at hs
  rw[if_neg (by simp)]
  refine⟨_,hcl,hs.row0 .z,?_⟩
  refine Ai8 _ hcl hcb hs ?_
  intro h4 hs
  refine AmB (i:=1) (ofM row n) hnl hs zs1 n _ _ _ hslot ?_
  intro h5 hs
  rw[AU (by omega)]
  exact hk _ hs.drop
 ·intro h2 hs
  apply hJ
  rw[AD,if_neg (by simp;omega)]
  have hnl:=OG row C.cfg.cells.toNat
  have hbl:=An6 row C.cfg.cells.toNat (by omega)
  generalize hO:ofM row C.cfg.cells.toNat=O at *
  refine⟨_,Sat.ld hs (by repeat constructor) rfl,_,hnl,Sat.row hs (by repeat constructor) (N8 hnl),_,Sat.ld hs (by repeat constructor) (K9 hnl),_,Sat.ld hs (by repeat constructor) (N7 hnl),_,Sat.ld hs (by repeat constructor) (I8 hnl),?_⟩
  have ebl:(O.head == 0&&(O.nums == AB 9&&(O.next == 0&&(O.blank == false&&(O.torn == 0&&true)))))=decide (O.next=0):=by
   by_cases c:O.next=0
   ·rw[hbl.1 c];decide
   ·rw[decide_eq_false c]
    have:(O.next == 0)=false:=by simpa using c
    rw[this];simp
  rw[ebl]
  refine⟨hs.can .z (by rw[DO hnl];decide),?_⟩
  intro h3 e
  replace hs:=hs.wr .z e
  rw[x9 hnl,AG]at hs
  refine⟨_,Sat.ld hs (by repeat constructor) rfl,_,hnl,Sat.row hs (by repeat constructor) (N8 hnl),_,Sat.ld hs (by repeat constructor) (K9 hnl),_,Sat.ld hs (by repeat constructor) (N7 hnl),_,Sat.ld hs (by repeat constructor) (I8 hnl),?_⟩
  (refine⟨Sat.can hs (by repeat constructor) (by decide),?_⟩;intro _ e;replace hs:=Sat.wra hs (by repeat constructor) e ((DO hnl).trans rfl);clear e;simp only[put]at hs)
  refine⟨_,Sat.ld hs (by repeat constructor) rfl,_,hnl,Sat.row hs (by repeat constructor) (N8 hnl),_,Sat.ld hs (by repeat constructor) (K9 hnl),_,Sat.ld hs (by repeat constructor) (N7 hnl),_,Sat.ld hs (by repeat constructor) (I8 hnl),?_⟩
  unfold HV at k
  rw[hO]at k
  exact k _ hs.drop.drop
end
end Go.Proofs.YteedolonhdbieaaGreatDoor
/- Contracts of the document's pages;PageLooks. Own work. -/
set_option maxRecDepth 100000
namespace Go.Proofs.YteedolonhdbieaaGreatDoor
open Go Go.Vc
section
variable {h0 h:H} {A:List Ent} {i j p r b:Nat} {C:Cm}
theorem W8{Q:Int->List Int->Int->Bool->Int->HP}{q:Option Addr}{l c:Nat}{row:List Int}(hs:Sat h0 A h)(rd:∀h',Sat h0 A h'->hsv h' q 32 l (AA .u8 row))(hb:A4 row)(hl:l<2^60)
  (k:∀h',Sat h0 A h'->Q (HV row l).head (HV row l).nums (HV row l).next (HV row l).blank (HV row l).torn h'):F6 q l c Q h:=by
 unfold F6 kD
 try simp only[AF,Nat.zero_add,List.append_nil]
 intro n6 _ hn;replace hs:=Sat.new hs hn
 intro n9 _ hn;replace hs:=Sat.new hs hn
 have z9:(AB 9).length=9:=rfl
 (refine⟨Sat.can hs (by repeat constructor) (by decide),?_⟩;intro _ e;replace hs:=Sat.wra hs (by repeat constructor) e ((DO z9).trans rfl);clear e;simp only[put]at hs)
 intro J hJ
 refine BB l (fun n h=>Sat h0 (blk n9 (B3 (ofM row n))::blk n6 (B3 inf0)::A) h) ?_ ?_ 0 _ (by omega) hs
 ·intro n h1 hn hs hk
  apply hJ
  rw[AD,if_pos (by simp;omega)]
  obtain⟨q',hq,hk2,hr⟩:=XW (rd _ hs.drop.drop) hn
  have hcl:(AX row n).length=32:=FA hk2
  have hcb:A4 (AX row n):=fun v hv=>hb v (XL hv)
  have hnl:=OG row n
  have hslot:=Aa5 (AX row n) hcb
  refine⟨_,hq,by omega,by omega,_,hcl,by rw[Int.toNat_natCast];exact hr,?_⟩
  refine Ao3 _ hcl hcb hs ?_
  intro h2 hs
  replace hk:∀h',Sat h0 (blk n9 (B3 (JA (ofM row n) n (BZ (AX row n)).1 (BZ (AX row n)).2.1 (BZ (AX row n)).2.2))::blk n6 (B3 inf0)::A) h'->J [si (n+1)] h':=hk
  generalize (BZ (AX row n)).1=kind at *
  generalize (BZ (AX row n)).2.1=slot at *
  generalize (BZ (AX row n)).2.2=num at *
  generalize ofM row n=I at *
  rw[AU (by omega)]
  intro n23 _ hn23;replace hs:=Sat.new hs hn23;clear hn23
  (refine⟨Sat.can hs (by repeat constructor) (by simp),?_⟩;intro _ e;replace hs:=Sat.wr hs (by repeat constructor) e;clear e;simp only[put,AR,List.set]at hs)
  intro J2 hJ2
  have main:∀(I:Inf),I.nums.length=9->(∀h',Sat h0 (blk n9 (B3 (FQ I n kind slot num))::blk n6 (B3 inf0)::A) h'->J [si (n+1)] h')->
    ∀h2,Sat h0 (blk n23 [.int .i64 kind,.int .i64 slot,.int .i64 num]::blk n9 (B3 I)::blk n6 (B3 inf0)::A) h2->J2 [] h2:=by
   intro I hl k h2 hs
   unfold FQ at k
   apply hJ2
   refine⟨_,Sat.ld hs (by repeat constructor) (by rfl),?_⟩
   by_cases c1:kind=3
   ·rw[if_pos c1]at k
    rw[if_pos (by simpa using c1)]
    refine⟨_,hs.ld zs1 (I8 hl),hs.can zs1 (by rw[DO hl];decide),?_⟩
    intro h3 e
    replace hs:=hs.wr zs1 e
    rw[yA hl]at hs
    exact k _ hs.drop
   rw[if_neg c1]at k
   rw[if_neg (by simpa using c1)]
   intro J3 hJ3
   have two:∀bb:Bool,(bb=true↔kind=1/\(n:Int)=0)->J3 [.dv (.one (.bool bb))] h2:=by
    intro bb c2
    apply hJ3
    by_cases c3:bb=true
    ·rw[if_pos c3]
     rw[if_pos (c2.1 c3)]at k
     refine⟨_,Sat.ld hs (by repeat constructor) (by rfl),?_⟩
     refine⟨hs.can zs1 (by rw[DO hl];decide),?_⟩
     intro h3 e
     replace hs:=hs.wr zs1 e
     rw[x5]at hs
     exact k _ hs.drop
    rw[if_neg c3]
    rw[if_neg (fun y=>c3 (c2.2 y))]at k
    intro J4 hJ4
    have three:∀bb:Bool,(bb=true↔kind=2/\0<(n:Int))->J4 [.dv (.one (.bool bb))] h2:=by
     intro bb c4
     apply hJ4
     by_cases c5:bb=true
     ·rw[if_pos c5]
      rw[if_pos (c4.1 c5)]at k
      obtain⟨s1,s2⟩:=hslot (c4.1 c5).1
      refine⟨_,Sat.ld hs (by repeat constructor) (by rfl),?_⟩
      refine⟨_,Sat.ld hs (by repeat constructor) (by rfl),?_⟩
      refine⟨by omega,by omega,_,by rw[Nat.mul_one];exact hs.ld zs1 (Z9 hl (by omega)),?_⟩
      refine⟨_,Sat.ld hs (by repeat constructor) (by rfl),?_⟩
      refine⟨by omega,by omega,by rw[Nat.mul_one];exact hs.can zs1 (by rw[DO hl];omega),?_⟩
      intro h3 e
      rw[Nat.mul_one]at e
      replace hs:=hs.wr zs1 e
      rw[pM hl (by omega)]at hs
      exact k _ hs.drop
     ·rw[if_neg c5]
      rw[if_neg (fun y=>c5 (c4.2 y))]at k
      exact k _ hs.drop
    refine⟨_,Sat.ld hs (by repeat constructor) (by rfl),?_⟩
    by_cases c4:kind=2
    case neg=>
     rw[if_neg (by rw[beq_iff_eq];exact c4)]
     exact three _ ⟨fun y=>by simp at y,fun y=>absurd y.1 c4⟩
    rw[if_pos (by rw[beq_iff_eq];exact c4)]
    by_cases c5:0<(n:Int)
    case neg=>
     rw[AD,if_neg (by rw[decide_eq_true_eq];exact c5)]
     exact three _ ⟨fun y=>by simp at y,fun y=>absurd y.2 c5⟩
    rw[AD,if_pos (by rw[decide_eq_true_eq];exact c5)]
    obtain⟨s1,s2⟩:=hslot c4
    refine⟨_,Sat.ld hs (by repeat constructor) (by rfl),?_⟩
    rw[A0,if_pos (by rw[decide_eq_true_eq];exact s1)]
    refine⟨_,Sat.ld hs (by repeat constructor) (by rfl),?_⟩
    rw[A0]
    exact three _ ⟨fun y=>⟨c4,c5⟩,fun y=>by rw[decide_eq_true_eq];exact s2⟩
   refine⟨_,Sat.ld hs (by repeat constructor) (by rfl),?_⟩
   by_cases c2:kind=1
   ·rw[if_pos (by rw[beq_iff_eq];exact c2)]
    exact two _ (by rw[beq_iff_eq];exact⟨fun y=>⟨c2,y⟩,fun y=>y.2⟩)
   ·rw[if_neg (by rw[beq_iff_eq];exact c2)]
    exact two _ ⟨fun y=>by simp at y,fun y=>absurd y.1 c2⟩
  unfold JA at hk
  refine⟨_,Sat.ld hs (by repeat constructor) (by rfl),?_⟩
  by_cases c0:kind=0
  ·rw[if_neg (by simpa using c0)]
   have e:FV I n kind=I:=if_neg (by simpa using c0)
   rw[e]at hk
   exact main I hnl hk _ hs
  ·rw[if_pos (by simpa using c0)]
   have e:FV I n kind={ I with next:=IntKind.i64.wrap (n+1) }:=if_pos (by simpa using c0)
   rw[e]at hk
   refine⟨hs.can zs1 (by rw[DO hnl];decide),?_⟩
   intro h3 e
   replace hs:=hs.wr zs1 e
   rw[AU (by omega)]at hk
   rw[x7 hnl]at hs
   exact main { I with next:=((n+1:Nat):Int) } hnl hk _ hs
 ·intro h1 hs
  apply hJ
  rw[AD,if_neg (by simp)]
  have hnl:=OG row l
  unfold HV at k
  generalize hO:ofM row l=O at *
  refine⟨_,hs.ld .z (K9 hnl),?_⟩
  have ebl:(O.next == 0)=decide (O.next=0):=by
   by_cases c:O.next=0
   ·rw[c];decide
   ·rw[decide_eq_false c];simpa using c
  rw[ebl]
  refine⟨hs.can .z (by rw[DO hnl];decide),?_⟩
  intro h3 e
  replace hs:=hs.wr .z e
  rw[x9 hnl,AG]at hs
  refine⟨_,Sat.ld hs (by repeat constructor) rfl,_,hnl,Sat.row hs (by repeat constructor) (N8 hnl),_,Sat.ld hs (by repeat constructor) (K9 hnl),_,Sat.ld hs (by repeat constructor) (N7 hnl),_,Sat.ld hs (by repeat constructor) (I8 hnl),?_⟩
  (refine⟨Sat.can hs (by repeat constructor) (by decide),?_⟩;intro _ e;replace hs:=Sat.wra hs (by repeat constructor) e ((DO hnl).trans rfl);clear e;simp only[put]at hs)
  refine⟨_,Sat.ld hs (by repeat constructor) rfl,_,hnl,Sat.row hs (by repeat constructor) (N8 hnl),_,Sat.ld hs (by repeat constructor) (K9 hnl),_,Sat.ld hs (by repeat constructor) (N7 hnl),_,Sat.ld hs (by repeat constructor) (I8 hnl),?_⟩
  exact k _ hs.drop.drop
theorem qP(hs:Sat h0 A h)(cj:At A j (AK r C)):∃w:Pl,C.ok/\(∀o v,(C.cells w.a w.b w.c w.m)[o]?=some v->hc h ⟨r,o,none⟩=some v)/\RdM h 32 w.a C.s.pages:=by
 obtain⟨⟨w,ms⟩,⟨ok,_,_,_⟩,hs⟩:=(hs.front cj).open_
 dsimp only[EF,List.cons_append,List.nil_append]at hs
 exact⟨w,ok,fun o v e=>hs.ld .z e,hs.rdM zs1⟩
end
end Go.Proofs.YteedolonhdbieaaGreatDoor
end
section
namespace Go.Proofs.YteedolonhdbieaaGreatDoor
open Go Go.Vc
set_option maxRecDepth 100000
section
variable {h0 h:H} {A:List Ent} {i j p r b:Nat} {C:Cm}
theorem AmE(C:Cm)(page:Int):(FT C page).1.nums.length=9:=by
 unfold FT
 split
 ·rfl
 ·exact OG _ _
end
def AbA(a b:Int):Prop:=bits .or .u8 a b=b
theorem cJ{n:Nat}(f:Nat->Int){k:Nat}(h:k<n):(tab n f).getD k 0=f k:=by rw[List.getD_eq_getElem?_getD,IL,if_pos h];rfl
def cH(row:List Int)(l:Nat):Prop:=∀i,i<l->∀k,k<16->bits .or .u8 (row.getD (i*32+k) 0) (row.getD (i*32+(16+k)) 0)=255
instance (row:List Int) (l:Nat):Decidable (cH row l):=by unfold cH;infer_instance
theorem o6{x y:List Int}(h:x.length=y.length)(e:∀i,i<x.length->x.getD i 0=y.getD i 0):x=y:=by
 apply List.ext_getElem h
 intro i h1 h2
 have:=e i h1
 rw[List.getD_eq_getElem?_getD,List.getD_eq_getElem?_getD,List.getElem?_eq_getElem h1,List.getElem?_eq_getElem h2]at this
 exact this
theorem AjN(row:List Int)(k i:Nat)(hi:i<32):(AX row k).getD i 0=row.getD (k*32+i) 0:=by
 rw[List.getD_eq_getElem?_getD,oW row k i hi,List.getD_eq_getElem?_getD]
theorem AmM(g:Nat->Int->Int)(n:Nat)(ns:List Int)(j:Nat)(hj:j<ns.length)(hn:j<n):(BP g n ns).getD j 0=g j (ns.getD j 0):=by
 rw[List.getD_eq_getElem?_getD,JB,List.getElem?_eq_getElem hj]
 simp[hn,List.getD,List.getElem?_eq_getElem hj]
section
variable {h0 h:H} {A:List Ent} {i j p r b:Nat} {C:Cm}
end
structure Half (c:Cfg) (s:St) (pg:Nat) (row:List Int) (l:Nat) (D E:Cm):Prop where
 dc:D.cfg=c
 ec:E.cfg=c
 eo:E.out=false
 dp:D.s.pages.length=s.pages.length
 ep:E.s.pages.length=s.pages.length
 ds:cH (D.s.pages.getD pg []) l
 z:∃z,(z=row∨z=E.s.pages.getD pg [])/\(∀k,k<l->A4 (AX z k))/\
  ∀k,k<l->(BZ (AX (D.s.pages.getD pg []) k)).1=0∨(BZ (AX (D.s.pages.getD pg []) k)).1=3∨BZ (AX (D.s.pages.getD pg []) k)=BZ (AX z k)
section
variable {c:Cfg} {s:St} {C0:Cm} {pg:Int} {row:List Int} {l:Nat}
end
section
variable {h0 h:H} {A:List Ent} {i j p r b:Nat} {C:Cm}
end
def DR(c:Cfg):Int:=if c.may then c.area*c.cells*32 else 0
theorem Ab1{c:Cfg}(m:c.may):0≤c.area*c.cells/\c.area*c.cells≤16384:=by
 have h1:=m.area;have h2:=m.cells;have h3:=m.slots
 refine⟨Int.mul_nonneg (by omega) (by omega),?_⟩
 calc c.area*c.cells≤64*c.cells:=Int.mul_le_mul_of_nonneg_right (by omega) (by omega)
  _≤16384:=by omega
section
variable {h0 h:H} {A:List Ent} {i j p r b:Nat} {C:Cm}
theorem oF(c:Cfg){Q:Int->HP}(hs:Sat h0 A h)(k:∀h',Sat h0 A h'->Q (DR c) h'):IR c.cells c.slots c.fuses c.step c.keys c.erases c.area Q h:=by
 unfold IR dO
 try simp only[AF,Nat.zero_add]
 intro n1 _ hn;replace hs:=Sat.new hs hn
 refine⟨_,Sat.ld hs (by repeat constructor) (by rfl),?_⟩
 refine⟨_,Sat.ld hs (by repeat constructor) (by rfl),?_⟩
 refine⟨_,Sat.ld hs (by repeat constructor) (by rfl),?_⟩
 refine⟨_,Sat.ld hs (by repeat constructor) (by rfl),?_⟩
 refine⟨_,Sat.ld hs (by repeat constructor) (by rfl),?_⟩
 refine⟨_,Sat.ld hs (by repeat constructor) (by rfl),?_⟩
 refine⟨_,Sat.ld hs (by repeat constructor) (by rfl),?_⟩
 refine nF c hs ?_
 intro h1 hs
 unfold DR at k
 unfold Cfg.may?
 by_cases m:c.may
 ·rw[if_pos m]at k ⊢
  rw[if_neg (by simp)]
  refine⟨_,Sat.ld hs (by repeat constructor) (by rfl),?_⟩
  refine⟨_,Sat.ld hs (by repeat constructor) (by rfl),?_⟩
  obtain⟨z1,z2⟩:=Ab1 m
  rw[AL (n:=c.area*c.cells) (by omega),AL (by omega)]
  exact k _ hs.drop
 ·rw[if_neg m]at k ⊢
  rw[if_pos (by simp)]
  exact k _ hs.drop
theorem z5(c:Cfg){Q:Int->HP}(hs:Sat h0 A h)(k:∀h',Sat h0 A h'->Q (DR c) h'):KX c.cells c.slots c.fuses c.step c.keys c.erases c.area Q h:=by
 unfold KX lP
 try simp only[AF,Nat.zero_add]
 intro n1 _ hn;replace hs:=Sat.new hs hn
 refine⟨_,Sat.ld hs (by repeat constructor) (by rfl),?_⟩
 refine⟨_,Sat.ld hs (by repeat constructor) (by rfl),?_⟩
 refine⟨_,Sat.ld hs (by repeat constructor) (by rfl),?_⟩
 refine⟨_,Sat.ld hs (by repeat constructor) (by rfl),?_⟩
 refine⟨_,Sat.ld hs (by repeat constructor) (by rfl),?_⟩
 refine⟨_,Sat.ld hs (by repeat constructor) (by rfl),?_⟩
 refine⟨_,Sat.ld hs (by repeat constructor) (by rfl),?_⟩
 refine qJ c hs ?_
 intro h1 hs
 unfold DR at k
 unfold Cfg.may?
 by_cases m:c.may
 ·rw[if_pos m]at k ⊢
  rw[if_neg (by simp)]
  refine⟨_,Sat.ld hs (by repeat constructor) (by rfl),?_⟩
  refine⟨_,Sat.ld hs (by repeat constructor) (by rfl),?_⟩
  obtain⟨z1,z2⟩:=Ab1 m
  rw[AL (n:=c.area*c.cells) (by omega),AL (by omega)]
  exact k _ hs.drop
 ·rw[if_neg m]at k ⊢
  rw[if_pos (by simp)]
  exact k _ hs.drop
theorem uV{Q:Int->HP}(hs:Sat h0 A h)(ci:At A i (AH p C))(j:Int)(k:Q (AT C j 2) h):JL ⟨p,0,none⟩ j Q h:=by
 unfold JL dR
 refine RX hs ci ?_
 unfold AT at k
 rw[AD,AD]
 by_cases c1:C.out=true
 ·rw[if_pos c1]at k ⊢;exact k
 rw[if_neg c1]at k ⊢
 by_cases c2:j<0
 ·rw[if_pos c2]at k;rw[if_pos (by simpa using c2)];exact k
 rw[if_neg c2]at k
 rw[if_neg (by simpa using c2)]
 by_cases c3:2≤j
 ·rw[if_pos c3]at k;rw[if_pos (by simp;omega)];exact k
 ·rw[if_neg c3]at k;rw[if_neg (by simp;omega)];exact k
theorem AaH{Q:Int->HP}(hs:Sat h0 A h)(ci:At A i (AK p C))(j:Int)(k:Q (AT C j 2) h):KZ ⟨p,0,none⟩ j Q h:=by
 unfold KZ lV
 try simp only[AF,Nat.zero_add]
 obtain⟨w,ok,ld,_⟩:=GF hs ci
 refine⟨_,ld 11 _ rfl,?_⟩
 unfold AT at k
 by_cases c1:C.out=true
 ·rw[if_pos c1]at k ⊢;exact k
 rw[if_neg c1]at k ⊢
 by_cases c2:j=0
 ·rw[if_neg (by omega),if_neg (by omega)]at k
  rw[if_neg (by simpa using c2)];exact k
 rw[if_pos (by simpa using c2)]
 by_cases c3:j=1
 ·rw[if_neg (by omega),if_neg (by omega)]at k
  rw[if_neg (by simpa using c3)];exact k
 rw[if_pos (by simpa using c3)]
 by_cases c4:j<0
 ·rw[if_pos c4]at k;exact k
 ·rw[if_neg c4,if_pos (by omega)]at k;exact k
theorem oO{Q:Int->Int->HP}(hs:Sat h0 A h)(ci:At A i (AH p C))(ar:Int)(a1:0≤ar)(a2:ar<2)(k:∀h',Sat h0 A h'->Q (2+ar*C.cfg.area) (2+ar*C.cfg.area+C.cfg.area) h'):G1 ⟨p,0,none⟩ ar Q h:=by
 unfold G1 dV
 refine CE hs ci ?_
 intro h1 hs
 have hm:=(CG hs ci).may.area
 have e:(ar+1)*C.cfg.area=ar*C.cfg.area+C.cfg.area:=by rw[Int.add_mul,Int.one_mul]
 have z:0≤ar*C.cfg.area/\ar*C.cfg.area≤64:=by
  have:ar=0∨ar=1:=by omega
  rcases this with rfl | rfl <;> omega
 rw[AL (n:=ar+1) (by omega),e,AL (n:=ar*C.cfg.area) (by omega),AL (n:=ar*C.cfg.area+C.cfg.area) (by omega),AL (by omega),AL (by omega),←Int.add_assoc]
 exact k _ hs
theorem u7{Q:Int->Int->HP}(hs:Sat h0 A h)(ci:At A i (AH p C))(ar:Int)(a1:0≤ar)(a2:ar<2)(n:Nat)(hn:n<2^40)(k:∀h',Sat h0 A h'->Q (2+ar*C.cfg.area+((n / C.cfg.cells.toNat:Nat):Int)) ((n % C.cfg.cells.toNat:Nat):Int) h'):JN ⟨p,0,none⟩ ar n Q h:=by
 unfold JN dW
 refine oO hs ci ar a1 a2 ?_
 intro h1 hs
 refine CE hs ci ?_
 intro h2 hs
 have hm:=(CG hs ci).may.area
 have hc:=(CG hs ci).may.cells
 have hsl:=(CG hs ci).may.slots
 have z:0≤ar*C.cfg.area/\ar*C.cfg.area≤64:=by
  have:ar=0∨ar=1:=by omega
  rcases this with rfl | rfl <;> omega
 have ec:(C.cfg.cells.toNat:Int)=C.cfg.cells:=by omega
 have e1:(n:Int).tdiv C.cfg.cells=((n / C.cfg.cells.toNat:Nat):Int):=by
  rw[Int.tdiv_eq_ediv_of_nonneg (by omega),←ec];rfl
 have e2:(n:Int).tmod C.cfg.cells=((n % C.cfg.cells.toNat:Nat):Int):=by
  rw[Int.tmod_eq_emod_of_nonneg (by omega),←ec];rfl
 have hd:n / C.cfg.cells.toNat≤n:=Nat.div_le_self _ _
 rw[e1,e2]
 clear e1 e2
 generalize n / C.cfg.cells.toNat=dd at *
 generalize n % C.cfg.cells.toNat=mm at *
 rw[AL (n:=(dd:Int)) (by omega),AL (by omega)]
 exact⟨by omega,by omega,k _ hs⟩
theorem uW{Q:List Int->HP}(hs:Sat h0 A h)(k:∀h',Sat h0 A h'->Q ffs h'):JM Q h:=by
 unfold JM dS
 try simp only[AF,Nat.zero_add,List.append_nil]
 intro n1 _ hn;replace hs:=Sat.new hs hn
 intro n2 _ hn;replace hs:=Sat.new hs hn
 rw[WL]at hs
 intro J hJ
 replace hs:=Sat.tab_to (g:=fun i=>if i<0 then 255 else 0) hs fun i hi=>(if_neg (by omega)).symm
 refine BB 32 (fun n h=>Sat h0 (blk n2 (AA .u8 (tab 32 fun i=>if i<n then 255 else 0))::blk n1 (AA .u8 (tab 32 fun _=>0))::A) h) ?_ ?_ 0 _ (by omega) hs
 ·intro n h1 hn hs hk
  apply hJ
  rw[AD,if_pos (by simp;omega)]
  refine⟨by omega,by omega,?_⟩
  rw[Int.toNat_natCast,Nat.mul_one]
  refine⟨hs.can .z (by simp;omega),?_⟩
  intro h2 e
  replace hs:=hs.wr .z e
  rw[AG,I9]at hs
  rw[AU (by omega)]
  refine hk _ (Sat.tab_to hs fun i hi=>?_)
  by_cases e:i=n
  ·rw[if_pos e,if_pos (by omega)]
  ·rw[if_neg e]
   by_cases e2:i<n
   ·rw[if_pos e2,if_pos (by omega)]
   ·rw[if_neg e2,if_neg (by omega)]
 ·intro h1 hs
  apply hJ
  rw[AD,if_neg (by simp)]
  replace hs:=Sat.tab_to (g:=fun _=>255) hs fun i hi=>if_pos hi
  refine⟨ffs,rfl,hs.row0 .z,?_⟩
  have hll:ffs.length=32:=rfl
  (refine⟨Sat.can hs (by repeat constructor) (by simp),?_⟩;intro _ e;replace hs:=Sat.wra hs (by repeat constructor) e (by simp[*]);clear e;simp only[put]at hs)
  refine⟨_,hll,hs.row0 (by repeat constructor),?_⟩
  exact k _ hs.drop.drop
def OU(C:Cm)(page:Int)(l:Nat):Prop:=∃n,n<l/\(CK C page n).2=0/\(CK C page n).1≠ffs
instance (C:Cm) (page:Int) (l:Nat):Decidable (OU C page l):=by unfold OU;infer_instance
def DI(C:Cm)(page:Int):Bool:=decide (OU C page C.cfg.cells.toNat)
theorem qO(ok:C.ok)(page cell:Int):(CK C page cell).1.length=32:=by
 unfold CK
 split
 ·rfl
 ·rename_i e
  obtain⟨_,_,_,_,_,hj,_,hk⟩:=ZJ ok (by simpa using e)
  have:C.s.pages.getD page.toNat []=C.s.pages[page.toNat]:=by simp[List.getD,List.getElem?_eq_getElem hj]
  rw[this]
  exact FA hk
theorem AbN{Q:Bool->HP}(hs:Sat h0 A h)(ci:At A i (AH p C))(page:Int)(k:∀h',Sat h0 A h'->Q (DI C page) h'):JO ⟨p,0,none⟩ page Q h:=by
 unfold JO dX
 try simp only[AF,Nat.zero_add,List.append_nil]
 refine CE hs ci ?_
 intro h1 hs
 have ok:=CG hs ci
 have hc:=ok.may.cells
 have hsl:=ok.may.slots
 intro J hJ
 refine BB C.cfg.cells.toNat (fun n h=>Sat h0 A h/\¬OU C page n) ?_ ?_ 0 _ (by omega) ⟨hs,fun⟨n,hn,_⟩=>by omega⟩
 ·rintro n h2 hn ⟨hs,hu⟩ hk
  apply hJ
  rw[AD,if_pos (by simp;omega)]
  have hl:=qO ok page n
  refine oA hs ci page n ?_
  intro h3 hs
  intro n2 _ hn2;replace hs:=Sat.new hs hn2;clear hn2
  refine⟨Sat.can hs (by repeat constructor) (by simp[hl]),?_⟩
  intro _ e;replace hs:=Sat.wra hs (by repeat constructor) e (by rw[A6,A6,hl];rfl);clear e;simp only[put]at hs
  have next:¬((CK C page n).2=0/\(CK C page n).1≠ffs)->¬OU C page (n+1):=by
   rintro hnn ⟨m,hm,e1,e2⟩
   by_cases e:m=n
   ·subst e;exact hnn ⟨e1,e2⟩
   ·exact hu ⟨m,by omega,e1,e2⟩
  by_cases c1:(CK C page n).2=0
  case neg=>
   rw[if_neg (by rw[beq_iff_eq];exact c1),AU (by omega)]
   exact hk _ ⟨hs.drop,next fun y=>c1 y.1⟩
  rw[if_pos (by rw[beq_iff_eq];exact c1)]
  refine⟨_,hl,hs.row0 .z,?_⟩
  refine uW hs ?_
  intro h4 hs
  refine⟨Sat.whole hs .z,?_⟩
  by_cases c2:(CK C page n).1=ffs
  ·rw[if_neg (by rw[c2];simp),AU (by omega)]
   exact hk _ ⟨hs.drop,next fun y=>y.2 c2⟩
  ·rw[if_pos (by simpa using c2)]
   have:=k _ hs.drop
   unfold DI at this
   rw[decide_eq_true ⟨n,hn,c1,c2⟩]at this
   exact this
 ·rintro h2 ⟨hs,hu⟩
  apply hJ
  rw[AD,if_neg (by simp;omega)]
  have:=k _ hs
  unfold DI at this
  rw[decide_eq_false hu]at this
  exact this
def OV(C:Cm)(ar:Int)(l:Nat):Prop:=∃n:Nat,n<l/\(DS C (2+ar*C.cfg.area+n)).2=0/\C.cfg.erases≤(DS C (2+ar*C.cfg.area+n)).1/\DI C (2+ar*C.cfg.area+n)=true
instance (C:Cm) (ar:Int) (l:Nat):Decidable (OV C ar l):=by unfold OV;infer_instance
def C4(C:Cm)(ar:Int):Bool×Int:=if AT C ar 2≠0 then (false,AT C ar 2) else (decide (OV C ar C.cfg.area.toNat),0)
theorem uU{Q:Bool->Int->HP}(hs:Sat h0 A h)(ci:At A i (AH p C))(ar:Int)(k:∀h',Sat h0 A h'->Q (C4 C ar).1 (C4 C ar).2 h'):NG ⟨p,0,none⟩ ar Q h:=by
 unfold NG dP
 refine uV hs ci ar ?_
 unfold C4 at k
 by_cases e:AT C ar 2=0
 case neg=>
  rw[if_pos (by simpa using e)]at k ⊢
  exact k _ hs
 rw[if_neg (by simpa using e)]at k ⊢
 obtain⟨ho,a1,a2⟩:=CV e
 refine oO hs ci ar a1 a2 ?_
 intro h1 hs
 have ok:=CG hs ci
 have hm:=ok.may.area
 have z:0≤ar*C.cfg.area/\ar*C.cfg.area≤64:=by
  have:ar=0∨ar=1:=by omega
  rcases this with rfl | rfl <;> omega
 intro J hJ
 have key:=DE (J:=J) C.cfg.area.toNat (fun n (_:Unit)=>[.dv (.one (.int .i64 (2+ar*C.cfg.area+(n:Int))))]) (fun n _ h=>Sat h0 A h/\¬OV C ar n) ?_ ?_ 0 () _ (by omega) ⟨hs,fun⟨n,hn,_⟩=>by omega⟩
 ·simpa using key
 ·rintro n _ h2 hn ⟨hs,hu⟩ hk
  apply hJ
  rw[AD,if_pos (by simp;omega)]
  have ew:IntKind.i64.wrap (2+ar*C.cfg.area+(n:Int)+1)=2+ar*C.cfg.area+((n+1:Nat):Int):=by rw[AL (by omega)];omega
  rw[ew]
  have next:¬((DS C (2+ar*C.cfg.area+n)).2=0/\C.cfg.erases≤(DS C (2+ar*C.cfg.area+n)).1/\DI C (2+ar*C.cfg.area+n)=true)->¬OV C ar (n+1):=by
   rintro hnn ⟨m,hm,e1,e2⟩
   by_cases e:m=n
   ·subst e;exact hnn ⟨e1,e2⟩
   ·exact hu ⟨m,by omega,e1,e2⟩
  refine dK hs ci _ ?_
  by_cases c1:(DS C (2+ar*C.cfg.area+n)).2=0
  case neg=>
   rw[if_neg (by rw[beq_iff_eq];exact c1)]
   exact hk () _ ⟨hs,next fun y=>c1 y.1⟩
  rw[if_pos (by rw[beq_iff_eq];exact c1)]
  refine CE hs ci ?_
  intro h3 hs
  by_cases c2:C.cfg.erases≤(DS C (2+ar*C.cfg.area+n)).1
  case neg=>
   rw[A0,if_neg (by rw[decide_eq_true_eq];exact c2)]
   exact hk () _ ⟨hs,next fun y=>c2 y.2.1⟩
  rw[A0,if_pos (by rw[decide_eq_true_eq];exact c2)]
  refine AbN hs ci _ ?_
  intro h4 hs
  by_cases c3:DI C (2+ar*C.cfg.area+n)=true
  ·rw[if_pos c3]
   have:=k _ hs
   rw[decide_eq_true ⟨n,hn,c1,c2,c3⟩]at this
   exact this
  ·rw[if_neg c3]
   exact hk () _ ⟨hs,next fun y=>c3 y.2.2⟩
 ·rintro _ h2 ⟨hs,hu⟩
  apply hJ
  rw[AD,if_neg (by simp;omega)]
  have:=k _ hs
  rw[decide_eq_false hu]at this
  exact this
end
end Go.Proofs.YteedolonhdbieaaGreatDoor
end
