/- LoaderDoes and its parts, laid together by a program of ours: Ar2 Ar3 Ar4 Ar5 Ar6 Ar8 Lg1 Ly1 Lg2 Ly2 Ar9 Lw1 Lw2 Lw3 -/
import Derived.Test.YteedolonhdbieaaGreatDoorK14
set_option autoImplicit false
set_option linter.all false
section
namespace Go.Proofs.YteedolonhdbieaaGreatDoor
open Go Go.Vc
set_option maxRecDepth 100000
def I3(row:List Int)(l:Nat):Prop:=∀n,n<l->AX row n=ffs
instance (row:List Int) (l:Nat):Decidable (I3 row l):=by unfold I3;infer_instance
theorem vP:B9=ffs:=by decide
section
variable {h0 h:H} {A:List Ent} {i j p r b:Nat} {C:Cm}
theorem AoE{Q:Bool->HP}{q:Option Addr}{l c:Nat}{row:List Int}(hs:Sat h0 A h)(rd:∀h',Sat h0 A h'->hsv h' q 32 l (AA .u8 row))(hl:l<2^60)(k:∀h',Sat h0 A h'->Q (decide (I3 row l)) h'):I2 q l c Q h:=by
 unfold I2 lT
 simp only[List.append_nil]
 intro J hJ
 refine BB l (fun n h=>Sat h0 A h/\I3 row n) ?_ ?_ 0 _ (by omega) ⟨hs,fun i hi=>by omega⟩
 ·rintro n h1 hn ⟨hs,hm⟩ hk
  apply hJ
  rw[AD,if_pos (by simp;omega)]
  obtain⟨q',hq,hk2,hr⟩:=XW (rd _ hs) hn
  refine⟨_,hq,by omega,by omega,_,FA hk2,by rw[Int.toNat_natCast];exact hr,?_⟩
  refine qH hs ?_
  intro h2 hs
  obtain⟨q2,hq2,_,hr2⟩:=XW (rd _ hs) hn
  rw[hq]at hq2
  injection hq2 with hq2
  subst hq2
  refine⟨by rw[Int.toNat_natCast];exact hr2,?_⟩
  rw[vP]
  by_cases c:AX row n=ffs
  ·rw[if_neg (by rw[c];simp),AU (by omega)]
   refine hk _ ⟨hs,fun m hm2=>?_⟩
   by_cases e:m=n
   ·rw[e];exact c
   ·exact hm m (by omega)
  ·rw[if_pos (by simpa using c)]
   have:=k _ hs
   rw[decide_eq_false (fun y=>c (y n hn))]at this
   exact this
 ·rintro h1 ⟨hs,hm⟩
  apply hJ
  rw[AD,if_neg (by simp)]
  have:=k _ hs
  rw[decide_eq_true hm]at this
  exact this
theorem HX(hs:Sat h0 A h)(cj:At A j (AK r C)):∃w:Pl,C.ok/\(∀o v,(C.cells w.a w.b w.c w.m)[o]?=some v->hc h ⟨r,o,none⟩=some v)/\RdM h 32 w.a C.s.pages/\hsv h w.b.1 1 w.b.2.1 (AA .i64 C.s.erases):=by
 obtain⟨⟨w,ms⟩,⟨ok,_,_,_⟩,hs⟩:=(hs.front cj).open_
 dsimp only[EF,List.cons_append,List.nil_append]at hs
 exact⟨w,ok,fun o v e=>hs.ld .z e,hs.rdM zs1,hs.sv zs2⟩
theorem AqJ(ok:C.ok)(ho:C.out=false){page:Int}(p1:0≤page)(p2:page<C.s.pages.length):DI C page=!decide (I3 (C.s.pages.getD page.toNat []) C.cfg.cells.toNat):=by
 have hc:=ok.may.cells
 have hsl:=ok.may.slots
 have er:∀n:Nat,n<C.cfg.cells.toNat->CK C page n=(AX (C.s.pages.getD page.toNat []) n,0):=by
  intro n hn
  have ec:CZ C page n=0:=by
   unfold CZ
   rw[EK ho p1 p2,if_neg (by simp),EK ho (by omega) (by omega)]
  unfold CK
  rw[ec,if_neg (by simp),Int.toNat_natCast]
 unfold DI
 by_cases e:I3 (C.s.pages.getD page.toNat []) C.cfg.cells.toNat
 ·rw[decide_eq_true e,decide_eq_false]
  ·rfl
  ·rintro⟨n,hn,_,e2⟩
   rw[er n hn]at e2
   exact e2 (e n hn)
 ·rw[decide_eq_false e]
  have:OU C page C.cfg.cells.toNat:=by
   apply Classical.byContradiction
   intro hn
   refine e fun n hn2=>?_
   apply Classical.byContradiction
   intro hn3
   exact hn ⟨n,hn2,by rw[er n hn2],by rw[er n hn2];exact hn3⟩
  rw[decide_eq_true this];rfl
theorem AaL{Q:Bool->HP}(hs:Sat h0 A h)(ci:At A i (AK p C))(ho:C.out=false){page:Int}(p1:0≤page)(p2:page<C.s.pages.length)(k:∀h',Sat h0 A h'->Q (!DI C page) h'):
  ∃o n m,hc h ⟨p,7,none⟩=some (.slice o n m)/\∃q,o=some q/\0≤page/\page<(n:Int)/\∃o2 n2 m2,hc h (q.add (page.toNat*1))=some (.slice o2 n2 m2)/\I2 o2 n2 m2 Q h:=by
 obtain⟨w,ok,ld,rdp,_⟩:=HX hs ci
 have hc:=ok.may.cells
 have hsl:=ok.may.slots
 have hj:page.toNat<C.s.pages.length:=by omega
 have hplen:=rdp.len
 obtain⟨q,x,hq,hx,hrow⟩:=rdp.at hj
 have hrl:=ok.fits.cells _ (List.getElem_mem hj)
 have exl:x.2.1=C.cfg.cells.toNat:=by
  have:=hrow.1
  rw[A6]at this;omega
 refine⟨_,_,_,ld 7 _ rfl,_,hq,p1,by omega,_,_,_,hx,?_⟩
 refine AoE (A:=[]) (Sat.init _) (fun h' hs'=>EC hs'.ex hrow (fun _ _ y=>y)) (by omega) ?_
 intro h2 hs2
 have:=k _ (hs.ext hs2.ex)
 rw[AqJ ok ho p1 p2,Bool.not_not]at this
 have er:C.s.pages.getD page.toNat []=C.s.pages[page.toNat]:=by simp[List.getD,List.getElem?_eq_getElem hj]
 rw[er]at this
 rw[exl]
 exact this
theorem z8{Q:Bool->Int->HP}(hs:Sat h0 A h)(ci:At A i (AK p C))(ar:Int)(k:∀h',Sat h0 A h'->Q (C4 C ar).1 (C4 C ar).2 h'):KY ⟨p,0,none⟩ ar Q h:=by
 unfold KY lQ
 try simp only[AF,Nat.zero_add]
 refine AaH hs ci ar ?_
 unfold C4 at k
 by_cases e:AT C ar 2=0
 case neg=>
  rw[if_pos (by simpa using e)]at k ⊢
  exact k _ hs
 rw[if_neg (by simpa using e)]at k ⊢
 obtain⟨ho,a1,a2⟩:=CV e
 obtain⟨_,ok,_⟩:=HX hs ci
 have hm:=ok.may.area
 have hpg:=ok.fits.pages
 have her:=ok.fits.erases
 have hnp:C.cfg.np=2+2*C.cfg.area:=rfl
 have z:0≤ar*C.cfg.area/\ar*C.cfg.area≤C.cfg.area/\C.cfg.area≤64:=by
  have:ar=0∨ar=1:=by omega
  rcases this with rfl | rfl <;> omega
 intro J hJ
 refine DE C.cfg.area.toNat (fun n (_:Unit)=>[.dv (.one (.int .i64 (n:Int)))]) (fun n _ h=>Sat h0 A h/\¬OV C ar n) ?_ ?_ 0 () _ (by omega) ⟨hs,fun⟨n,hn,_⟩=>by omega⟩
 ·rintro n _ h2 hn ⟨hs,hu⟩ hk
  apply hJ
  obtain⟨w,_,ld,_⟩:=HX hs ci
  refine⟨_,ld 6 _ rfl,?_⟩
  rw[AD,if_pos (by simp;omega)]
  refine⟨_,ld 6 _ rfl,?_⟩
  have ew:IntKind.i64.wrap (IntKind.i64.wrap (2+IntKind.i64.wrap (ar*C.cfg.area))+(n:Int))=2+ar*C.cfg.area+n:=by
   rw[AL (n:=ar*C.cfg.area) (by omega),AL (n:=2+ar*C.cfg.area) (by omega),AL (by omega)]
  rw[ew]
  have p1:0≤2+ar*C.cfg.area+(n:Int):=by omega
  have p2:2+ar*C.cfg.area+(n:Int)<C.s.pages.length:=by omega
  have next:¬((DS C (2+ar*C.cfg.area+n)).2=0/\C.cfg.erases≤(DS C (2+ar*C.cfg.area+n)).1/\DI C (2+ar*C.cfg.area+n)=true)->¬OV C ar (n+1):=by
   rintro hnn ⟨m,hm,e1,e2⟩
   by_cases e:m=n
   ·subst e;exact hnn ⟨e1,e2⟩
   ·exact hu ⟨m,by omega,e1,e2⟩
  have ee:DS C (2+ar*C.cfg.area+n)=(C.s.erases.getD (2+ar*C.cfg.area+(n:Int)).toNat 0,0):=by unfold DS;rw[EK ho p1 p2,if_neg (by simp)]
  rw[ee]at next
  refine AaL hs ci ho p1 p2 ?_
  intro h3 hs
  rw[AU (by omega)]
  by_cases c3:DI C (2+ar*C.cfg.area+n)=true
  case neg=>
   rw[if_neg (by simpa using c3)]
   exact hk () _ ⟨hs,next fun y=>c3 y.2.2⟩
  rw[if_pos (by simpa using c3)]
  obtain⟨w,_,ld,_,rde⟩:=HX hs ci
  have hel:C.s.erases.length=w.b.2.1:=by have:=rde.1;simpa using this
  have hje:(2+ar*C.cfg.area+(n:Int)).toNat<w.b.2.1:=by omega
  obtain⟨q,hq,g⟩:=CI rde hje
  refine⟨_,_,_,ld 8 _ rfl,_,hq,p1,by omega,_,by rw[Nat.mul_one];exact g,_,ld 5 _ rfl,?_⟩
  by_cases c2:C.cfg.erases≤C.s.erases.getD (2+ar*C.cfg.area+(n:Int)).toNat 0
  ·rw[A0,if_pos (by rw[decide_eq_true_eq];exact c2)]
   have:=k _ hs
   rw[decide_eq_true ⟨n,hn,by rw[ee],by rw[ee];exact c2,c3⟩]at this
   exact this
  ·rw[A0,if_neg (by rw[decide_eq_true_eq];exact c2)]
   exact hk () _ ⟨hs,next fun y=>c2 y.2.1⟩
 ·rintro _ h2 ⟨hs,hu⟩
  apply hJ
  obtain⟨w,_,ld,_⟩:=HX hs ci
  refine⟨_,ld 6 _ rfl,?_⟩
  rw[AD,if_neg (by simp;omega)]
  have:=k _ hs
  rw[decide_eq_false hu]at this
  exact this
end
def EM(bs:List Int)(n:Nat):List Int:=tab 32 fun k=>if n*32+k<bs.length then bs.getD (n*32+k) 0 else 255
theorem ZP(bs:List Int)(n:Nat):(EM bs n).length=32:=rfl
section
variable {h0 h:H} {A:List Ent} {i j p r b:Nat} {C:Cm}
theorem oI(q:Addr)(a b:Nat):(q.add a).add b=q.add (a+b):=by
 cases q with | mk b' o s=>unfold Addr.add;by_cases h1:a=0 <;> by_cases h2:b=0 <;> simp[h1,h2,Nat.add_assoc]
theorem AkR{Q:List Int->HP}{q:Option Addr}{l c:Nat}{bs:List Int}(n:Nat)(hs:Sat h0 A h)(rd:∀h',Sat h0 A h'->hsv h' q 1 l (AA .u8 bs))(hl:l<2^60)(hlc:l≤c)(hn:n*32<l)
  (k:∀h',Sat h0 A h'->Q (EM bs n) h'):OY q l c n Q h:=by
 unfold OY dU
 simp only[List.append_nil]
 intro n1 _ hn1;replace hs:=Sat.new hs hn1;clear hn1
 have ew:IntKind.i64.wrap ((n:Int)*32)=((n*32:Nat):Int):=by rw[AL (by omega)];omega
 rw[ew]
 simp only[Int.toNat_natCast]
 have hbl:bs.length=l:=by have:=(rd _ hs.drop).1;simpa using this
 obtain⟨q',hq,_⟩:=CI (rd _ hs.drop) (x:=0) (by omega)
 subst hq
 have e1:AJ (some q') (n*32) c 1=some (q'.add (n*32)):=by
  unfold AJ
  rw[if_neg (by omega),Nat.mul_one];rfl
 have hcs:∀h',Sat h0 A h'->∀x,x<l->hc h' (q'.add x)=some (.int .u8 (bs.getD x 0)):=by
  intro h' hs' x hx
  obtain⟨q2,hq2,g⟩:=CI (rd _ hs') hx
  injection hq2 with hq2
  subst hq2
  exact g
 refine⟨by omega,by omega,?_⟩
 rw[e1]
 have hll:=ZP bs n
 by_cases c1:32≤l-n*32
 ·rw[A0,if_pos (by simp;omega)]
  have e2:AJ (some (q'.add (n*32))) 0 (c-n*32) 1=some (q'.add (n*32)):=by
   unfold AJ
   rw[if_neg (by omega)]
   simp only[Option.map_some,oI,Nat.zero_mul,Nat.add_zero]
  rw[e2]
  refine⟨by decide,by omega,_,rfl,Nat.le_refl _,EM bs n,hll,?_,?_⟩
  ·intro x v hv
   have hx:x<32:=by
    have:=(List.getElem?_eq_some_iff.1 hv).1
    rw[A6,hll]at this;exact this
   rw[BA]at hv
   unfold EM at hv
   rw[IL,if_pos hx]at hv
   rw[if_pos (by omega)]at hv
   simp only[Option.map_some,Option.some.injEq]at hv
   rw[←hv,oI]
   exact hcs _ hs.drop _ (by omega)
  ·(refine⟨Sat.can hs (by repeat constructor) (by simp),?_⟩;intro _ e;replace hs:=Sat.wra hs (by repeat constructor) e (by simp[*]);clear e;simp only[put]at hs)
   refine⟨_,hll,hs.row0 (by repeat constructor),?_⟩
   exact k _ hs.drop
 ·rw[A0,if_neg (by simp;omega)]
  refine uW hs ?_
  intro h2 hs
  intro n2 _ hn2;replace hs:=Sat.new hs hn2;clear hn2
  have hf:ffs.length=32:=rfl
  (refine⟨Sat.can hs (by repeat constructor) (by simp),?_⟩;intro _ e;replace hs:=Sat.wra hs (by repeat constructor) e (by simp[*]);clear e;simp only[put]at hs)
  have em:(l-n*32).min 32=l-n*32:=Nat.min_eq_left (by omega)
  rw[em]
  have e3:AJ (some ⟨n2,0,none⟩) 0 32 1=some ⟨n2,0,none⟩:=rfl
  rw[e3]
  refine⟨AA .u8 ((bs.drop (n*32)).take (l-n*32)),⟨by simp;omega,A5 _ _,Or.inr ⟨_,rfl,?_⟩⟩,Or.inr ⟨_,rfl,hs.can .z (by simp[hf];omega)⟩,?_⟩
  ·intro x v hv
   have hx:x<l-n*32:=by
    have:=(List.getElem?_eq_some_iff.1 hv).1
    simp at this;omega
   rw[BA,List.getElem?_take,if_pos hx,List.getElem?_drop,List.getElem?_eq_getElem (by omega)]at hv
   simp only[Option.map_some,Option.some.injEq]at hv
   rw[←hv,oI,hcs _ hs.drop.drop _ (by omega)]
   simp[List.getD,List.getElem?_eq_getElem (show n*32+x<bs.length by omega)]
  ·intro h3 e
   replace hs:=hs.wr .z e
   have es:AR (AA .u8 ffs) 0 (AA .u8 ((bs.drop (n*32)).take (l-n*32)))=AA .u8 (EM bs n):=by
    apply List.ext_getElem?
    intro x
    rw[YJ,BA,BA,BA]
    unfold EM ffs
    rw[IL,IL]
    simp only[A6,Aq6,Nat.zero_add,Nat.zero_le,true_and,Nat.sub_zero]
    have el:((bs.drop (n*32)).take (l-n*32)).length=l-n*32:=by simp;omega
    rw[el]
    by_cases c2:x<l-n*32
    ·rw[if_pos ⟨c2,by omega⟩,if_pos (show x<32 by omega),if_pos (show n*32+x<bs.length by omega),List.getElem?_take,if_pos c2,List.getElem?_drop,List.getElem?_eq_getElem (by omega)]
     simp[List.getD,List.getElem?_eq_getElem (show n*32+x<bs.length by omega)]
    ·rw[if_neg (fun y=>c2 y.1)]
     by_cases c3:x<32
     ·rw[if_pos c3,if_pos c3,if_neg (by omega)]
     ·rw[if_neg c3,if_neg c3]
   rw[es,AG]at hs
   refine⟨_,hll,hs.row0 .z,?_⟩
   (refine⟨Sat.can hs (by repeat constructor) (by simp),?_⟩;intro _ e;replace hs:=Sat.wra hs (by repeat constructor) e (by simp[*]);clear e;simp only[put]at hs)
   refine⟨_,hll,hs.row0 (by repeat constructor),?_⟩
   exact k _ hs.drop.drop
def DJ(base:Int):Nat->Nat->Cm->Cm×Int
 | 0,_,C=>(C,0)
 | m+1,j,C=>if DI C (base+j)=true then (if (CA C (base+j)).2≠0 then CA C (base+j) else DJ base m (j+1) (CA C (base+j)).1) else DJ base m (j+1) C
def FG(base:Int)(cells:Nat)(bs:List Int)(n:Nat):Nat->Nat->Cm->Cm×Int
 | 0,_,C=>(C,0)
 | m+1,k,C=>
  if (CS C (base+(((k+1) % n / cells:Nat):Int)) (((k+1) % n % cells:Nat):Int) (EM bs ((k+1) % n))).2≠0 then CS C (base+(((k+1) % n / cells:Nat):Int)) (((k+1) % n % cells:Nat):Int) (EM bs ((k+1) % n))
  else FG base cells bs n m (k+1) (CS C (base+(((k+1) % n / cells:Nat):Int)) (((k+1) % n % cells:Nat):Int) (EM bs ((k+1) % n))).1
def D4(C:Cm)(ar:Int)(bs:List Int):Cm×Int:=
 if (C4 C ar).2≠0 then (C,(C4 C ar).2) else if bs.length=0 then (C,1) else if DR C.cfg<bs.length then (C,4) else if (C4 C ar).1=true then (C,9)
 else if (DJ (2+ar*C.cfg.area) C.cfg.area.toNat 0 C).2≠0 then DJ (2+ar*C.cfg.area) C.cfg.area.toNat 0 C
 else FG (2+ar*C.cfg.area) C.cfg.cells.toNat bs ((bs.length+31) / 32) ((bs.length+31) / 32) 0 (DJ (2+ar*C.cfg.area) C.cfg.area.toNat 0 C).1
theorem SB(C:Cm)(page:Int):(CA C page).1.cfg=C.cfg:=by
 unfold CA
 split
 ·rfl
 ·split
  ·rfl
  ·exact E9 C
theorem OM(C:Cm)(page cell:Int)(x:List Int):(CS C page cell x).1.cfg=C.cfg:=by
 unfold CS
 split
 ·rfl
 ·exact E9 C
theorem qY(c:Cfg):DR c≤524288:=by
 unfold DR
 split
 ·rename_i m
  have h1:=m.area
  have h2:=m.cells
  have h3:=m.slots
  have h4:c.area*c.cells≤64*c.cells:=Int.mul_le_mul_of_nonneg_right h1.2 (by omega)
  omega
 ·decide
theorem AiJ{Q:Int->HP}{q:Option Addr}{l c:Nat}{bs:List Int}(hs:Sat h0 A h)(ci:At A i (AH p C))(ar:Int)(rd:∀D h',Sat h0 (put A i (AH p D)) h'->hsv h' q 1 l (AA .u8 bs))(hl:l<2^50)(hlc:l≤c)
  (k:∀h',Sat h0 (put A i (AH p (D4 C ar bs).1)) h'->Q (D4 C ar bs).2 h'):WN ⟨p,0,none⟩ ar q l c Q h:=by
 unfold WN dQ
 have hbl:bs.length=l:=by have:=(rd C h (by rw[ci.put_self];exact hs)).1;simpa using this
 refine uU hs ci ar ?_
 intro h1 hs
 unfold D4 at k
 by_cases c1:(C4 C ar).2=0
 case neg=>
  rw[if_pos (by simpa using c1)]at k ⊢
  exact k _ (by rw[ci.put_self];exact hs)
 rw[if_neg (by simpa using c1)]at k ⊢
 by_cases c2:bs.length=0
 ·rw[if_pos c2]at k
  rw[if_pos (by rw[beq_iff_eq];omega)]
  exact k _ (by rw[ci.put_self];exact hs)
 rw[if_neg c2]at k
 rw[if_neg (by rw[beq_iff_eq];omega)]
 refine CE hs ci ?_
 intro h2 hs
 refine oF C.cfg hs ?_
 intro h3 hs
 by_cases c3:DR C.cfg<bs.length
 ·rw[if_pos c3]at k
  rw[AD,if_pos (by simp;omega)]
  exact k _ (by rw[ci.put_self];exact hs)
 rw[if_neg c3]at k
 rw[AD,if_neg (by simp;omega)]
 have hsle:=qY C.cfg
 by_cases c4:(C4 C ar).1=true
 ·rw[if_pos c4]at k ⊢
  exact k _ (by rw[ci.put_self];exact hs)
 rw[if_neg c4]at k ⊢
 have hask:AT C ar 2=0:=by
  unfold C4 at c1
  by_cases y:AT C ar 2=0
  ·exact y
  ·rw[if_pos (by simpa using y)]at c1;exact absurd c1 y
 obtain⟨ho,a1,a2⟩:=CV hask
 have ok:=CG hs ci
 have hm:=ok.may.area
 have hcl:=ok.may.cells
 have hsl:=ok.may.slots
 have z:0≤ar*C.cfg.area/\ar*C.cfg.area≤64:=by
  have:ar=0∨ar=1:=by omega
  rcases this with rfl | rfl <;> omega
 refine oO hs ci ar a1 a2 ?_
 intro h4 hs
 intro J hJ
 generalize hE:DJ (2+ar*C.cfg.area) C.cfg.area.toNat 0 C=E at k
 have hs0:∃D:Cm,Sat h0 (put A i (AH p D)) h4/\D.cfg=C.cfg/\DJ (2+ar*C.cfg.area) (C.cfg.area.toNat-0) 0 D=E:=⟨C,by rw[ci.put_self];exact hs,rfl,hE⟩
 have key:=DE (J:=J) C.cfg.area.toNat (fun n (_:Unit)=>[.dv (.one (.int .i64 (2+ar*C.cfg.area+(n:Int))))]) (fun n _ h=>∃D:Cm,Sat h0 (put A i (AH p D)) h/\D.cfg=C.cfg/\DJ (2+ar*C.cfg.area) (C.cfg.area.toNat-n) n D=E) ?_ ?_ 0 () _ (by omega) hs0
 ·simpa using key
 ·rintro n _ h5 hn ⟨D,hs,hcf,hL⟩ hk
  apply hJ
  rw[AD,if_pos (by simp;omega)]
  have ew:IntKind.i64.wrap (2+ar*C.cfg.area+(n:Int)+1)=2+ar*C.cfg.area+((n+1:Nat):Int):=by rw[AL (by omega)];omega
  rw[ew]
  obtain⟨m,hm2⟩:∃m,C.cfg.area.toNat-n=m+1:=⟨C.cfg.area.toNat-n-1,by omega⟩
  rw[hm2]at hL
  unfold DJ at hL
  refine AbN hs (ci.put _) _ ?_
  intro h6 hs
  by_cases u:DI D (2+ar*C.cfg.area+(n:Int))=true
  case neg=>
   rw[if_neg u]at hL
   rw[if_pos (by simpa using u)]
   exact hk () _ ⟨D,hs,hcf,by rw[show C.cfg.area.toNat-(n+1)=m by omega];exact hL⟩
  rw[if_pos u]at hL
  rw[if_neg (by rw[u];simp)]
  refine rU hs (ci.put _) _ ?_
  intro h7 hs
  rw[CD]at hs
  by_cases e:(CA D (2+ar*C.cfg.area+(n:Int))).2=0
  ·rw[if_neg (by simpa using e)]at hL ⊢
   exact hk () _ ⟨_,hs,(SB D _).trans hcf,by rw[show C.cfg.area.toNat-(n+1)=m by omega];exact hL⟩
  ·rw[if_pos (by simpa using e)]at hL ⊢
   rw[←hL,if_pos (by simpa using e)]at k
   exact k _ hs
 ·rintro _ h5 ⟨D,hs,hcf,hL⟩
  apply hJ
  rw[AD,if_neg (by simp;omega)]
  refine⟨by decide,?_⟩
  clear hJ J
  intro J hJ
  rw[Nat.sub_self]at hL
  unfold DJ at hL
  rw[←hL,if_neg (by simp)]at k
  dsimp only at k
  obtain⟨n,hn⟩:∃n,n=(bs.length+31) / 32:=⟨_,rfl⟩
  rw[←hn]at k
  have en:IntKind.i64.wrap ((IntKind.i64.wrap (IntKind.i64.wrap ((l:Int)+32)-1)).tdiv 32)=(n:Int):=by
   rw[AL (n:=(l:Int)+32) (by omega),AL (n:=(l:Int)+32-1) (by omega),Int.tdiv_eq_ediv_of_nonneg (by omega),AL (by omega)];omega
  generalize hP:FG (2+ar*C.cfg.area) C.cfg.cells.toNat bs n n 0 D=P at k
  have hs1:∃D:Cm,Sat h0 (put A i (AH p D)) h5/\D.cfg=C.cfg/\FG (2+ar*C.cfg.area) C.cfg.cells.toNat bs n (n-0) 0 D=P:=⟨D,hs,hcf,hP⟩
  refine BB n (fun t h=>∃D:Cm,Sat h0 (put A i (AH p D)) h/\D.cfg=C.cfg/\FG (2+ar*C.cfg.area) C.cfg.cells.toNat bs n (n-t) t D=P) ?_ ?_ 0 _ (by omega) hs1
  ·rintro t h6 ht ⟨D,hs,hcf,hL⟩ hk
   apply hJ
   rw[en,AD,if_pos (by simp;omega)]
   have ei:(IntKind.i64.wrap ((t:Int)+1)).tmod (n:Int)=(((t+1) % n:Nat):Int):=by
    rw[AU (by omega),Int.tmod_eq_emod_of_nonneg (by omega)];rfl
   rw[ei]
   have hin:(t+1) % n<n:=Nat.mod_lt _ (by omega)
   obtain⟨m,hm2⟩:∃m,n-t=m+1:=⟨n-t-1,by omega⟩
   rw[hm2]at hL
   unfold FG at hL
   refine⟨by omega,?_⟩
   refine u7 hs (ci.put _) ar a1 a2 ((t+1) % n) (by omega) ?_
   intro h7 hs
   rw[hcf]
   refine AkR (bs:=bs) ((t+1) % n) hs (fun h' hs'=>rd _ h' hs') (by omega) hlc (by omega) ?_
   intro h8 hs
   refine Y3 hs (ci.put _) _ _ _ (ZP _ _) ?_
   intro h9 hs
   rw[CD]at hs
   generalize hX:CS D (2+ar*C.cfg.area+(((t+1) % n / C.cfg.cells.toNat:Nat):Int)) (((t+1) % n % C.cfg.cells.toNat:Nat):Int) (EM bs ((t+1) % n))=X at *
   have hXc:X.1.cfg=D.cfg:=by rw[←hX];exact OM _ _ _ _
   by_cases e:X.2=0
   ·rw[if_neg (by simpa using e)]at hL ⊢
    rw[AU (by omega)]
    exact hk _ ⟨_,hs,hXc.trans hcf,by rw[show n-(t+1)=m by omega];exact hL⟩
   ·rw[if_pos (by simpa using e)]at hL ⊢
    rw[←hL]at k
    exact k _ hs
  ·rintro h6 ⟨D,hs,hcf,hL⟩
   apply hJ
   rw[en,AD,if_neg (by simp)]
   rw[Nat.sub_self]at hL
   unfold FG at hL
   rw[←hL]at k
   exact k _ hs
end
section
variable {h0 h:H} {A:List Ent} {i j p r b:Nat} {C:Cm}
theorem AoQ{Q:Int->HP}{q:Option Addr}{l c:Nat}{bs:List Int}(hs:Sat h0 A h)(ci:At A i (AK p C))(ar:Int)(a1:0≤ar)(a2:ar<2)(n:Nat)(rd:∀h',Sat h0 A h'->hsv h' q 1 l (AA .u8 bs))(hl:l<2^50)(hn:n*32<l)
  (k:∀h',Sat h0 (put A i (AK p (CS C (2+ar*C.cfg.area+((n / C.cfg.cells.toNat:Nat):Int)) ((n % C.cfg.cells.toNat:Nat):Int) (EM bs n)).1)) h'->Q (CS C (2+ar*C.cfg.area+((n / C.cfg.cells.toNat:Nat):Int)) ((n % C.cfg.cells.toNat:Nat):Int) (EM bs n)).2 h'):
  NN ⟨p,0,none⟩ ar q l c n Q h:=by
 unfold NN lU
 try simp only[AF,Nat.zero_add,List.append_nil]
 have hbl:bs.length=l:=by have:=(rd _ hs).1;simpa using this
 obtain⟨_,ok,_⟩:=HX hs ci
 have hm:=ok.may.area
 have hcl:=ok.may.cells
 have hsl:=ok.may.slots
 have z:0≤ar*C.cfg.area/\ar*C.cfg.area≤64:=by
  have:ar=0∨ar=1:=by omega
  rcases this with rfl | rfl <;> omega
 refine qH hs ?_
 intro h1 hs
 rw[vP]
 intro n12 _ hn12;replace hs:=Sat.new hs hn12;clear hn12
 have hf:ffs.length=32:=rfl
 (refine⟨Sat.can hs (by repeat constructor) (by simp),?_⟩;intro _ e;replace hs:=Sat.wra hs (by repeat constructor) e (by simp[*]);clear e;simp only[put]at hs)
 intro J hJ
 have last:∀h2,Sat h0 (blk n12 (AA .u8 (EM bs n))::A) h2->J [] h2:=by
  intro h2 hs
  apply hJ
  obtain⟨w,_,ld,_⟩:=HX hs ci.s
  refine⟨_,ld 6 _ rfl,_,ld 0 _ rfl,by omega,_,ld 0 _ rfl,by omega,_,ZP bs n,hs.row0 .z,?_⟩
  have ec:(C.cfg.cells.toNat:Int)=C.cfg.cells:=by omega
  have e1:(n:Int).tdiv C.cfg.cells=((n / C.cfg.cells.toNat:Nat):Int):=by
   rw[Int.tdiv_eq_ediv_of_nonneg (by omega),←ec];rfl
  have e2:(n:Int).tmod C.cfg.cells=((n % C.cfg.cells.toNat:Nat):Int):=by
   rw[Int.tmod_eq_emod_of_nonneg (by omega),←ec];rfl
  have hd:n / C.cfg.cells.toNat≤n:=Nat.div_le_self _ _
  rw[e1,e2]
  clear e1 e2
  generalize n / C.cfg.cells.toNat=dd at *
  generalize n % C.cfg.cells.toNat=mm at *
  rw[AL (n:=(dd:Int)) (by omega),AL (n:=ar*C.cfg.area) (by omega),AL (n:=2+ar*C.cfg.area) (by omega),AL (by omega)]
  refine aZ hs ci.s _ _ _ (ZP bs n) ?_
  intro h3 hs
  exact k _ hs.drop
 intro J2 hJ2
 have hs1:=Sat.tab_to (g:=fun x=>if x<0/\n*32+x<bs.length then bs.getD (n*32+x) 0 else 255) hs fun i hi=>(if_neg (by omega)).symm
 refine BB 32 (fun t h=>Sat h0 (blk n12 (AA .u8 (tab 32 fun x=>if x<t/\n*32+x<bs.length then bs.getD (n*32+x) 0 else 255))::A) h) ?_ ?_ 0 _ (by omega) hs1
 ·intro t h3 ht hs hk
  apply hJ2
  rw[AD,if_pos (by simp;omega)]
  have ew:IntKind.i64.wrap (IntKind.i64.wrap (32*(n:Int))+(t:Int))=((n*32+t:Nat):Int):=by
   rw[AL (n:=32*(n:Int)) (by omega),AL (by omega)];omega
  rw[ew]
  by_cases c1:n*32+t<l
  ·rw[AD,if_pos (by simp;omega)]
   obtain⟨q',hq,g⟩:=CI (rd _ hs.drop) c1
   refine⟨_,hq,by omega,by omega,_,by rw[Int.toNat_natCast,Nat.mul_one];exact g,by omega,by omega,?_⟩
   rw[Int.toNat_natCast,Nat.mul_one]
   refine⟨hs.can .z (by simp;omega),?_⟩
   intro h4 e
   replace hs:=hs.wr .z e
   rw[AG,I9]at hs
   rw[AU (by omega)]
   refine hk _ (Sat.tab_to hs fun x hx=>?_)
   by_cases e:x=t
   ·rw[if_pos e,if_pos (by omega),e]
   ·rw[if_neg e]
    by_cases e2:x<t/\n*32+x<bs.length
    ·rw[if_pos e2,if_pos (by omega)]
    ·rw[if_neg e2,if_neg (by omega)]
  ·rw[AD,if_neg (by simp;omega)]
   refine last _ (Sat.tab_to hs fun x hx=>?_)
   by_cases e2:n*32+x<bs.length
   ·rw[if_pos (by omega),if_pos e2]
   ·rw[if_neg (by omega),if_neg e2]
 ·intro h3 hs
  apply hJ2
  rw[AD,if_neg (by simp)]
  refine last _ (Sat.tab_to hs fun x hx=>?_)
  by_cases e2:n*32+x<bs.length
  ·rw[if_pos ⟨hx,e2⟩,if_pos e2]
  ·rw[if_neg (fun y=>e2 y.2),if_neg e2]
theorem AkM{C:Cm}{page:Int}(ho:C.out=false)(e:(CA C page).2=0):(CA C page).1.out=false:=by
 unfold CA at *
 split
 ·exact ho
 ·rename_i h1
  rw[if_neg h1]at e
  split
  ·exact ho
  ·rename_i h2
   rw[if_neg h2]at e
   show C.act.out=false
   refine ZB ho ?_
   unfold DL at e
   intro hl
   rw[if_neg (by simpa using hl)]at e
   simp at e
theorem AoB{Q:Int->HP}{q:Option Addr}{l c:Nat}{bs:List Int}(hs:Sat h0 A h)(ci:At A i (AK p C))(ar:Int)(rd:∀D h',Sat h0 (put A i (AK p D)) h'->hsv h' q 1 l (AA .u8 bs))(hl:l<2^50)
  (k:∀h',Sat h0 (put A i (AK p (D4 C ar bs).1)) h'->Q (D4 C ar bs).2 h'):RG ⟨p,0,none⟩ ar q l c Q h:=by
 unfold RG lS
 try simp only[AF,Nat.zero_add]
 have hbl:bs.length=l:=by have:=(rd C h (by rw[ci.put_self];exact hs)).1;simpa using this
 refine z8 hs ci ar ?_
 intro h1 hs
 unfold D4 at k
 by_cases c1:(C4 C ar).2=0
 case neg=>
  rw[if_pos (by simpa using c1)]at k ⊢
  exact k _ (by rw[ci.put_self];exact hs)
 rw[if_neg (by simpa using c1)]at k ⊢
 by_cases c2:bs.length=0
 ·rw[if_pos c2]at k
  rw[if_pos (by rw[beq_iff_eq];omega)]
  exact k _ (by rw[ci.put_self];exact hs)
 rw[if_neg c2]at k
 rw[if_neg (by rw[beq_iff_eq];omega)]
 obtain⟨w,ok,ld,_⟩:=HX hs ci
 refine⟨_,ld 0 _ rfl,_,ld 1 _ rfl,_,ld 2 _ rfl,_,ld 3 _ rfl,_,ld 4 _ rfl,_,ld 5 _ rfl,_,ld 6 _ rfl,?_⟩
 refine z5 C.cfg hs ?_
 intro h3 hs
 by_cases c3:DR C.cfg<bs.length
 ·rw[if_pos c3]at k
  rw[AD,if_pos (by simp;omega)]
  exact k _ (by rw[ci.put_self];exact hs)
 rw[if_neg c3]at k
 rw[AD,if_neg (by simp;omega)]
 by_cases c4:(C4 C ar).1=true
 ·rw[if_pos c4]at k ⊢
  exact k _ (by rw[ci.put_self];exact hs)
 rw[if_neg c4]at k ⊢
 have hask:AT C ar 2=0:=by
  unfold C4 at c1
  by_cases y:AT C ar 2=0
  ·exact y
  ·rw[if_pos (by simpa using y)]at c1;exact absurd c1 y
 obtain⟨ho,a1,a2⟩:=CV hask
 have hm:=ok.may.area
 have hcl:=ok.may.cells
 have hsl:=ok.may.slots
 have hnp:C.cfg.np=2+2*C.cfg.area:=rfl
 have z:0≤ar*C.cfg.area/\ar*C.cfg.area≤C.cfg.area/\C.cfg.area≤64:=by
  have:ar=0∨ar=1:=by omega
  rcases this with rfl | rfl <;> omega
 intro J hJ
 generalize hE:DJ (2+ar*C.cfg.area) C.cfg.area.toNat 0 C=E at k
 have hs0:∃D:Cm,Sat h0 (put A i (AK p D)) h3/\D.cfg=C.cfg/\D.out=false/\DJ (2+ar*C.cfg.area) (C.cfg.area.toNat-0) 0 D=E:=⟨C,by rw[ci.put_self];exact hs,rfl,ho,hE⟩
 refine DE C.cfg.area.toNat (fun n (_:Unit)=>[.dv (.one (.int .i64 (n:Int)))]) (fun n _ h=>∃D:Cm,Sat h0 (put A i (AK p D)) h/\D.cfg=C.cfg/\D.out=false/\DJ (2+ar*C.cfg.area) (C.cfg.area.toNat-n) n D=E) ?_ ?_ 0 () _ (by omega) hs0
 ·rintro n _ h5 hn ⟨D,hs,hcf,hDo,hL⟩ hk
  apply hJ
  obtain⟨w,okD,ld,_⟩:=HX hs (ci.put _)
  have hpg:=okD.fits.pages
  rw[hcf]at hpg
  refine⟨_,ld 6 _ rfl,?_⟩
  rw[hcf,AD,if_pos (by simp;omega)]
  refine⟨_,ld 6 _ rfl,?_⟩
  have ew:IntKind.i64.wrap (IntKind.i64.wrap (2+IntKind.i64.wrap (ar*C.cfg.area))+(n:Int))=2+ar*C.cfg.area+n:=by
   rw[AL (n:=ar*C.cfg.area) (by omega),AL (n:=2+ar*C.cfg.area) (by omega),AL (by omega)]
  rw[hcf,ew]
  have p1:0≤2+ar*C.cfg.area+(n:Int):=by omega
  have p2:2+ar*C.cfg.area+(n:Int)<D.s.pages.length:=by omega
  obtain⟨m,hm2⟩:∃m,C.cfg.area.toNat-n=m+1:=⟨C.cfg.area.toNat-n-1,by omega⟩
  rw[hm2]at hL
  unfold DJ at hL
  refine AaL hs (ci.put _) hDo p1 p2 ?_
  intro h6 hs
  rw[AU (by omega)]
  by_cases u:DI D (2+ar*C.cfg.area+(n:Int))=true
  case neg=>
   rw[if_neg u]at hL
   rw[if_pos (by simpa using u)]
   exact hk () _ ⟨D,hs,hcf,hDo,by rw[show C.cfg.area.toNat-(n+1)=m by omega];exact hL⟩
  rw[if_pos u]at hL
  rw[if_neg (by rw[u];simp)]
  refine zR hs (ci.put _) _ ?_
  intro h7 hs
  rw[CD]at hs
  by_cases e:(CA D (2+ar*C.cfg.area+(n:Int))).2=0
  ·rw[if_neg (by simpa using e)]at hL ⊢
   exact hk () _ ⟨_,hs,(SB D _).trans hcf,AkM hDo e,by rw[show C.cfg.area.toNat-(n+1)=m by omega];exact hL⟩
  ·rw[if_pos (by simpa using e)]at hL ⊢
   rw[←hL,if_pos (by simpa using e)]at k
   exact k _ hs
 ·rintro _ h5 ⟨D,hs,hcf,hDo,hL⟩
  apply hJ
  obtain⟨w,okD,ld,_⟩:=HX hs (ci.put _)
  refine⟨_,ld 6 _ rfl,?_⟩
  rw[hcf,AD,if_neg (by simp;omega)]
  clear hJ J
  intro J hJ
  rw[Nat.sub_self]at hL
  unfold DJ at hL
  rw[←hL,if_neg (by simp)]at k
  dsimp only at k
  obtain⟨n,hn⟩:∃n,n=(bs.length+31) / 32:=⟨_,rfl⟩
  rw[←hn]at k
  generalize hP:FG (2+ar*C.cfg.area) C.cfg.cells.toNat bs n n 0 D=P at k
  have hs1:∃D:Cm,Sat h0 (put A i (AK p D)) h5/\D.cfg=C.cfg/\FG (2+ar*C.cfg.area) C.cfg.cells.toNat bs n (n-0) 0 D=P:=⟨D,hs,hcf,hP⟩
  have one:∀(t:Nat) (D:Cm) (h6:H) (K:Int->HP),t<n->D.cfg=C.cfg->Sat h0 (put A i (AK p D)) h6->FG (2+ar*C.cfg.area) C.cfg.cells.toNat bs n (n-t) t D=P->
    (∀e h',e≠0->Q e h'->K e h')->(∀D' h',Sat h0 (put A i (AK p D')) h'->D'.cfg=C.cfg->FG (2+ar*C.cfg.area) C.cfg.cells.toNat bs n (n-(t+1)) (t+1) D'=P->K 0 h')->
    NN ⟨p,0,none⟩ ar q l c (((t+1) % n:Nat):Int) K h6:=by
   intro t D h6 K ht hcf hs hL kb kg
   have hin:(t+1) % n<n:=Nat.mod_lt _ (by omega)
   obtain⟨m,hm2⟩:∃m,n-t=m+1:=⟨n-t-1,by omega⟩
   rw[hm2]at hL
   unfold FG at hL
   refine AoQ (bs:=bs) hs (ci.put _) ar a1 a2 ((t+1) % n) (fun h' hs'=>rd _ h' hs') hl (by omega) ?_
   intro h9 hs
   rw[CD]at hs
   rw[hcf]at hs ⊢
   generalize hX:CS D (2+ar*C.cfg.area+(((t+1) % n / C.cfg.cells.toNat:Nat):Int)) (((t+1) % n % C.cfg.cells.toNat:Nat):Int) (EM bs ((t+1) % n))=X at *
   have hXc:X.1.cfg=D.cfg:=by rw[←hX];exact OM _ _ _ _
   by_cases e:X.2=0
   ·rw[if_neg (by simpa using e)]at hL
    rw[e]
    exact kg _ _ hs (hXc.trans hcf) (by rw[show n-(t+1)=m by omega];exact hL)
   ·rw[if_pos (by simpa using e)]at hL
    rw[←hL]at k
    exact kb _ _ e (k _ hs)
  have key:=DE (J:=J) (n-1) (fun t (_:Unit)=>[.dv (.one (.int .i64 ((t+1:Nat):Int)))]) (fun t _ h=>∃D:Cm,Sat h0 (put A i (AK p D)) h/\D.cfg=C.cfg/\FG (2+ar*C.cfg.area) C.cfg.cells.toNat bs n (n-t) t D=P) ?_ ?_ 0 () _ (by omega) hs1
  ·exact key
  ·rintro t _ h6 ht ⟨D,hs,hcf,hL⟩ hk
   apply hJ
   have ew:IntKind.i64.wrap (32*((t+1:Nat):Int))=((32*(t+1):Nat):Int):=by rw[AL (by omega)];omega
   rw[ew,AD,if_pos (by simp;omega)]
   have ei:((t+1:Nat):Int)=(((t+1) % n:Nat):Int):=by rw[Nat.mod_eq_of_lt (by omega)]
   have:=one t D h6 (fun i43 h44=>if (i43 != 0)=true then Q i43 h44 else J [.dv (.one (.int .i64 (IntKind.i64.wrap (((t+1:Nat):Int)+1))))] h44) (by omega) hcf hs hL (fun e h' he hq=>by
    rw[if_pos (by simpa using he)];exact hq) (fun D' h' hs' hc' hL'=>by
    rw[if_neg (by simp),AU (by omega)]
    exact hk () _ ⟨D',hs',hc',hL'⟩)
   rw[←ei]at this
   exact this
  ·rintro _ h6 ⟨D,hs,hcf,hL⟩
   apply hJ
   have ew:IntKind.i64.wrap (32*((n-1+1:Nat):Int))=((32*(n-1+1):Nat):Int):=by rw[AL (by omega)];omega
   rw[ew,AD,if_neg (by simp;omega)]
   have ei:(0:Int)=(((n-1+1) % n:Nat):Int):=by rw[show n-1+1=n by omega,Nat.mod_self];rfl
   have:=one (n-1) D h6 (fun i45 h46=>Q i45 h46) (by omega) hcf hs hL (fun e h' he hq=>hq) (fun D' h' hs' hc' hL'=>by
    rw[show n-(n-1+1)=0 by omega]at hL'
    unfold FG at hL'
    rw[←hL']at k
    exact k _ hs')
   rw[←ei]at this
   exact this
end
def B0(C:Cm)(ar:Int):Nat->List Int
 | 0=>[]
 | n+1=>B0 C ar n++(CK C (2+ar*C.cfg.area+((n / C.cfg.cells.toNat:Nat):Int)) ((n % C.cfg.cells.toNat:Nat):Int)).1
section
variable {h0 h:H} {A:List Ent} {i j p r b:Nat} {C:Cm}
theorem AoG(ok:C.ok)(ho:C.out=false){ar:Int}(a1:0≤ar)(a2:ar<2){n:Nat}(hn:n<C.cfg.area.toNat*C.cfg.cells.toNat):(CK C (2+ar*C.cfg.area+((n / C.cfg.cells.toNat:Nat):Int)) ((n % C.cfg.cells.toNat:Nat):Int)).2=0:=by
 have hm:=ok.may.area
 have hcl:=ok.may.cells
 have hsl:=ok.may.slots
 have hpg:=ok.fits.pages
 have hnp:C.cfg.np=2+2*C.cfg.area:=rfl
 have z:0≤ar*C.cfg.area/\ar*C.cfg.area≤C.cfg.area/\C.cfg.area≤64:=by
  have:ar=0∨ar=1:=by omega
  rcases this with rfl | rfl <;> omega
 have h1:n / C.cfg.cells.toNat<C.cfg.area.toNat:=(Nat.div_lt_iff_lt_mul (by omega)).2 hn
 have h2:n % C.cfg.cells.toNat<C.cfg.cells.toNat:=Nat.mod_lt _ (by omega)
 generalize n / C.cfg.cells.toNat=dd at *
 generalize n % C.cfg.cells.toNat=mm at *
 have ec:CZ C (2+ar*C.cfg.area+(dd:Int)) (mm:Int)=0:=by
  unfold CZ
  rw[EK ho (by omega) (by omega),if_neg (by simp),EK ho (by omega) (by omega)]
 unfold CK
 rw[ec,if_neg (by simp)]
theorem YH(hs:Sat h0 A h){q:Option Addr}{l c sz:Nat}{vs:List Value}(m:At A i (slE q l c sz vs)):l≤c:=by
 obtain⟨f,hp,_⟩:=hs.take m
 obtain⟨bs,⟨_,h2,_⟩,_⟩:=slE_P.1 hp
 exact h2
theorem uX{Q:Option Addr->Nat->Nat->Int->HP}(hs:Sat h0 A h)(ci:At A i (AH p C))(ho:C.out=false)(ar:Int)(a1:0≤ar)(a2:ar<2)(n:Nat)(hn:n≤32*(C.cfg.area.toNat*C.cfg.cells.toNat))(hn0:0<n)
  (k:∀(o:Option Addr) (c m:Nat) (h':H),m=(n+31) / 32->Sat h0 (slE o (32*m) c 1 (AA .u8 (B0 C ar m))::A) h'->n≤32*m->Q (AJ o 0 n 1) n n 0 h'):OX ⟨p,0,none⟩ ar n Q h:=by
 unfold OX dT
 try simp only[AF,Nat.zero_add,List.append_nil]
 have ok:=CG hs ci
 have hm:=ok.may.area
 have hcl:=ok.may.cells
 have hsl:=ok.may.slots
 have hsz:C.cfg.area.toNat*C.cfg.cells.toNat≤16384:=by
  calc C.cfg.area.toNat*C.cfg.cells.toNat≤64*C.cfg.cells.toNat:=Nat.mul_le_mul_right _ (by omega)
   _≤16384:=by omega
 intro J hJ
 obtain⟨M,hM⟩:∃M,M=(n+31) / 32:=⟨_,rfl⟩
 replace hs:=hs.sl_nil 1 none
 refine DE M (fun m (s:Option Addr×Nat)=>[.dv (.one (.slice s.1 (32*m) s.2)),.dv (.one (.int .i64 (m:Int)))]) (fun m s h=>Sat h0 (slE s.1 (32*m) s.2 1 (AA .u8 (B0 C ar m))::A) h) ?_ ?_ 0 (none,0) _ (by omega) hs
 ·rintro m ⟨o,c⟩ h1 hm2 hs hk
  apply hJ
  rw[AD,if_pos (by simp;omega)]
  refine u7 hs ci.s ar a1 a2 m (by omega) ?_
  intro h2 hs
  have hri:=AoG ok ho a1 a2 (n:=m) (by omega)
  have hrl:=qO ok (2+ar*C.cfg.area+((m / C.cfg.cells.toNat:Nat):Int)) ((m % C.cfg.cells.toNat:Nat):Int)
  refine oA hs ci.s _ _ ?_
  intro h3 hs
  have hB:B0 C ar (m+1)=B0 C ar m++(CK C (2+ar*C.cfg.area+((m / C.cfg.cells.toNat:Nat):Int)) ((m % C.cfg.cells.toNat:Nat):Int)).1:=rfl
  generalize CK C (2+ar*C.cfg.area+((m / C.cfg.cells.toNat:Nat):Int)) ((m % C.cfg.cells.toNat:Nat):Int)=X at *
  intro n2 _ hn2;replace hs:=Sat.new hs hn2;clear hn2
  refine⟨Sat.can hs (by repeat constructor) (by simp[hrl]),?_⟩
  intro _ e;replace hs:=Sat.wra hs (by repeat constructor) e (by rw[A6,A6,hrl];rfl);clear e;simp only[put]at hs
  rw[if_neg (by rw[hri];simp)]
  rw[show AJ (some ⟨n2,0,none⟩) 0 32 1=some ⟨n2,0,none⟩ from rfl]
  refine⟨_,hs.bv .z (by rw[A6,hrl]) (A5 _ _),?_⟩
  refine Sat.app hs zs1 (by rw[A6,hrl]) rfl (A5 _ _) (by omega) ?_
  intro p' c' h4 hs
  rw[AS,AG]at hs
  rw[AU (by omega)]
  have hs':=hs.drop
  have el:32*m+32=32*(m+1):=by omega
  rw[el]at hs' ⊢
  have ea:AA .u8 (B0 C ar m)++AA .u8 X.1=AA .u8 (B0 C ar (m+1)):=by rw[hB];simp[AA]
  rw[ea]at hs'
  exact hk (p',c') _ hs'
 ·rintro⟨o,c⟩ h1 hs
  have hc0:=YH hs .z
  apply hJ
  rw[AD,if_neg (by simp;omega)]
  dsimp only at hs hc0 ⊢
  refine⟨by omega,by omega,by omega,?_⟩
  have:=k o c M h1 (by omega) hs (by omega)
  simpa using this
end
section
variable {h0 h:H} {A:List Ent} {i j p r b:Nat} {C:Cm}
theorem Aq3(hs:Sat h0 A h){q:Option Addr}{l c n:Nat}{bs:List Int}(m:At A i (slE q l c 1 (AA .u8 bs)))(hn:n≤l)(hn0:0<n):∃q',AJ q 0 n 1=some q'/\hsv h (some q') 1 n (AA .u8 (bs.take n)):=by
 have sv:=hs.sv m
 have hbl:bs.length=l:=by have:=sv.1;simpa using this
 obtain⟨q',hq⟩:=hs.sl_some m (by omega)
 subst hq
 refine⟨⟨q',0,none⟩,?_,?_⟩
 ·unfold AJ
  rw[if_neg (by omega)]
  simp
 ·obtain⟨_,_,e3⟩:=sv
  rcases e3 with e3 | ⟨q2,hq2,g⟩
  ·have e4:=congrArg List.length e3
   rw[A6,List.length_nil]at e4;omega
  ·injection hq2 with hq2
   subst hq2
   refine⟨by simp;omega,A5 _ _,Or.inr ⟨_,rfl,?_⟩⟩
   intro x v hv
   refine g x v ?_
   rw[BA]at hv ⊢
   rw[List.getElem?_take]at hv
   split at hv
   ·exact hv
   ·simp at hv
end
def Cm.er(C:Cm)(x:Nat):Int:=C.s.erases.getD x 0
def Cm.pg(C:Cm)(x:Nat):List Int:=C.s.pages.getD x []
def dif(C D:Cm):Nat->Nat->Int
 | _,0=>0
 | B,m+1=>(D.er B-C.er B)+dif C D (B+1) m
theorem o5(C D:Cm)(B m:Nat):dif C D B (m+1)=(D.er B-C.er B)+dif C D (B+1) m:=rfl
theorem AkF{C C' D:Cm}(m:Nat):∀B,(∀x,B≤x->x<B+m->C.er x=C'.er x)->dif C D B m=dif C' D B m:=by
 induction m with
 | zero=>intro B _;rfl
 | succ m ih=>
  intro B h
  unfold dif
  rw[h B (by omega) (by omega),ih (B+1) fun x h1 h2=>h x (by omega) (by omega)]
theorem AkG{C D:Cm}(m:Nat):∀B,(∀x,B≤x->x<B+m->D.er x=C.er x)->dif C D B m=0:=by
 induction m with
 | zero=>intro B _;rfl
 | succ m ih=>
  intro B h
  unfold dif
  rw[h B (by omega) (by omega),ih (B+1) fun x h1 h2=>h x (by omega) (by omega)];omega
theorem AqI{C D:Cm}{page:Int}(hc:D.cfg=C.cfg)(ho:D.out=C.out)(hl:D.s.pages.length=C.s.pages.length)(hp:D.pg page.toNat=C.pg page.toNat):DI D page=DI C page:=by
 have e:∀n:Int,CK D page n=CK C page n:=by
  intro n
  unfold CK CZ AT
  unfold Cm.pg at hp
  rw[hc,ho,hl,hp]
 unfold DI OU
 rw[hc]
 simp only[e]
structure Er (B m:Nat) (C D:Cm) (e:Int):Prop where
 cfg:D.cfg=C.cfg
 bl:D.s.blown=C.s.blown
 np:D.s.pages.length=C.s.pages.length
 ne:D.s.erases.length=C.s.erases.length
 pg:∀x,x<B∨B+m≤x->D.pg x=C.pg x
 er:∀x,x<B∨B+m≤x->D.er x=C.er x
 acts:D.acts=C.acts+dif C D B m
 ab:C.acts≤D.acts/\D.acts≤C.acts+m
 good:e=0->D.out=false/\-1≤D.left/\∀x,B≤x->x<B+m->(D.pg x).length=C.cfg.cells.toNat*32/\I3 (D.pg x) C.cfg.cells.toNat
 bad:e≠0->e=8
theorem AkO{row:List Int}{l:Nat}(hl:row.length=l*32)(f:Nat->Int)(hf:∀i,f i=255):(D9 row f).length=l*32/\I3 (D9 row f) l:=by
 refine⟨by unfold D9;rw[yY];exact hl,?_⟩
 intro n hn
 have h1:(AX (D9 row f) n).length=32:=FA (by unfold D9;rw[yY];omega)
 refine o6 (h1.trans rfl) fun i hi=>?_
 rw[h1]at hi
 rw[AjN _ _ _ hi]
 unfold D9
 rw[AmM _ _ _ _ (by omega) (by omega),hf,wR]
 unfold ffs
 rw[cJ _ hi]
theorem wW{α:Type}(l:List α)(j:Nat)(v d:α)(h:j<l.length):(l.set j v).getD j d=v:=by
 simp[List.getD,h]
theorem AkN{C:Cm}{B:Nat}(ho:C.out=false)(hB:B<C.s.pages.length)(hB2:B<C.s.erases.length)(hw:C.er B<C.cfg.erases)(ha:0≤C.acts/\C.acts<2^60):
  ∃D:Cm,CA C (B:Int)=(D,DL C)/\D.cfg=C.cfg/\D.s.blown=C.s.blown/\D.s.pages.length=C.s.pages.length/\D.s.erases.length=C.s.erases.length/\(∀x,x≠B->D.pg x=C.pg x)/\(∀x,x≠B->D.er x=C.er x)/\
   D.er B=C.er B+1/\D.acts=C.acts+1/\D.pg B=D9 (C.pg B) (BS C)/\(C.left≠0->D.out=false)/\(-1≤C.left->-1≤D.left):=by
 have hac:C.act.acts=C.acts+1:=by
  unfold Cm.act
  have:w64 (C.acts+1)=C.acts+1:=by unfold w64;rw[IntKind.wrap_i64];omega
  split <;> exact this
 unfold CA
 rw[EK ho (by omega) (by omega),if_neg (by simp),Int.toNat_natCast]
 unfold Cm.er at hw
 rw[if_neg (by omega)]
 refine⟨_,rfl,E9 C,?_,?_,?_,?_,?_,?_,hac,?_,?_,?_⟩
 ·show C.act.s.blown=_;rw[DA]
 ·show (C.act.s.pages.set B _).length=_;rw[List.length_set,DA]
 ·show (C.act.s.erases.set B _).length=_;rw[List.length_set,DA]
 ·intro x hx
  show (C.act.s.pages.set B _).getD x []=C.s.pages.getD x []
  simp only[List.getD,List.getElem?_set_ne (Ne.symm hx),DA]
 ·intro x hx
  show (C.act.s.erases.set B _).getD x 0=C.s.erases.getD x 0
  simp only[List.getD,List.getElem?_set_ne (Ne.symm hx),DA]
 ·show (C.act.s.erases.set B _).getD B 0=_
  exact wW _ _ _ _ (by rw[DA];exact hB2)
 ·show (C.act.s.pages.set B _).getD B []=_
  rw[wW _ _ _ _ (by rw[DA];exact hB)]
  unfold FI
  rw[Int.toNat_natCast];rfl
 ·intro hl
  show C.act.out=false
  exact ZB ho hl
 ·intro hl
  show -1≤C.act.left
  unfold Cm.act
  split
  ·dsimp only;split <;> omega
  ·exact Int.le_refl _
theorem erases(base:Int):∀(m j B:Nat) (C:Cm),base+j=(B:Int)->C.out=false->-1≤C.left->B+m≤C.s.pages.length->B+m≤C.s.erases.length->(0≤C.acts/\C.acts+m<2^60)->
  (∀x,B≤x->x<B+m->(C.pg x).length=C.cfg.cells.toNat*32)->(∀x,B≤x->x<B+m->DI C (x:Int)=true->C.er x<C.cfg.erases)->
  (∀x,B≤x->x<B+m->DI C (x:Int)=false->I3 (C.pg x) C.cfg.cells.toNat)->Er B m C (DJ base m j C).1 (DJ base m j C).2:=by
 intro m
 induction m with
 | zero=>
  intro j B C hB ho hl _ _ _ _ _ _
  unfold DJ
  exact⟨rfl,rfl,rfl,rfl,fun _ _=>rfl,fun _ _=>rfl,by simp[dif],⟨Int.le_refl _,by(try dsimp only);omega⟩,fun _=>⟨ho,hl,fun x h1 h2=>by omega⟩,fun x=>absurd rfl x⟩
 | succ m ih=>
  intro j B C hB ho hl hp he ha hlen hw hbl
  unfold DJ
  rw[hB]
  by_cases u:DI C (B:Int)=true
  case neg=>
   rw[if_neg u]
   have I:=ih (j+1) (B+1) C (by omega) ho hl (by omega) (by omega) ⟨ha.1,by omega⟩ (fun x h1 h2=>hlen x (by omega) (by omega)) (fun x h1 h2=>hw x (by omega) (by omega)) (fun x h1 h2=>hbl x (by omega) (by omega))
   generalize DJ base m (j+1) C=X at *
   have hBp:=I.pg B (by omega)
   have hBe:=I.er B (by omega)
   refine⟨I.cfg,I.bl,I.np,I.ne,fun x hx=>I.pg x (by omega),fun x hx=>I.er x (by omega),?_,⟨I.ab.1,by have:=I.ab.2;omega⟩,fun e=>?_,I.bad⟩
   ·rw[I.acts,o5,hBe];omega
   ·obtain⟨g1,g2,g3⟩:=I.good e
    refine⟨g1,g2,fun x h1 h2=>?_⟩
    by_cases c:x=B
    ·subst c
     rw[hBp]
     exact⟨hlen x (by omega) (by omega),hbl x (by omega) (by omega) (by simpa using u)⟩
    ·exact g3 x (by omega) (by omega)
  rw[if_pos u]
  obtain⟨D,hD,d1,d2,d3,d4,d5,d6,d7,d8,d9,d10,d11⟩:=AkN ho (show B<C.s.pages.length by omega) (by omega) (hw B (by omega) (by omega) u) ⟨ha.1,by omega⟩
  rw[hD]
  dsimp only
  by_cases c:C.left=0
  ·have e8:DL C=8:=by unfold DL;rw[if_neg (by simpa using c)]
   rw[e8,if_pos (by simp)]
   refine⟨d1,d2,d3,d4,fun x hx=>d5 x (by omega),fun x hx=>d6 x (by omega),?_,⟨by(try dsimp only);omega,by(try dsimp only);omega⟩,fun e=>by simp at e,fun _=>rfl⟩
   rw[o5,AkG m (B+1) fun x h1 h2=>d6 x (by omega),d7,d8];omega
  ·have e0:DL C=0:=by unfold DL;rw[if_pos (by simpa using c)]
   rw[e0,if_neg (by simp)]
   have hu:∀x,B+1≤x->DI D (x:Int)=DI C (x:Int):=fun x h1=>AqI d1 (by rw[d10 c,ho]) d3 (by rw[Int.toNat_natCast];exact d5 x (by omega))
   have I:=ih (j+1) (B+1) D (by omega) (d10 c) (d11 hl) (by omega) (by omega) ⟨by omega,by omega⟩
    (fun x h1 h2=>by rw[d5 x (by omega),d1];exact hlen x (by omega) (by omega))
    (fun x h1 h2 h3=>by rw[d6 x (by omega),d1];rw[hu x h1]at h3;exact hw x (by omega) (by omega) h3)
    (fun x h1 h2 h3=>by rw[d5 x (by omega),d1];rw[hu x h1]at h3;exact hbl x (by omega) (by omega) h3)
   generalize DJ base m (j+1) D=X at *
   have hBp:=I.pg B (by omega)
   have hBe:=I.er B (by omega)
   refine⟨I.cfg.trans d1,I.bl.trans d2,I.np.trans d3,I.ne.trans d4,fun x hx=>(I.pg x (by omega)).trans (d5 x (by omega)),fun x hx=>(I.er x (by omega)).trans (d6 x (by omega)),?_,⟨by have:=I.ab.1;omega,by have:=I.ab.2;omega⟩,fun e=>?_,I.bad⟩
   ·rw[I.acts,o5,hBe,d7,d8,AkF m (B+1) fun x h1 h2=>d6 x (by omega)];omega
   ·obtain⟨g1,g2,g3⟩:=I.good e
    rw[d1]at g3
    refine⟨g1,g2,fun x h1 h2=>?_⟩
    by_cases c2:x=B
    ·subst c2
     rw[hBp,d9]
     exact AkO (hlen x (by omega) (by omega)) _ fun i=>by unfold BS;rw[if_pos (by simpa using c)]
    ·exact g3 x (by omega) (by omega)
theorem HT{l:List Int}(h:l.length=9):∃a b c d e f g i j,l=[a,b,c,d,e,f,g,i,j]:=by
 match l,h with
 | [a,b,c,d,e,f,g,i,j],_=>exact⟨a,b,c,d,e,f,g,i,j,rfl⟩
abbrev BE(p q:Inf)(n:Int):List Value:=.int .i64 p.head::(AA .i64 p.nums++.int .i64 p.next::.bool p.blank::.int .i64 p.torn::.int .i64 q.head::(AA .i64 q.nums++[.int .i64 q.next,.bool q.blank,.int .i64 q.torn,.int .i64 n]))
theorem FB{p q:Inf}{n:Int}(hp:p.nums.length=9)(hq:q.nums.length=9):(BE p q n).length=27:=by simp[BE,hp,hq]
structure FndAt (h:H) (b:Nat) (p q:Inf) (n:Int):Prop where
 a0:hc h ⟨b,0,none⟩=some (.int .i64 p.head)
 a1:hrow h ⟨b,1,none⟩ .i64 p.nums
 a10:hc h ⟨b,10,none⟩=some (.int .i64 p.next)
 a11:hc h ⟨b,11,none⟩=some (.bool p.blank)
 a12:hc h ⟨b,12,none⟩=some (.int .i64 p.torn)
 a13:hc h ⟨b,13,none⟩=some (.int .i64 q.head)
 a14:hrow h ⟨b,14,none⟩ .i64 q.nums
 a23:hc h ⟨b,23,none⟩=some (.int .i64 q.next)
 a24:hc h ⟨b,24,none⟩=some (.bool q.blank)
 a25:hc h ⟨b,25,none⟩=some (.int .i64 q.torn)
 a26:hc h ⟨b,26,none⟩=some (.int .i64 n)
section
variable {h0 h:H} {A:List Ent} {i j p r b:Nat} {C:Cm}
theorem _root_.Go.Vc.Sat.fnd(hs:Sat h0 A h){P Q:Inf}{n:Int}(m:At A i (blk b (BE P Q n)))(hp:P.nums.length=9)(hq:Q.nums.length=9):FndAt h b P Q n:=by
 obtain⟨ph,pn,px,pb,pt⟩:=P
 obtain⟨qh,qn,qx,qb,qt⟩:=Q
 obtain⟨a1,a2,a3,a4,a5,a6,a7,a8,a9,rfl⟩:=HT hp
 obtain⟨b1,b2,b3,b4,b5,b6,b7,b8,b9,rfl⟩:=HT hq
 exact⟨hs.ld m rfl,hs.cs m rfl,hs.ld m rfl,hs.ld m rfl,hs.ld m rfl,hs.ld m rfl,hs.cs m rfl,hs.ld m rfl,hs.ld m rfl,hs.ld m rfl,hs.ld m rfl⟩
theorem AkX{P Q R:Inf}{n:Int}(hp:P.nums.length=9)(hr:R.nums.length=9):AR (BE P Q n) 0 (B3 R)=BE R Q n:=by
 obtain⟨ph,pn,px,pb,pt⟩:=P
 obtain⟨qh,qn,qx,qb,qt⟩:=R
 obtain⟨a1,a2,a3,a4,a5,a6,a7,a8,a9,rfl⟩:=HT hp
 obtain⟨b1,b2,b3,b4,b5,b6,b7,b8,b9,rfl⟩:=HT hr
 rfl
theorem AkY{P Q R:Inf}{n:Int}(hp:P.nums.length=9)(hq:Q.nums.length=9)(hr:R.nums.length=9):AR (BE P Q n) 13 (B3 R)=BE P R n:=by
 obtain⟨ph,pn,px,pb,pt⟩:=P
 obtain⟨qh,qn,qx,qb,qt⟩:=Q
 obtain⟨rh,rn,rx,rb,rt⟩:=R
 obtain⟨a1,a2,a3,a4,a5,a6,a7,a8,a9,rfl⟩:=HT hp
 obtain⟨b1,b2,b3,b4,b5,b6,b7,b8,b9,rfl⟩:=HT hq
 obtain⟨c1,c2,c3,c4,c5,c6,c7,c8,c9,rfl⟩:=HT hr
 rfl
theorem AkZ{P Q:Inf}{n m:Int}(hp:P.nums.length=9)(hq:Q.nums.length=9):AR (BE P Q n) 26 [.int .i64 m]=BE P Q m:=by
 obtain⟨ph,pn,px,pb,pt⟩:=P
 obtain⟨qh,qn,qx,qb,qt⟩:=Q
 obtain⟨a1,a2,a3,a4,a5,a6,a7,a8,a9,rfl⟩:=HT hp
 obtain⟨b1,b2,b3,b4,b5,b6,b7,b8,b9,rfl⟩:=HT hq
 rfl
theorem _root_.Go.Vc.Sat.infAt(hs:Sat h0 A h){P:Inf}(m:At A i (blk b (B3 P)))(hp:P.nums.length=9):hc h ⟨b,0,none⟩=some (.int .i64 P.head)/\hrow h ⟨b,1,none⟩ .i64 P.nums/\hc h ⟨b,10,none⟩=some (.int .i64 P.next)/\hc h ⟨b,11,none⟩=some (.bool P.blank)/\hc h ⟨b,12,none⟩=some (.int .i64 P.torn):=by
 obtain⟨ph,pn,px,pb,pt⟩:=P
 obtain⟨a1,a2,a3,a4,a5,a6,a7,a8,a9,rfl⟩:=HT hp
 exact⟨hs.ld m rfl,hs.cs m rfl,hs.ld m rfl,hs.ld m rfl,hs.ld m rfl⟩
/-! ### What the log says -/
def pI(C:Cm)(k:Nat):Inf:=HV (C.pg k) C.cfg.cells.toNat
theorem FF(C:Cm)(k:Nat):(pI C k).nums.length=9:=OG _ _
def OK(a b:Int):Int:=if 0<a/\b≤a then 0 else if 0<b then 1 else -1
def BH(C:Cm):Int:=OK (pI C 0).head (pI C 1).head
def A1(C:Cm):Inf:=if BH C<0 then inf0 else pI C (BH C).toNat
def B4(C:Cm):Nat:=if BH C=0 then 1 else 0
theorem pN(C:Cm):(A1 C).nums.length=9:=by unfold A1;split;rfl;exact FF C _
theorem OL(C:Cm):BH C=-1∨BH C=0∨BH C=1:=by unfold BH OK;(repeat' split) <;> simp
theorem AmG{C:Cm}(ho:C.out=false)(ok:C.ok){k:Nat}(hk:k<2):FT C (k:Int)=(pI C k,0):=by
 have h1:=ok.fits.pages
 have h2:=ok.may.area
 have h3:C.cfg.np=2+2*C.cfg.area:=rfl
 unfold FT
 rw[EK ho (by omega) (by omega),if_neg (by simp),Int.toNat_natCast];rfl
theorem AmF{C:Cm}(ho:C.out=true)(k:Int):FT C k=(inf0,8):=by
 unfold FT AT
 rw[if_pos ho,if_pos (by decide)]
structure Fnd where
 p:Inf
 q:Inf
 n:Int
def BL(C:Cm):Fnd×Int:=if C.out=true then (⟨inf0,inf0,0⟩,8) else (⟨pI C 0,pI C 1,BH C⟩,0)
theorem aJ(C:Cm):(BL C).1.p.nums.length=9/\(BL C).1.q.nums.length=9:=by
 unfold BL;split
 ·exact⟨rfl,rfl⟩
 ·exact⟨FF C 0,FF C 1⟩
abbrev BY(l p:Nat):Ent:=blk l [.pointer (some ⟨p,0,none⟩)]
theorem aI{Q:Int->List Int->Int->Bool->Int->Int->List Int->Int->Bool->Int->Int->Int->HP}(hs:Sat h0 A h)(ci:At A i (AH p C))(cl:At A j (BY r p))
  (k:∀h',Sat h0 A h'->Q (BL C).1.p.head (BL C).1.p.nums (BL C).1.p.next (BL C).1.p.blank (BL C).1.p.torn (BL C).1.q.head (BL C).1.q.nums (BL C).1.q.next (BL C).1.q.blank (BL C).1.q.torn (BL C).1.n (BL C).2 h'):
  F5 ⟨r,0,none⟩ Q h:=by
 unfold F5 gX
 try simp only[AF,Nat.zero_add]
 have ok:=CG hs ci
 have z9:inf0.nums.length=9:=rfl
 intro n4 _ hn;replace hs:=Sat.new hs hn
 intro n7 _ hn;replace hs:=Sat.new hs hn
 replace hs:Sat h0 (blk n7 (BE inf0 inf0 0)::blk n4 (BE inf0 inf0 0)::A) _:=hs
 refine⟨Sat.can hs (i:=0) (by repeat constructor) (by decide),?_⟩
 intro h2 e
 replace hs:=Sat.wra hs (i:=0) (by repeat constructor) e (by rfl)
 clear e
 replace hs:Sat h0 (blk n7 (BE inf0 inf0 (-1))::blk n4 (BE inf0 inf0 0)::A) _:=hs
 intro J hJ
 obtain⟨G,hG⟩:∃G:Nat->Inf×Inf,G=fun n=>(if 0<n then pI C 0 else inf0,if 1<n then pI C 1 else inf0):=⟨_,rfl⟩
 have hG0:G 0=(inf0,inf0):=by rw[hG];rfl
 have hG2:G 2=(pI C 0,pI C 1):=by rw[hG];rfl
 have hGl:∀n,(G n).1.nums.length=9/\(G n).2.nums.length=9:=by
  intro n;rw[hG];dsimp only
  exact⟨by split;exact FF C 0;rfl,by split;exact FF C 1;rfl⟩
 have hs1:Sat h0 (blk n7 (BE (G 0).1 (G 0).2 (-1))::blk n4 (BE inf0 inf0 0)::A) h2:=by rw[hG0];exact hs
 clear hs
 refine BB 2 (fun n h=>(n≠0->C.out=false)/\Sat h0 (blk n7 (BE (G n).1 (G n).2 (-1))::blk n4 (BE inf0 inf0 0)::A) h) ?_ ?_ 0 _ (by omega) ⟨fun y=>absurd rfl y,hs1⟩
 ·rintro n h3 hn ⟨hno,hs⟩ hk
  apply hJ
  rw[AD,if_pos (by simp;omega)]
  refine⟨_,hs.ld cl.s.s rfl,_,rfl,?_⟩
  refine AeE hs ci.s.s (n:Int) ?_
  intro h4 hs
  have hll:=AmE C (n:Int)
  intro n24 _ hn24;replace hs:=Sat.new hs hn24;clear hn24
  refine⟨Sat.can hs (by repeat constructor) (by decide),?_⟩
  intro h5 e
  replace hs:=Sat.wra hs (by repeat constructor) e ((DO hll).trans rfl)
  clear e
  simp only[put]at hs
  by_cases ho:C.out=true
  ·rw[AmF ho]at hs ⊢
   rw[if_pos (by simp)]
   refine⟨Sat.can hs (by repeat constructor) (by decide),?_⟩
   intro h6 e
   replace hs:=Sat.wra hs (i:=2) (by repeat constructor) e (by rfl)
   clear e
   simp only[put]at hs
   replace hs:Sat h0 (blk n24 (B3 inf0)::blk n7 (BE (G n).1 (G n).2 (-1))::blk n4 (BE inf0 inf0 0)::A) h6:=hs
   have L:=hs.fnd (i:=2) (by repeat constructor) z9 z9
   refine⟨_,L.a0,_,‹_›,L.a1,_,L.a10,_,L.a11,_,L.a12,_,L.a13,_,‹_›,L.a14,_,L.a23,_,L.a24,_,L.a25,_,L.a26,?_⟩
   have e:BL C=(⟨inf0,inf0,0⟩,8):=by unfold BL;rw[if_pos ho]
   rw[e]at k
   exact k _ hs.drop.drop.drop
  ·have ho':C.out=false:=by simpa using ho
   have el:=AmG ho' ok (k:=n) hn
   rw[el]at hs ⊢
   rw[if_neg (by simp)]
   have hpl:=FF C n
   obtain⟨L0,L1,L10,L11,L12⟩:=hs.infAt (i:=0) (by repeat constructor) hpl
   refine⟨_,L0,_,hpl,L1,_,L10,_,L11,_,L12,by omega,by omega,?_⟩
   rw[Int.toNat_natCast]
   refine⟨Sat.can hs (i:=1) (by repeat constructor) (by rw[FB (hGl n).1 (hGl n).2];omega),?_⟩
   intro h6 e
   replace hs:=Sat.wr hs (i:=1) (by repeat constructor) e
   clear e
   simp only[put]at hs
   rw[AU (by omega)]
   refine hk _ ⟨fun _=>ho',?_⟩
   have hn2:n=0∨n=1:=by omega
   have e2:AR (BE (G n).1 (G n).2 (-1)) (n*13) (B3 (pI C n))=BE (G (n+1)).1 (G (n+1)).2 (-1):=by
    rcases hn2 with rfl | rfl
    ·rw[hG0]
     show AR _ 0 _=_
     rw[AkX z9 hpl,hG];rfl
    ·have:G 1=(pI C 0,inf0):=by rw[hG];rfl
     rw[this]
     show AR _ 13 _=_
     rw[AkY (FF C 0) z9 hpl,hG];rfl
   rw[e2]at hs
   exact hs.drop
 ·rintro h3 ⟨hno,hs⟩
  have ho:C.out=false:=hno (by decide)
  rw[hG2]at hs
  dsimp only at hs
  apply hJ
  rw[AD,if_neg (by simp)]
  clear hJ J hG0 hG2 hGl hG hs1
  have l0:=FF C 0
  have l1:=FF C 1
  have L:=hs.fnd .z l0 l1
  refine⟨by decide,by decide,_,L.a0,by decide,by decide,_,L.a13,?_⟩
  have e:BL C=(⟨pI C 0,pI C 1,BH C⟩,0):=by unfold BL;rw[if_neg (by simp[ho])]
  rw[e]at k
  dsimp only at k
  have pc:BH C=OK (pI C 0).head (pI C 1).head:=rfl
  unfold OK at pc
  have w26:∀(m:Int) (h':H) (A':List Ent),Sat h0 (blk n7 (AR (BE (pI C 0) (pI C 1) (-1)) 26 [.int .i64 m])::A') h'->Sat h0 (blk n7 (BE (pI C 0) (pI C 1) m)::A') h':=fun m h' A' y=>by rw[AkZ l0 l1]at y;exact y
  have c26:∀h',Sat h0 (blk n7 (BE (pI C 0) (pI C 1) (-1))::blk n4 (BE inf0 inf0 0)::A) h'->AC h' ⟨n7,26,none⟩ 1:=fun h' y=>Sat.can y .z (by rw[FB l0 l1];omega)
  by_cases g1:0<(pI C 0).head
  ·rw[AD,if_pos (by simpa using g1)]
   by_cases g2:(pI C 1).head≤(pI C 0).head
   ·rw[A0,if_pos (by simpa using g2)]
    refine⟨c26 _ hs,?_⟩
    intro h4 e4
    replace hs:=Sat.wr hs .z e4
    clear e4
    replace hs:=w26 _ _ _ hs
    (have L:=hs.fnd .z l0 l1;refine⟨_,L.a0,_,‹_›,L.a1,_,L.a10,_,L.a11,_,L.a12,_,L.a13,_,‹_›,L.a14,_,L.a23,_,L.a24,_,L.a25,_,L.a26,?_⟩;refine⟨Sat.can hs (by repeat constructor) (by decide),?_⟩;intro h9 e9;replace hs:=Sat.wra hs (i:=1) (by repeat constructor) e9 (by rw[FB z9 z9];exact (FB (n:=0) l0 l1));clear e9;simp only[put]at hs;replace hs:Sat h0 (blk n7 (BE (pI C 0) (pI C 1) (0))::blk n4 (BE (pI C 0) (pI C 1) (0))::A) h9:=hs;have L:=hs.fnd zs1 l0 l1;refine⟨_,L.a0,_,‹_›,L.a1,_,L.a10,_,L.a11,_,L.a12,_,L.a13,_,‹_›,L.a14,_,L.a23,_,L.a24,_,L.a25,_,L.a26,?_⟩;rw[show BH C=0 by rw[pc];simp[*]]at k;exact k _ hs.drop.drop)
   ·rw[A0,if_neg (by simpa using g2),AD,if_pos (by simp;omega)]
    refine⟨c26 _ hs,?_⟩
    intro h4 e4
    replace hs:=Sat.wr hs .z e4
    clear e4
    replace hs:=w26 _ _ _ hs
    have g3:0<(pI C 1).head:=by omega
    (have L:=hs.fnd .z l0 l1;refine⟨_,L.a0,_,‹_›,L.a1,_,L.a10,_,L.a11,_,L.a12,_,L.a13,_,‹_›,L.a14,_,L.a23,_,L.a24,_,L.a25,_,L.a26,?_⟩;refine⟨Sat.can hs (by repeat constructor) (by decide),?_⟩;intro h9 e9;replace hs:=Sat.wra hs (i:=1) (by repeat constructor) e9 (by rw[FB z9 z9];exact (FB (n:=1) l0 l1));clear e9;simp only[put]at hs;replace hs:Sat h0 (blk n7 (BE (pI C 0) (pI C 1) (1))::blk n4 (BE (pI C 0) (pI C 1) (1))::A) h9:=hs;have L:=hs.fnd zs1 l0 l1;refine⟨_,L.a0,_,‹_›,L.a1,_,L.a10,_,L.a11,_,L.a12,_,L.a13,_,‹_›,L.a14,_,L.a23,_,L.a24,_,L.a25,_,L.a26,?_⟩;rw[show BH C=1 by rw[pc];simp[*]]at k;exact k _ hs.drop.drop)
  ·rw[AD,if_neg (by simpa using g1)]
   by_cases g3:0<(pI C 1).head
   ·rw[AD,if_pos (by simpa using g3)]
    refine⟨c26 _ hs,?_⟩
    intro h4 e4
    replace hs:=Sat.wr hs .z e4
    clear e4
    replace hs:=w26 _ _ _ hs
    (have L:=hs.fnd .z l0 l1;refine⟨_,L.a0,_,‹_›,L.a1,_,L.a10,_,L.a11,_,L.a12,_,L.a13,_,‹_›,L.a14,_,L.a23,_,L.a24,_,L.a25,_,L.a26,?_⟩;refine⟨Sat.can hs (by repeat constructor) (by decide),?_⟩;intro h9 e9;replace hs:=Sat.wra hs (i:=1) (by repeat constructor) e9 (by rw[FB z9 z9];exact (FB (n:=1) l0 l1));clear e9;simp only[put]at hs;replace hs:Sat h0 (blk n7 (BE (pI C 0) (pI C 1) (1))::blk n4 (BE (pI C 0) (pI C 1) (1))::A) h9:=hs;have L:=hs.fnd zs1 l0 l1;refine⟨_,L.a0,_,‹_›,L.a1,_,L.a10,_,L.a11,_,L.a12,_,L.a13,_,‹_›,L.a14,_,L.a23,_,L.a24,_,L.a25,_,L.a26,?_⟩;rw[show BH C=1 by rw[pc];simp[*]]at k;exact k _ hs.drop.drop)
   ·rw[AD,if_neg (by simpa using g3)]
    (have L:=hs.fnd .z l0 l1;refine⟨_,L.a0,_,‹_›,L.a1,_,L.a10,_,L.a11,_,L.a12,_,L.a13,_,‹_›,L.a14,_,L.a23,_,L.a24,_,L.a25,_,L.a26,?_⟩;refine⟨Sat.can hs (by repeat constructor) (by decide),?_⟩;intro h9 e9;replace hs:=Sat.wra hs (i:=1) (by repeat constructor) e9 (by rw[FB z9 z9];exact (FB (n:=-1) l0 l1));clear e9;simp only[put]at hs;replace hs:Sat h0 (blk n7 (BE (pI C 0) (pI C 1) (-1))::blk n4 (BE (pI C 0) (pI C 1) (-1))::A) h9:=hs;have L:=hs.fnd zs1 l0 l1;refine⟨_,L.a0,_,‹_›,L.a1,_,L.a10,_,L.a11,_,L.a12,_,L.a13,_,‹_›,L.a14,_,L.a23,_,L.a24,_,L.a25,_,L.a26,?_⟩;rw[show BH C=-1 by rw[pc];simp[*]]at k;exact k _ hs.drop.drop)
def GC(p q:Inf)(n:Int):Inf:=if n<0 then inf0 else if n=0 then p else q
theorem N9(C:Cm):A1 C=GC (pI C 0) (pI C 1) (BH C):=by
 unfold A1 GC
 rcases OL C with e | e | e <;> rw[e] <;> simp
theorem N4{Q:Int->List Int->Int->Bool->Int->HP}{P R:Inf}{n:Int}(hp:P.nums.length=9)(hr:R.nums.length=9)(hn:n<2)(hs:Sat h0 A h)
  (k:∀h',Sat h0 A h'->Q (GC P R n).head (GC P R n).nums (GC P R n).next (GC P R n).blank (GC P R n).torn h'):EX P.head P.nums P.next P.blank P.torn R.head R.nums R.next R.blank R.torn n Q h:=by
 unfold EX iA
 try simp only[AF,Nat.zero_add]
 intro n13 _ hn13;replace hs:=Sat.new hs hn13;clear hn13
 intro n16 _ hn16;replace hs:=Sat.new hs hn16;clear hn16
 replace hs:Sat h0 (blk n16 (B3 inf0)::blk n13 (BE P R n)::A) _:=hs
 have z9:inf0.nums.length=9:=rfl
 have L:=hs.fnd zs1 hp hr
 refine⟨_,L.a26,?_⟩
 by_cases g:n<0
 ·rw[AD,if_pos (by simpa using g)]
  refine⟨Sat.can hs .z (by decide),?_⟩
  intro h4 e
  replace hs:=Sat.wra hs .z e (by rfl)
  clear e
  replace hs:Sat h0 (blk n16 (B3 inf0)::blk n13 (BE P R n)::A) _:=hs
  obtain⟨L0,L1,L10,L11,L12⟩:=hs.infAt .z z9
  refine⟨_,L0,_,z9,L1,_,L10,_,L11,_,L12,?_⟩
  have e:GC P R n=inf0:=by unfold GC;rw[if_pos g]
  rw[e]at k
  exact k _ hs.drop.drop
 rw[AD,if_neg (by simpa using g)]
 refine⟨_,L.a26,by omega,by omega,?_⟩
 -- either page
 have fin:∀(S:Inf),S.nums.length=9->GC P R n=S->∀h',Sat h0 (blk n16 (B3 inf0)::blk n13 (BE P R n)::A) h'->AC h' ⟨n16,0,none⟩ 13/\∀h2,h2=hwr h' ⟨n16,0,none⟩ (B3 S)->
   ∃i0,hc h2 ⟨n16,0,none⟩=some (.int .i64 i0)/\∃l1:List Int,l1.length=9/\hrow h2 ⟨n16,1,none⟩ .i64 l1/\∃i10,hc h2 ⟨n16,10,none⟩=some (.int .i64 i10)/\∃b11,hc h2 ⟨n16,11,none⟩=some (.bool b11)/\∃i12,hc h2 ⟨n16,12,none⟩=some (.int .i64 i12)/\Q i0 l1 i10 b11 i12 h2:=by
  intro S hS e h' hs
  refine⟨Sat.can hs .z (by decide),?_⟩
  intro h4 e4
  replace hs:=Sat.wra hs .z e4 ((DO hS).trans rfl)
  clear e4
  replace hs:Sat h0 (blk n16 (B3 S)::blk n13 (BE P R n)::A) _:=hs
  obtain⟨L0,L1,L10,L11,L12⟩:=hs.infAt .z hS
  refine⟨_,L0,_,hS,L1,_,L10,_,L11,_,L12,?_⟩
  rw[e]at k
  exact k _ hs.drop.drop
 have h01:n=0∨n=1:=by omega
 rcases h01 with rfl | rfl
 ·simp only[Int.toNat_zero,Nat.zero_mul,Nat.zero_add]
  exact⟨_,L.a0,_,hp,L.a1,_,L.a10,_,L.a11,_,L.a12,fin P hp (by unfold GC;simp) _ hs⟩
 ·simp only[Int.toNat_one,Nat.one_mul,Nat.reduceAdd]
  exact⟨_,L.a13,_,hr,L.a14,_,L.a23,_,L.a24,_,L.a25,fin R hr (by unfold GC;simp) _ hs⟩
def ER(C:Cm):Int:=if C.out=true then -1 else BH C
def DC(C:Cm):Int:=if C.out=true then 0 else if BH C<0 then 0 else C.cfg.cells-(A1 C).next
def GY(C:Cm):Bool:=(!(pI C (B4 C)).blank&&decide (C.cfg.erases≤C.er (B4 C))) || decide (A8≤(A1 C).head)
def GZ(C:Cm):Bool:=if C.out=true then false else GY C
theorem sA{Q:Option Addr->Int->HP}(hs:Sat h0 A h)(ci:At A i (AH p C))(k1:C.out=true->Q none 8 h)(k2:C.out=false->∀l h',Sat h0 (BY l p::A) h'->Q (some ⟨l,0,none⟩) 0 h'):KB ⟨p,0,none⟩ Q h:=by
 unfold KB hH
 refine RX hs ci ?_
 by_cases ho:C.out=true
 ·rw[if_pos ho];exact k1 ho
 ·rw[if_neg ho]
  intro l _ hn;replace hs:=Sat.new hs hn
  exact k2 (by simpa using ho) _ _ hs
theorem AdV{Q:Int->HP}(hs:Sat h0 A h)(ci:At A i (AH p C))(cl:At A j (BY r p))(k:∀h',Sat h0 A h'->Q (IntKind.i64.wrap (DC C)) h'):PU ⟨r,0,none⟩ Q h:=by
 unfold PU gT
 try simp only[AF,Nat.zero_add]
 refine aI hs ci cl ?_
 intro h1 hs
 obtain⟨lp,lq⟩:=aJ C
 intro n17 _ hn;replace hs:=Sat.new hs hn
 refine⟨Sat.can hs .z (by decide),?_⟩
 intro h2 e
 replace hs:=Sat.wra hs .z e (by rw[FB lp lq];rfl)
 clear e
 replace hs:Sat h0 (blk n17 (BE (BL C).1.p (BL C).1.q (BL C).1.n)::A) h2:=hs
 unfold DC at k
 by_cases ho:C.out=true
 ·have e:BL C=(⟨inf0,inf0,0⟩,8):=by unfold BL;rw[if_pos ho]
  rw[if_pos ho]at k
  rw[e,if_pos (by simp)]
  exact k _ hs.drop
 ·have e:BL C=(⟨pI C 0,pI C 1,BH C⟩,0):=by unfold BL;rw[if_neg ho]
  rw[if_neg ho]at k
  rw[e]at hs lp lq ⊢
  dsimp only at hs lp lq ⊢
  have L:=hs.fnd .z lp lq
  rw[if_neg (by simp)]
  refine⟨_,L.a26,?_⟩
  by_cases g:BH C<0
  ·rw[if_pos g]at k
   rw[AD,if_pos (by simpa using g)]
   exact k _ hs.drop
  rw[if_neg g]at k
  rw[AD,if_neg (by simpa using g)]
  refine⟨_,hs.ld cl.s rfl,?_⟩
  refine⟨_,L.a0,_,‹_›,L.a1,_,L.a10,_,L.a11,_,L.a12,_,L.a13,_,‹_›,L.a14,_,L.a23,_,L.a24,_,L.a25,_,L.a26,?_⟩
  refine⟨_,rfl,?_⟩
  refine CE hs ci.s ?_
  intro h3 hs
  refine⟨Sat.whole hs .z,?_⟩
  have hc2:=OL C
  refine N4 lp lq (by omega) hs ?_
  intro h4 hs
  rw[←N9]
  exact k _ hs.drop
end
def EV(t:Int)(nums:List Int):Nat->Nat->Nat->Cm->Cm×Int
 | 0,_,_,C=>(C,0)
 | m+1,x,at_,C=>if nums.getD x 0=0 then EV t nums m (x+1) at_ C
  else if (CS C t (at_:Int) (C3 (x:Int) (nums.getD x 0)).1).2≠0 then CS C t (at_:Int) (C3 (x:Int) (nums.getD x 0)).1
  else EV t nums m (x+1) (at_+1) (CS C t (at_:Int) (C3 (x:Int) (nums.getD x 0)).1).1
def EU(g:Int)(t:Int)(nums:List Int)(m:Nat)(C:Cm):Cm×Int:=
 if (EV t nums m 0 1 C).2≠0 then EV t nums m 0 1 C else CS (EV t nums m 0 1 C).1 t 0 (DN (g+1)).1
def ND(C:Cm)(slot:Nat)(n:Int):Cm×Int:=
 if (pI C (B4 C)).blank=true then EU (A1 C).head (B4 C:Int) ((A1 C).nums.set slot n) (C.cfg.slots+1).toNat C
 else if (CA C (B4 C:Int)).2≠0 then CA C (B4 C:Int)
 else EU (A1 C).head (B4 C:Int) ((A1 C).nums.set slot n) (C.cfg.slots+1).toNat (CA C (B4 C:Int)).1
def EQ(C:Cm)(slot n:Int):Cm×Int:=
 if C.out=true then (C,8)
 else if ¬(0≤slot/\slot≤C.cfg.slots/\1≤n/\n≤A8) then (C,2)
 else if n≤(A1 C).nums.getD slot.toNat 0 then (C,11)
 else if 0≤BH C/\(A1 C).next<C.cfg.cells then CS C (BH C) (A1 C).next (C3 slot n).1
 else if GY C=true then (C,9)
 else ND C slot.toNat n
def DF(C:Cm)(slot:Int):Int×Int:=if C.out=true then (0,8) else if ¬(0≤slot/\slot≤C.cfg.slots) then (0,2) else ((A1 C).nums.getD slot.toNat 0,0)
section
variable {h0 h:H} {A:List Ent} {i j p r b:Nat} {C:Cm}
theorem Ab5{Q:Bool->HP}(hs:Sat h0 A h)(ci:At A i (AH p C))(cl:At A j (BY r p))(n:Int)(k:∀h',Sat h0 A h'->Q (decide (0≤n/\n≤C.cfg.slots)) h'):J8 ⟨r,0,none⟩ n Q h:=by
 unfold J8 gY
 by_cases g:0≤n
 ·rw[A0,if_pos (by simpa using g)]
  refine⟨_,hs.ld cl rfl,_,rfl,?_⟩
  refine CE hs ci ?_
  intro h1 hs
  have:=k _ hs
  rw[A0]
  simpa[g]using this
 ·rw[A0,if_neg (by simpa using g)]
  have:=k _ hs
  simpa[g]using this
theorem q7{Q:Int->HP}{P R:Inf}{n:Int}(hp:P.nums.length=9)(hr:R.nums.length=9)(hs:Sat h0 A h)(k:∀h',Sat h0 A h'->Q (if n=0 then 1 else 0) h'):
  KC P.head P.nums P.next P.blank P.torn R.head R.nums R.next R.blank R.torn n Q h:=by
 unfold KC iB
 try simp only[AF,Nat.zero_add]
 intro n13 _ hn13;replace hs:=Sat.new hs hn13;clear hn13
 replace hs:Sat h0 (blk n13 (BE P R n)::A) _:=hs
 have L:=hs.fnd .z hp hr
 refine⟨_,L.a26,?_⟩
 by_cases g:n=0
 ·rw[if_pos g]at k;rw[if_pos (by simpa using g)];exact k _ hs.drop
 ·rw[if_neg g]at k;rw[if_neg (by simpa using g)];exact k _ hs.drop
theorem cL(C:Cm):(if BH C=0 then (1:Int) else 0)=(B4 C:Int):=by unfold B4;split <;> rfl
theorem vQ(hs:Sat h0 A h){P R:Inf}{n:Int}(m:At A i (blk b (BE P R n)))(hp:P.nums.length=9)(hq:R.nums.length=9){t:Nat}(ht:t<2):hc h ⟨b,t*13+11,none⟩=some (.bool (if t=0 then P.blank else R.blank)):=by
 have L:=hs.fnd m hp hq
 have:t=0∨t=1:=by omega
 rcases this with rfl | rfl
 ·exact L.a11
 ·exact L.a24
theorem zG(C:Cm):(if B4 C=0 then (pI C 0).blank else (pI C 1).blank)=(pI C (B4 C)).blank:=by unfold B4;split <;> simp
theorem cM(C:Cm):B4 C<2:=by unfold B4;split <;> omega
theorem AbW{Q:Bool->HP}(hs:Sat h0 A h)(ci:At A i (AH p C))(cl:At A j (BY r p))(ho:C.out=false)(k:∀h',Sat h0 A h'->Q (GY C) h'):
  KA ⟨r,0,none⟩ (pI C 0).head (pI C 0).nums (pI C 0).next (pI C 0).blank (pI C 0).torn (pI C 1).head (pI C 1).nums (pI C 1).next (pI C 1).blank (pI C 1).torn (BH C) Q h:=by
 unfold KA g9
 try simp only[AF,Nat.zero_add]
 have ok:=CG hs ci
 have l0:=FF C 0
 have l1:=FF C 1
 have hc2:=OL C
 have ht:=cM C
 intro n18 _ hn;replace hs:=Sat.new hs hn
 replace hs:Sat h0 (blk n18 (BE (pI C 0) (pI C 1) (BH C))::A) _:=hs
 have L:=hs.fnd .z l0 l1
 refine⟨_,hs.ld cl.s rfl,?_⟩
 refine⟨_,L.a0,_,‹_›,L.a1,_,L.a10,_,L.a11,_,L.a12,_,L.a13,_,‹_›,L.a14,_,L.a23,_,L.a24,_,L.a25,_,L.a26,?_⟩
 refine q7 l0 l1 hs ?_
 intro h1 hs
 rw[cL]
 refine⟨AI (hs.ld cl.s rfl),_,rfl,?_⟩
 refine dK hs ci.s (B4 C:Int) ?_
 have ee:DS C (B4 C:Int)=(C.er (B4 C),0):=by
  have:=(ok.fits.pages);have h2:=ok.may.area;have h3:C.cfg.np=2+2*C.cfg.area:=rfl
  unfold DS;rw[EK ho (by omega) (by omega),if_neg (by simp),Int.toNat_natCast];rfl
 rw[ee]
 have L:=hs.fnd .z l0 l1
 refine⟨_,L.a0,_,‹_›,L.a1,_,L.a10,_,L.a11,_,L.a12,_,L.a13,_,‹_›,L.a14,_,L.a23,_,L.a24,_,L.a25,_,L.a26,?_⟩
 refine q7 l0 l1 hs ?_
 intro h2 hs
 rw[cL,Int.toNat_natCast]
 refine⟨by omega,by omega,_,vQ hs .z l0 l1 ht,?_⟩
 rw[zG]
 unfold GY at k
 have fin:∀h',Sat h0 (blk n18 (BE (pI C 0) (pI C 1) (BH C))::A) h'->((!(pI C (B4 C)).blank&&decide (C.cfg.erases≤C.er (B4 C)))=false)->∃i63,hc h' ⟨n18,0,none⟩=some (.int .i64 i63)/\∃l64:List Int,l64.length=9/\hrow h' ⟨n18,1,none⟩ .i64 l64/\∃i65,hc h' ⟨n18,10,none⟩=some (.int .i64 i65)/\∃b66,hc h' ⟨n18,11,none⟩=some (.bool b66)/\∃i67,hc h' ⟨n18,12,none⟩=some (.int .i64 i67)/\
   ∃i68,hc h' ⟨n18,13,none⟩=some (.int .i64 i68)/\∃l69:List Int,l69.length=9/\hrow h' ⟨n18,14,none⟩ .i64 l69/\∃i70,hc h' ⟨n18,23,none⟩=some (.int .i64 i70)/\∃b71,hc h' ⟨n18,24,none⟩=some (.bool b71)/\∃i72,hc h' ⟨n18,25,none⟩=some (.int .i64 i72)/\∃i73,hc h' ⟨n18,26,none⟩=some (.int .i64 i73)/\
   EX i63 l64 i65 b66 i67 i68 l69 i70 b71 i72 i73 (fun i74 l75 i76 b77 i78 h79=>∀i80:Int,i80=4611686018427387904->Q (leI i80 i74) h79) h':=by
  intro h' hs e
  have L:=hs.fnd .z l0 l1
  refine⟨_,L.a0,_,‹_›,L.a1,_,L.a10,_,L.a11,_,L.a12,_,L.a13,_,‹_›,L.a14,_,L.a23,_,L.a24,_,L.a25,_,L.a26,?_⟩
  refine N4 l0 l1 (by omega) hs ?_
  intro h3 hs i80 hi80
  rw[←N9]
  rw[e,Bool.false_or]at k
  subst hi80
  rw[A0]
  exact k _ hs.drop
 by_cases g:(pI C (B4 C)).blank=true
 ·rw[if_neg (by rw[g];decide)]
  exact fin _ hs (by rw[g];rfl)
 ·have g':(pI C (B4 C)).blank=false:=by simpa using g
  rw[if_pos (by rw[g'];decide)]
  refine⟨_,hs.ld cl.s rfl,_,rfl,?_⟩
  refine CE hs ci.s ?_
  intro h3 hs
  by_cases g2:C.cfg.erases≤C.er (B4 C)
  ·rw[A0,if_pos (by simpa using g2)]
   have:=k _ hs.drop
   rw[g',decide_eq_true g2]at this
   exact this
  ·rw[A0,if_neg (by simpa using g2)]
   exact fin _ hs (by rw[decide_eq_false g2,Bool.and_false])
theorem sB{Q:Int->Int->HP}(hs:Sat h0 A h)(ci:At A i (AH p C))(cl:At A j (BY r p))(slot:Int)(k:∀h',Sat h0 A h'->Q (DF C slot).1 (DF C slot).2 h'):J6 ⟨r,0,none⟩ slot Q h:=by
 unfold J6 gV
 try simp only[AF,Nat.zero_add]
 have ok:=CG hs ci
 refine aI hs ci cl ?_
 intro h1 hs
 obtain⟨lp,lq⟩:=aJ C
 intro n17 _ hn;replace hs:=Sat.new hs hn
 refine⟨Sat.can hs .z (by decide),?_⟩
 intro h2 e
 replace hs:=Sat.wra hs .z e (by rw[FB lp lq];rfl)
 clear e
 replace hs:Sat h0 (blk n17 (BE (BL C).1.p (BL C).1.q (BL C).1.n)::A) h2:=hs
 unfold DF at k
 by_cases ho:C.out=true
 ·have e:BL C=(⟨inf0,inf0,0⟩,8):=by unfold BL;rw[if_pos ho]
  rw[if_pos ho]at k
  rw[e,if_pos (by simp)]
  exact k _ hs.drop
 have e:BL C=(⟨pI C 0,pI C 1,BH C⟩,0):=by unfold BL;rw[if_neg ho]
 rw[if_neg ho]at k
 rw[e]at hs lp lq ⊢
 dsimp only at hs lp lq ⊢
 rw[if_neg (by simp)]
 refine Ab5 hs ci.s cl.s slot ?_
 intro h3 hs
 by_cases g:0≤slot/\slot≤C.cfg.slots
 case neg=>
  rw[if_pos g]at k
  rw[if_pos (by rw[decide_eq_false g];rfl)]
  exact k _ hs.drop
 rw[if_neg (fun y=>y g)]at k
 rw[if_neg (by rw[decide_eq_true g];decide)]
 have L:=hs.fnd .z lp lq
 refine⟨_,L.a0,_,‹_›,L.a1,_,L.a10,_,L.a11,_,L.a12,_,L.a13,_,‹_›,L.a14,_,L.a23,_,L.a24,_,L.a25,_,L.a26,?_⟩
 have hc2:=OL C
 refine N4 lp lq (by omega) hs ?_
 intro h4 hs
 rw[←N9]
 have:=ok.may.slots
 exact⟨by omega,by omega,k _ hs.drop⟩
end
theorem AoH(x:List Int):0≤(BZ x).2.2/\(BZ x).2.2≤A8:=by
 unfold BZ
 (repeat' split) <;> simp only[A8]at * <;> omega
structure InfOk (I:Inf) (l:Nat):Prop where
 head:0≤I.head/\I.head≤A8
 next:0≤I.next/\I.next≤l
 torn:0≤I.torn/\I.torn≤l
 nums:∀k,0≤I.nums.getD k 0/\I.nums.getD k 0≤A8
theorem cE(l:List Int)(j k:Nat)(v:Int):(l.set j v).getD k 0=if j=k/\k<l.length then v else l.getD k 0:=by
 rw[List.getD_eq_getElem?_getD,List.getElem?_set]
 by_cases c:j=k
 ·subst c
  by_cases d:j<l.length
  ·simp[d]
  ·simp[d]
 ·simp[c]
theorem X7(row:List Int)(n:Nat)(hn:n<2^60):InfOk (ofM row n) n:=by
 induction n with
 | zero=>
  refine⟨by show (0:Int)≤0/\(0:Int)≤A8;decide,by show (0:Int)≤0/\(0:Int)≤0;decide,by show (0:Int)≤0/\(0:Int)≤0;decide,fun k=>?_⟩
  show 0≤(AB 9).getD k 0/\(AB 9).getD k 0≤A8
  have:(AB 9).getD k 0=0:=by
   rw[List.getD_eq_getElem?_getD]
   unfold AB
   rw[List.getElem?_replicate];split <;> rfl
  rw[this];decide
 | succ n ih=>
  obtain⟨i1,i2,i3,i4⟩:=ih (by omega)
  obtain⟨r1,r2⟩:=AoH (AX row n)
  have hl:=OG row n
  unfold ofM JA
  generalize (BZ (AX row n)).1=kind
  generalize (BZ (AX row n)).2.1=slot
  generalize (BZ (AX row n)).2.2=num at *
  generalize ofM row n=I at *
  have hN:InfOk (FV I n kind) (n+1)/\(FV I n kind).torn≤n:=by
   unfold FV
   split
   ·exact⟨⟨i1,by dsimp only;rw[AL (by omega)];omega,by dsimp only;omega,i4⟩,i3.2⟩
   ·exact⟨⟨i1,by omega,by omega,i4⟩,i3.2⟩
  obtain⟨⟨j1,j2,j3,j4⟩,j5⟩:=hN
  generalize FV I n kind=J at *
  unfold FQ
  split
  ·exact⟨j1,j2,by dsimp only;rw[AL (by omega)];omega,j4⟩
  ·split
   ·exact⟨⟨r1,r2⟩,j2,j3,j4⟩
   ·split
    ·refine⟨j1,j2,j3,fun k=>?_⟩
     dsimp only
     rw[cE]
     split
     ·have:=j4 slot.toNat
      split <;> omega
     ·exact j4 k
    ·exact⟨j1,j2,j3,j4⟩
theorem AnI(row:List Int)(n:Nat)(hn:n<2^60):InfOk (HV row n) n:=⟨(X7 row n hn).1,(X7 row n hn).2,(X7 row n hn).3,(X7 row n hn).4⟩
theorem qE{C:Cm}(ok:C.ok)(k:Nat):InfOk (pI C k) C.cfg.cells.toNat:=AnI _ _ (by have:=ok.may.cells;omega)
theorem SD{C:Cm}(ok:C.ok):InfOk (A1 C) C.cfg.cells.toNat:=by
 unfold A1
 split
 ·refine⟨by decide,⟨by decide,by show (0:Int)≤_;omega⟩,⟨by decide,by show (0:Int)≤_;omega⟩,fun k=>?_⟩
  have:=(X7 [] 0 (by decide)).nums k
  exact this
 ·exact qE ok _
theorem AnN{a b:Int}(ha:0≤a)(hb:0≤b):OK a b=if a=0/\b=0 then -1 else if a<b then 1 else 0:=by
 unfold OK;(repeat' split) <;> omega
section
variable {h0 h:H} {A:List Ent} {i j p r l b:Nat} {C:Cm}
theorem YC(hs:Sat h0 A h)(cj:At A j (AK r C)){k:Nat}(hk:(k:Int)<C.s.pages.length):
  ∃(pl pc:Nat) (q:Addr) (xp:Option Addr) (xl xc:Nat),hc h ⟨r,7,none⟩=some (.slice (some q) pl pc)/\(k:Int)<pl/\hc h (q.add k)=some (.slice xp xl xc)/\xl=C.cfg.cells.toNat/\hsv h xp 32 xl (AA .u8 (C.pg k))/\A4 (C.pg k)/\xl<2^60:=by
 obtain⟨w,ok,cl,rdm⟩:=qP hs cj
 have hkn:k<C.s.pages.length:=by omega
 obtain⟨q,x,hq,hx,hrd⟩:=rdm.at hkn
 have hl:=rdm.len
 have he:C.pg k=C.s.pages[k]:=by unfold Cm.pg;simp[List.getD,List.getElem?_eq_getElem hkn]
 have hcl:=ok.fits.cells _ (List.getElem_mem hkn)
 have hm:=ok.may.cells
 have hxl:x.2.1*32=C.s.pages[k].length:=by have:=hrd.1;simp at this;omega
 refine⟨w.a.2.1,w.a.2.2,q,x.1,x.2.1,x.2.2,?_,by omega,by rw[Nat.mul_one]at hx;exact hx,by omega,by rw[he];exact hrd,by rw[he];exact ok.typed.bytes _ (List.getElem_mem hkn),by omega⟩
 have:=cl 7 _ rfl
 rw[this]
 obtain⟨⟨a1,a2,a3⟩,b,c,m⟩:=w
 dsimp only at hq ⊢
 rw[←hq]
theorem aR{C:Cm}(ok:C.ok):(2:Int)≤C.s.pages.length/\(2:Int)≤C.s.erases.length:=by
 have h1:=ok.fits.pages
 have h4:=ok.fits.erases
 have h2:=ok.may.area
 have h3:C.cfg.np=2+2*C.cfg.area:=rfl
 omega
theorem FX(hs:Sat h0 A h)(cj:At A j (AK r C)):C.ok:=(qP hs cj).choose_spec.1
theorem DK(hs:Sat h0 A h)(cj:At A j (AK r C)):∃w:Pl,∀o v,(C.cells w.a w.b w.c w.m)[o]?=some v->hc h ⟨r,o,none⟩=some v:=by
 obtain⟨w,_,cl,_⟩:=qP hs cj
 exact⟨w,cl⟩
theorem aY{Q:Int->HP}(hs:Sat h0 A h)(cj:At A j (AK r C))(cl:At A i (BY l r))(k:∀h',Sat h0 A h'->Q (ER C) h'):F7 ⟨l,0,none⟩ Q h:=by
 unfold F7 kK
 have ok:=FX hs cj
 obtain⟨w,lc⟩:=DK hs cj
 refine⟨_,hs.ld cl rfl,_,rfl,_,lc 11 _ rfl,?_⟩
 unfold ER at k
 by_cases ho:C.out=true
 ·rw[if_pos ho]at k ⊢;exact k _ hs
 rw[if_neg ho]at k ⊢
 have h2:=(aR ok).1
 obtain⟨pl,pc,q,xp,xl,xc,e7,hl,hx,exl,hrd,hb,hl60⟩:=YC hs cj (k:=0) (by omega)
 refine⟨_,hs.ld cl rfl,_,rfl,_,_,_,e7,_,rfl,by decide,by omega,_,_,_,by rw[add_zero]at hx;exact hx,?_⟩
 refine W8 (A:=[]) (Sat.init _) (fun h' hs'=>EC hs'.ex hrd (fun _ _ y=>y)) hb hl60 ?_
 intro h1 hs2;replace hs:=hs.ext hs2.ex;clear hs2
 subst exl
 obtain⟨pl,pc,q,xp,xl,xc,e7,hl,hx,exl,hrd,hb,hl60⟩:=YC hs cj (k:=1) (by omega)
 refine⟨_,hs.ld cl rfl,_,rfl,_,_,_,e7,_,rfl,by decide,by omega,_,_,_,hx,?_⟩
 refine W8 (A:=[]) (Sat.init _) (fun h' hs'=>EC hs'.ex hrd (fun _ _ y=>y)) hb hl60 ?_
 intro h2 hs2;replace hs:=hs.ext hs2.ex;clear hs2
 subst exl
 have o0:=(qE ok 0).head.1
 have o1:=(qE ok 1).head.1
 have e:BH C=OK (pI C 0).head (pI C 1).head:=rfl
 rw[AnN o0 o1]at e
 rw[e]at k
 show if ((pI C 0).head == 0)=true then _ else _
 by_cases g1:(pI C 0).head=0
 ·rw[if_pos (by simpa using g1)]
  show if ((pI C 1).head == 0)=true then _ else _
  by_cases g2:(pI C 1).head=0
  ·rw[if_pos ⟨g1,g2⟩]at k
   rw[if_pos (by simpa using g2)];exact k _ hs
  ·rw[if_neg (fun y=>g2 y.2)]at k
   rw[if_neg (by simpa using g2)]
   show if ltI (pI C 0).head (pI C 1).head=true then _ else _
   rw[AD]
   by_cases g3:(pI C 0).head<(pI C 1).head
   ·rw[if_pos g3]at k;rw[if_pos (by simpa using g3)];exact k _ hs
   ·rw[if_neg g3]at k;rw[if_neg (by simpa using g3)];exact k _ hs
 ·rw[if_neg (fun y=>g1 y.1)]at k
  rw[if_neg (by simpa using g1)]
  show if ltI (pI C 0).head (pI C 1).head=true then _ else _
  rw[AD]
  by_cases g3:(pI C 0).head<(pI C 1).head
  ·rw[if_pos g3]at k;rw[if_pos (by simpa using g3)];exact k _ hs
  ·rw[if_neg g3]at k;rw[if_neg (by simpa using g3)];exact k _ hs
def GG(C:Cm):Inf:=if C.out=true then inf0 else A1 C
theorem YB{Q:Int->List Int->Int->Bool->Int->HP}(hs:Sat h0 A h)(cj:At A j (AK r C))(cl:At A i (BY l r))
  (k:∀h',Sat h0 A h'->Q (GG C).head (GG C).nums (GG C).next (GG C).blank (GG C).torn h'):EY ⟨l,0,none⟩ Q h:=by
 unfold EY kN
 try simp only[AF,Nat.zero_add]
 have ok:=FX hs cj
 have h2:=(aR ok).1
 intro n5 _ hn;replace hs:=Sat.new hs hn
 replace hs:Sat h0 (blk n5 (B3 inf0)::A) _:=hs
 have z9:inf0.nums.length=9:=rfl
 refine aY hs cj.s cl.s ?_
 intro h1 hs
 have e:∀{S:Inf},GG C=S->∀h',Sat h0 A h'->Q S.head S.nums S.next S.blank S.torn h':=fun{S} y=>by rw[y]at k;exact k
 by_cases g:ER C<0
 ·rw[AD,if_pos (by simpa using g)]
  refine⟨Sat.can hs .z (by decide),?_⟩
  intro h4 e4
  replace hs:=Sat.wra hs .z e4 (by rfl)
  clear e4
  replace hs:Sat h0 (blk n5 (B3 inf0)::A) _:=hs
  obtain⟨L0,L1,L10,L11,L12⟩:=hs.infAt .z z9
  refine⟨_,L0,_,z9,L1,_,L10,_,L11,_,L12,?_⟩
  refine e ?_ _ hs.drop
  unfold ER at g
  unfold GG A1
  split
  ·rfl
  ·rename_i y;rw[if_neg y]at g;rw[if_pos g]
 ·have ho:¬C.out=true:=fun y=>by unfold ER at g;rw[if_pos y]at g;exact g (by decide)
  have hp:ER C=BH C:=by unfold ER;rw[if_neg ho]
  have h01:=OL C
  rw[hp]at g ⊢
  rw[AD,if_neg (by simpa using g)]
  obtain⟨pl,pc,q,xp,xl,xc,e7,hl,hx,exl,hrd,hb,hl60⟩:=YC hs cj.s (k:=(BH C).toNat) (by omega)
  refine⟨_,hs.ld cl.s rfl,_,rfl,_,_,_,e7,_,rfl,by omega,by omega,_,_,_,by rw[Nat.mul_one];exact hx,?_⟩
  refine W8 (A:=[]) (Sat.init _) (fun h' hs'=>EC hs'.ex hrd (fun _ _ y=>y)) hb hl60 ?_
  intro h2 hs2;replace hs:=hs.ext hs2.ex;clear hs2
  subst exl
  have hpl:=FF C (BH C).toNat
  refine⟨Sat.can hs .z (by decide),?_⟩
  intro h4 e4
  replace hs:=Sat.wra hs .z e4 ((DO hpl).trans rfl)
  clear e4
  replace hs:Sat h0 (blk n5 (B3 (pI C (BH C).toNat))::A) _:=hs
  obtain⟨L0,L1,L10,L11,L12⟩:=hs.infAt .z hpl
  refine⟨_,L0,_,hpl,L1,_,L10,_,L11,_,L12,?_⟩
  refine e ?_ _ hs.drop
  unfold GG A1
  rw[if_neg ho,if_neg g]
theorem wQ{C:Cm}(ok:C.ok):0≤DC C/\DC C≤256:=by
 have h1:=(SD ok).next
 have h2:=ok.may.cells
 have h3:=ok.may.slots
 unfold DC;(repeat' split) <;> omega
theorem zS{Q:Int->HP}(hs:Sat h0 A h)(cj:At A j (AK r C))(cl:At A i (BY l r))(k:∀h',Sat h0 A h'->Q (DC C) h'):KP ⟨l,0,none⟩ Q h:=by
 unfold KP kH
 have ok:=FX hs cj
 have hfr:=wQ ok
 refine aY hs cj cl ?_
 intro h1 hs
 by_cases g:ER C<0
 ·rw[AD,if_pos (by simpa using g)]
  have e:DC C=0:=by
   unfold DC;unfold ER at g
   split
   ·rfl
   ·rename_i y;rw[if_neg y]at g;rw[if_pos g]
  rw[e]at k;exact k _ hs
 have ho:¬C.out=true:=fun y=>by unfold ER at g;rw[if_pos y]at g;exact g (by decide)
 have hp:ER C=BH C:=by unfold ER;rw[if_neg ho]
 rw[AD,if_neg (by simpa using g)]
 obtain⟨w,lc⟩:=DK hs cj
 refine⟨_,hs.ld cl rfl,_,rfl,_,lc 0 _ rfl,?_⟩
 refine YB hs cj cl ?_
 intro h2 hs
 obtain⟨w2,lc2⟩:=DK hs cj
 refine⟨AI (lc2 0 _ rfl),AI (hs.ld cl rfl),?_⟩
 have e:DC C=C.cfg.cells-(GG C).next:=by
  unfold DC GG
  rw[if_neg ho,if_neg (by rw[←hp];exact g),if_neg ho]
 rw[←e,AL (by omega)]
 exact k _ hs
theorem AnV{Q:Int->HP}(hs:Sat h0 A h)(cj:At A j (AK r C))(k:∀h',Sat h0 A h'->Q (DC C) h'):Q0 ⟨r,0,none⟩ Q h:=by
 unfold Q0 kF
 intro n4 _ hn;replace hs:=Sat.new hs hn
 refine zS hs cj.s .z ?_
 intro h1 hs
 exact k _ hs.drop
end
theorem AbP{x:Nat}{v:Int}(hx:x≤8)(h1:1≤v)(h2:v≤A8):(C3 (x:Int) v).2=0:=by
 unfold C3
 rw[if_neg (by omega),if_neg (by omega),if_neg (by omega),if_neg (by omega)]
theorem AlI{g:Int}(h1:1≤g)(h2:g≤A8):(DN g).2=0:=by
 unfold DN
 rw[if_neg (by omega),if_neg (by omega)]
theorem X5:A8=4611686018427387904:=rfl
section
variable {h0 h:H} {A:List Ent} {i j p r b:Nat} {C:Cm}
theorem AqF{Q:Int->HP}{nm nx nt nl nf:Nat}{nv fv:List Value}{x at_ t:Nat}{v:Int}(hx:x≤8)(hv1:1≤v)(hv2:v≤A8)(hat:at_<2^60)
  (hs:Sat h0 (blk nm nv::blk nx [.int .i64 (at_:Int)]::blk nt [.int .i64 (t:Int)]::blk nf fv::blk nl [.pointer (some ⟨r,0,none⟩)]::A) h) (ci:At A i (AH p C)) (cl:At A j (BY r p))
  (k:∀h',Sat h0 (blk nm nv::blk nx [.int .i64 ((at_+1:Nat):Int)]::blk nt [.int .i64 (t:Int)]::blk nf fv::blk nl [.pointer (some ⟨r,0,none⟩)]::put A i (AH p (CS C (t:Int) (at_:Int) (C3 (x:Int) v).1).1)) h'->Q (CS C (t:Int) (at_:Int) (C3 (x:Int) v).1).2 h'):
  PY (x:Int) v ⟨nx,0,none⟩ ⟨nl,0,none⟩ ⟨nt,0,none⟩ Q h:=by
 unfold PY g8
 simp only[List.append_nil]
 refine uT (x:Int) v hs ?_
 intro h1 hs
 have hl:=YO (x:Int) v
 rw[AbP hx hv1 hv2]
 generalize (C3 (x:Int) v).1=rec at *
 intro n12 _ hn;replace hs:=Sat.new hs hn
 refine⟨Sat.can hs .z (by simp[AB]),?_⟩
 intro h2 e2
 replace hs:=Sat.wra hs .z e2 (by simp[AB,hl])
 clear e2
 simp only[put]at hs
 rw[if_neg (by simp)]
 refine⟨_,Sat.ld hs (by repeat constructor) (by rfl),?_⟩
 (refine⟨Sat.can hs (by repeat constructor) (by simp),?_⟩;intro _ e;replace hs:=Sat.wr hs (by repeat constructor) e;clear e;simp only[put,AR,List.set]at hs)
 rw[AU (by omega)]at hs
 refine⟨_,Sat.ld hs (by repeat constructor) (by rfl),?_⟩
 refine⟨_,rfl,_,hs.ld cl.s.s.s.s.s.s rfl,?_⟩
 refine⟨_,Sat.ld hs (by repeat constructor) (by rfl),?_⟩
 refine⟨_,Sat.ld hs (by repeat constructor) (by rfl),?_⟩
 refine⟨_,hl,hs.row0 .z,_,rfl,?_⟩
 have ea:IntKind.i64.wrap (((at_+1:Nat):Int)-1)=(at_:Int):=by rw[AL (by omega)];omega
 rw[ea]
 refine Y3 hs ci.s.s.s.s.s.s (t:Int) (at_:Int) rec hl ?_
 intro h3 hs
 simp only[AS]at hs
 exact k _ hs.drop
theorem AqG{Q:Int->HP}(hs:Sat h0 A h)(ci:At A i (AH p C))(cl:At A j (BY r p))(hij:j≠i)(slot:Nat)(n:Int)(hsl:(slot:Int)≤C.cfg.slots)(hn1:1≤n)(hn2:n≤A8)(hg:(A1 C).head<A8)
  (k:∀h',Sat h0 (put A i (AH p (ND C slot n).1)) h'->Q (ND C slot n).2 h'):
  PX ⟨r,0,none⟩ (pI C 0).head (pI C 0).nums (pI C 0).next (pI C 0).blank (pI C 0).torn (pI C 1).head (pI C 1).nums (pI C 1).next (pI C 1).blank (pI C 1).torn (BH C) (slot:Int) n Q h:=by
 unfold PX gZ
 try simp only[AF,Nat.zero_add,List.append_nil]
 have ok:=CG hs ci
 have hslots:=ok.may.slots
 have l0:=FF C 0
 have l1:=FF C 1
 have hc2:=OL C
 have ht:=cM C
 have iok:=SD ok
 have ilen:=pN C
 intro n23 _ hn;replace hs:=Sat.new hs hn
 intro n26 _ hn;replace hs:=Sat.new hs hn
 replace hs:Sat h0 (blk n26 (BE (pI C 0) (pI C 1) (BH C))::blk n23 [.pointer (some ⟨r,0,none⟩)]::A) _:=hs
 have L:=hs.fnd .z l0 l1
 refine⟨_,L.a0,_,‹_›,L.a1,_,L.a10,_,L.a11,_,L.a12,_,L.a13,_,‹_›,L.a14,_,L.a23,_,L.a24,_,L.a25,_,L.a26,?_⟩
 refine q7 l0 l1 hs ?_
 intro h1 hs
 rw[cL]
 intro n42 _ hn;replace hs:=Sat.new hs hn
 (refine⟨Sat.can hs (by repeat constructor) (by simp),?_⟩;intro _ e;replace hs:=Sat.wr hs (by repeat constructor) e;clear e;simp only[put,AR,List.set]at hs)
 obtain⟨t,htd⟩:∃t,t=B4 C:=⟨_,rfl⟩
 obtain⟨nums,hnums⟩:∃nums,nums=(A1 C).nums.set slot n:=⟨_,rfl⟩
 have hnb:∀x,0≤nums.getD x 0/\nums.getD x 0≤A8:=by
  intro x
  rw[hnums,cE]
  split
  ·omega
  ·exact iok.nums x
 have hnl:nums.length=9:=by rw[hnums,List.length_set,ilen]
 have kk:ND C slot n=if (pI C t).blank=true then EU (A1 C).head (t:Int) nums (C.cfg.slots+1).toNat C else if (CA C (t:Int)).2≠0 then CA C (t:Int) else EU (A1 C).head (t:Int) nums (C.cfg.slots+1).toNat (CA C (t:Int)).1:=by rw[htd,hnums];rfl
 rw[kk]at k
 rw[←htd]at hs ht
 clear kk
 intro J47 hJ47
 -- behind the GQ
 have way:∀(D:Cm) h',D.cfg=C.cfg->Sat h0 (blk n42 [.int .i64 (t:Int)]::blk n26 (BE (pI C 0) (pI C 1) (BH C))::blk n23 [.pointer (some ⟨r,0,none⟩)]::put A i (AH p D)) h'->
   (∀h',Sat h0 (put A i (AH p (EU (A1 C).head (t:Int) nums (C.cfg.slots+1).toNat D).1)) h'->Q (EU (A1 C).head (t:Int) nums (C.cfg.slots+1).toNat D).2 h')->J47 [] h':=by
  intro D h2 hcf hs k
  apply hJ47
  clear hJ47 J47
  have ci2:=ci.put (AH p D)
  have cl2:=cl.put_ne hij (AH p D)
  have pp:∀E:Cm,put (put A i (AH p D)) i (AH p E)=put A i (AH p E):=fun E=>CD _ _ _ _
  generalize put A i (AH p D)=A2 at *
  intro n49 _ hn;replace hs:=Sat.new hs hn
  (refine⟨Sat.can hs (by repeat constructor) (by simp),?_⟩;intro _ e;replace hs:=Sat.wr hs (by repeat constructor) e;clear e;simp only[put,AR,List.set]at hs)
  have L:=hs.fnd zs2 l0 l1
  refine⟨_,L.a0,_,‹_›,L.a1,_,L.a10,_,L.a11,_,L.a12,_,L.a13,_,‹_›,L.a14,_,L.a23,_,L.a24,_,L.a25,_,L.a26,?_⟩
  refine N4 l0 l1 (by omega) hs ?_
  intro h3 hs
  rw[←N9]
  intro n71 _ hn;replace hs:=Sat.new hs hn
  refine⟨Sat.can hs .z (by simp[AB]),?_⟩
  intro h4 e4
  replace hs:=Sat.wra hs .z e4 (by simp[AB,ilen])
  clear e4
  simp only[put]at hs
  refine⟨by omega,by omega,?_⟩
  rw[Int.toNat_natCast,Nat.mul_one]
  refine⟨Sat.can hs .z (by simp[ilen];omega),?_⟩
  intro h5 e5
  replace hs:=Sat.wr hs .z e5
  clear e5
  have e6:AR (AA .i64 (A1 C).nums) slot [.int .i64 n]=AA .i64 nums:=by
   show (AA .i64 (A1 C).nums).set slot (.int .i64 n)=_
   rw[E4,hnums]
  rw[e6]at hs
  simp only[put]at hs
  refine⟨_,hs.ld zs4 rfl,_,rfl,_,hs.ld cl2.s.s.s.s.s rfl,_,rfl,?_⟩
  refine CE hs ci2.s.s.s.s.s ?_
  intro h6 hs
  rw[hcf]
  intro J90 hJ90
  obtain⟨m,hm⟩:∃m,m=(C.cfg.slots+1).toNat:=⟨_,rfl⟩
  rw[←hm]at k
  have hm9:m≤9:=by omega
  have em:IntKind.i64.wrap (C.cfg.slots+1)=(m:Int):=by rw[AL (by omega)];omega
  rw[em]at hJ90
  obtain⟨E,hE⟩:∃E,E=EV (t:Int) nums m 0 1 D:=⟨_,rfl⟩
  have kE:EU (A1 C).head (t:Int) nums m D=if E.2≠0 then E else CS E.1 (t:Int) 0 (DN ((A1 C).head+1)).1:=by unfold EU;rw[←hE]
  rw[kE]at k
  clear kE
  have hs1:∃(F:Cm) (at_:Nat),at_≤0+1/\Sat h0 (blk n71 (AA .i64 nums)::blk n49 [.int .i64 (at_:Int)]::blk n42 [.int .i64 (t:Int)]::blk n26 (BE (pI C 0) (pI C 1) (BH C))::blk n23 [.pointer (some ⟨r,0,none⟩)]::put A2 i (AH p F)) h6/\EV (t:Int) nums (m-0) 0 at_ F=E:=
   ⟨D,1,by omega,by rw[ci2.put_self];exact hs,hE.symm⟩
  clear hs
  refine BB m (fun x h=>∃(F:Cm) (at_:Nat),at_≤x+1/\Sat h0 (blk n71 (AA .i64 nums)::blk n49 [.int .i64 (at_:Int)]::blk n42 [.int .i64 (t:Int)]::blk n26 (BE (pI C 0) (pI C 1) (BH C))::blk n23 [.pointer (some ⟨r,0,none⟩)]::put A2 i (AH p F)) h/\EV (t:Int) nums (m-x) x at_ F=E) ?_ ?_ 0 _ (by omega) hs1
  ·rintro x h7 hx ⟨F,at_,hat,hs,hT⟩ hk
   apply hJ90
   rw[AD,if_pos (by simp;omega)]
   have g:∀h',Sat h0 (blk n71 (AA .i64 nums)::blk n49 [.int .i64 (at_:Int)]::blk n42 [.int .i64 (t:Int)]::blk n26 (BE (pI C 0) (pI C 1) (BH C))::blk n23 [.pointer (some ⟨r,0,none⟩)]::put A2 i (AH p F)) h'->hc h' ⟨n71,x,none⟩=some (.int .i64 (nums.getD x 0)):=fun h' hs'=>hs'.ld .z (by
    rw[BA,List.getElem?_eq_getElem (by omega)];simp[List.getD,List.getElem?_eq_getElem (show x<nums.length by omega)])
   obtain⟨m',hm'⟩:∃m',m-x=m'+1:=⟨m-x-1,by omega⟩
   rw[hm']at hT
   unfold EV at hT
   rw[AU (by omega),Int.toNat_natCast,Nat.mul_one]
   refine⟨by omega,by omega,_,g _ hs,?_⟩
   by_cases gz:nums.getD x 0=0
   ·rw[if_pos gz]at hT
    rw[if_pos (by rw[gz];rfl)]
    exact hk _ ⟨F,at_,by omega,hs,by rw[show m-(x+1)=m' by omega];exact hT⟩
   rw[if_neg gz]at hT
   rw[if_neg (by rw[beq_iff_eq];exact gz)]
   refine⟨by omega,by omega,_,g _ hs,?_⟩
   have hb:=hnb x
   refine AqF (by omega) (by omega) hb.2 (by omega) hs (ci2.put _) (cl2.put_ne hij _) ?_
   intro h8 hs
   rw[CD]at hs
   generalize CS F (t:Int) (at_:Int) (C3 (x:Int) (nums.getD x 0)).1=X at *
   by_cases ge:X.2=0
   ·rw[if_neg (by simpa using ge)]at hT
    rw[if_neg (by simpa using ge)]
    exact hk _ ⟨X.1,at_+1,by omega,hs,by rw[show m-(x+1)=m' by omega];exact hT⟩
   ·rw[if_pos (by simpa using ge)]at hT
    rw[if_pos (by simpa using ge)]
    rw[←hT,if_pos ge]at k
    refine k _ ?_
    rw[←pp]
    exact hs.drop.drop.drop.drop.drop
  ·rintro h7 ⟨F,at_,hat,hs,hT⟩
   apply hJ90
   rw[AD,if_neg (by simp)]
   rw[Nat.sub_self]at hT
   unfold EV at hT
   rw[←hT,if_neg (by simp)]at k
   dsimp only at k
   have L:=hs.fnd zs3 l0 l1
   refine⟨_,L.a0,_,‹_›,L.a1,_,L.a10,_,L.a11,_,L.a12,_,L.a13,_,‹_›,L.a14,_,L.a23,_,L.a24,_,L.a25,_,L.a26,?_⟩
   refine N4 l0 l1 (by omega) hs ?_
   intro h8 hs
   rw[←N9]
   have ih:=iok.head
   have hmv:=X5
   rw[AL (by omega)]
   refine AdW ((A1 C).head+1) hs ?_
   intro h9 hs
   rw[AlI (by omega) (by omega)]
   have hhl:=pE ((A1 C).head+1)
   generalize (DN ((A1 C).head+1)).1=rec at *
   intro n117 _ hn;replace hs:=Sat.new hs hn
   refine⟨Sat.can hs .z (by simp[AB]),?_⟩
   intro h10 e10
   replace hs:=Sat.wra hs .z e10 (by simp[AB,hhl])
   clear e10
   simp only[put]at hs
   rw[if_neg (by simp)]
   refine⟨_,hs.ld zs5 rfl,_,rfl,_,hs.ld (cl2.put_ne hij (AH p F)).s.s.s.s.s.s rfl,?_⟩
   refine⟨_,Sat.ld hs (by repeat constructor) (by rfl),?_⟩
   refine⟨_,hhl,hs.row0 .z,_,rfl,?_⟩
   refine Y3 hs (ci2.put (AH p F)).s.s.s.s.s.s (t:Int) 0 rec hhl ?_
   intro h11 hs
   simp only[AS,CD]at hs
   refine k _ ?_
   rw[←pp]
   exact hs.drop.drop.drop.drop.drop.drop
 have hbl:=vQ hs zs1 l0 l1 ht
 rw[htd,zG,←htd]at hbl
 refine⟨_,hs.ld .z rfl,by omega,by omega,_,hbl,?_⟩
 by_cases g:(pI C t).blank=true
 ·rw[if_pos g]at k
  rw[if_neg (by rw[g];decide)]
  refine way C _ rfl ?_ k
  rw[ci.put_self]
  exact hs
 ·rw[if_neg g]at k
  rw[if_pos (by simpa using g)]
  refine⟨_,hs.ld zs2 rfl,_,rfl,_,hs.ld cl.s.s.s rfl,?_⟩
  refine⟨_,Sat.ld hs (by repeat constructor) (by rfl),?_⟩
  refine⟨_,rfl,?_⟩
  refine rU hs ci.s.s.s (t:Int) ?_
  intro h2 hs
  simp only[AS]at hs
  have hcf:=SB C (t:Int)
  generalize CA C (t:Int)=X at *
  by_cases ge:X.2=0
  ·rw[if_neg (by simpa using ge)]at k
   rw[if_neg (by simpa using ge)]
   exact way X.1 _ hcf hs k
  ·rw[if_pos (by simpa using ge)]at k
   rw[if_pos (by simpa using ge)]
   exact k _ hs.drop.drop.drop
theorem r9{Q:Int->HP}(hs:Sat h0 A h)(ci:At A i (AH p C))(cl:At A j (BY r p))(hij:j≠i)(slot n:Int)
  (k:∀h',Sat h0 (put A i (AH p (EQ C slot n).1)) h'->Q (EQ C slot n).2 h'):J5 ⟨r,0,none⟩ slot n Q h:=by
 unfold J5 gU
 try simp only[AF,Nat.zero_add,List.append_nil]
 have ok:=CG hs ci
 have hslots:=ok.may.slots
 refine aI hs ci cl ?_
 intro h1 hs
 obtain⟨lp,lq⟩:=aJ C
 intro n26 _ hn;replace hs:=Sat.new hs hn
 refine⟨Sat.can hs .z (by decide),?_⟩
 intro h2 e
 replace hs:=Sat.wra hs .z e (by rw[FB lp lq];rfl)
 clear e
 replace hs:Sat h0 (blk n26 (BE (BL C).1.p (BL C).1.q (BL C).1.n)::A) h2:=hs
 unfold EQ at k
 by_cases ho:C.out=true
 ·have e:BL C=(⟨inf0,inf0,0⟩,8):=by unfold BL;rw[if_pos ho]
  rw[if_pos ho]at k
  rw[e,if_pos (by simp)]
  exact k _ (by rw[ci.put_self];exact hs.drop)
 have ho':C.out=false:=by simpa using ho
 have e:BL C=(⟨pI C 0,pI C 1,BH C⟩,0):=by unfold BL;rw[if_neg ho]
 rw[if_neg ho]at k
 rw[e]at hs lp lq ⊢
 dsimp only at hs lp lq ⊢
 rw[if_neg (by simp)]
 intro J31 hJ31
 have iok:=SD ok
 have ilen:=pN C
 have hc2:=OL C
 have way:∀bb:Bool,(bb=true↔¬(0≤slot/\slot≤C.cfg.slots/\1≤n/\n≤A8))->∀h3,Sat h0 (blk n26 (BE (pI C 0) (pI C 1) (BH C))::A) h3->J31 [.dv (.one (.bool bb))] h3:=by
  intro bb hbb h3 hs
  apply hJ31
  clear hJ31 J31
  by_cases gb:bb=true
  ·rw[if_pos (hbb.1 gb)]at k
   rw[if_pos gb]
   exact k _ (by rw[ci.put_self];exact hs.drop)
  have g:0≤slot/\slot≤C.cfg.slots/\1≤n/\n≤A8:=Classical.byContradiction fun y=>gb (hbb.2 y)
  rw[if_neg (fun y=>y g)]at k
  rw[if_neg gb]
  obtain⟨g1,g2,g3,g4⟩:=g
  have L:=hs.fnd .z lp lq
  refine⟨_,L.a0,_,‹_›,L.a1,_,L.a10,_,L.a11,_,L.a12,_,L.a13,_,‹_›,L.a14,_,L.a23,_,L.a24,_,L.a25,_,L.a26,?_⟩
  refine N4 lp lq (by omega) hs ?_
  intro h4 hs
  rw[←N9]
  refine⟨by omega,by omega,?_⟩
  by_cases g5:n≤(A1 C).nums.getD slot.toNat 0
  ·rw[if_pos g5]at k
   rw[A0,if_pos (by rw[decide_eq_true g5])]
   exact k _ (by rw[ci.put_self];exact hs.drop)
  rw[if_neg g5]at k
  rw[A0,if_neg (by rw[decide_eq_false g5];decide)]
  have L:=hs.fnd .z lp lq
  refine⟨_,L.a0,_,‹_›,L.a1,_,L.a10,_,L.a11,_,L.a12,_,L.a13,_,‹_›,L.a14,_,L.a23,_,L.a24,_,L.a25,_,L.a26,?_⟩
  refine N4 lp lq (by omega) hs ?_
  intro h5 hs
  rw[←N9]
  intro n68 _ hn;replace hs:=Sat.new hs hn
  refine⟨Sat.can hs .z (by decide),?_⟩
  intro h6 e6
  replace hs:=Sat.wra hs .z e6 ((DO ilen).trans rfl)
  clear e6
  replace hs:Sat h0 (blk n68 (B3 (A1 C))::blk n26 (BE (pI C 0) (pI C 1) (BH C))::A) h6:=hs
  intro J73 hJ73
  have way2:∀bb:Bool,(bb=true↔(0≤BH C/\(A1 C).next<C.cfg.cells))->∀h7,Sat h0 (blk n68 (B3 (A1 C))::blk n26 (BE (pI C 0) (pI C 1) (BH C))::A) h7->J73 [.dv (.one (.bool bb))] h7:=by
   intro bb hbb h7 hs
   apply hJ73
   clear hJ73 J73
   by_cases gb:bb=true
   ·rw[if_pos (hbb.1 gb)]at k
    rw[if_pos gb]
    obtain⟨sl,rfl⟩:=Int.eq_ofNat_of_zero_le g1
    refine uT (sl:Int) n hs ?_
    intro h8 hs
    have hvl:=YO (sl:Int) n
    rw[AbP (by omega) g3 g4]
    generalize (C3 (sl:Int) n).1=rec at *
    intro n79 _ hn;replace hs:=Sat.new hs hn
    refine⟨Sat.can hs .z (by simp[AB]),?_⟩
    intro h9 e9
    replace hs:=Sat.wra hs .z e9 (by simp[AB,hvl])
    clear e9
    simp only[put]at hs
    rw[if_neg (by simp)]
    have L:=hs.fnd zs2 lp lq
    obtain⟨L0,L1,L10,L11,L12⟩:=hs.infAt zs1 ilen
    refine⟨_,hs.ld cl.s.s.s rfl,_,L.a26,_,L10,_,hvl,hs.row0 .z,_,rfl,?_⟩
    refine Y3 hs ci.s.s.s (BH C) (A1 C).next rec hvl ?_
    intro h10 hs
    simp only[AS]at hs
    exact k _ hs.drop.drop.drop
   rw[if_neg (fun y=>gb (hbb.2 y))]at k
   rw[if_neg gb]
   have L:=hs.fnd zs1 lp lq
   refine⟨_,L.a0,_,‹_›,L.a1,_,L.a10,_,L.a11,_,L.a12,_,L.a13,_,‹_›,L.a14,_,L.a23,_,L.a24,_,L.a25,_,L.a26,?_⟩
   refine AbW hs ci.s.s cl.s.s ho' ?_
   intro h8 hs
   by_cases gw:GY C=true
   ·rw[if_pos gw]at k
    rw[if_pos gw]
    exact k _ (by rw[ci.put_self];exact hs.drop.drop)
   rw[if_neg gw]at k
   rw[if_neg gw]
   have hgm:(A1 C).head<A8:=by
    have:¬A8≤(A1 C).head:=fun y=>gw (by unfold GY;rw[decide_eq_true y,Bool.or_true])
    omega
   have L:=hs.fnd zs1 lp lq
   refine⟨_,L.a0,_,‹_›,L.a1,_,L.a10,_,L.a11,_,L.a12,_,L.a13,_,‹_›,L.a14,_,L.a23,_,L.a24,_,L.a25,_,L.a26,?_⟩
   obtain⟨sl,rfl⟩:=Int.eq_ofNat_of_zero_le g1
   refine AqG hs ci.s.s cl.s.s (by omega) sl n g2 g3 g4 hgm ?_
   intro h9 hs
   simp only[AS]at hs
   exact k _ hs.drop.drop
  have L:=hs.fnd zs1 lp lq
  refine⟨_,L.a26,?_⟩
  by_cases gp:0≤BH C
  ·rw[A0,if_pos (by simpa using gp)]
   obtain⟨L0,L1,L10,L11,L12⟩:=hs.infAt .z ilen
   refine⟨_,L10,_,hs.ld cl.s.s rfl,_,rfl,?_⟩
   refine CE hs ci.s.s ?_
   intro h7 hs
   obtain⟨M0,M1,M10,M11,M12⟩:=hs.infAt .z ilen
   refine⟨AI M10,?_⟩
   rw[AD]
   exact way2 _ (by simp[gp]) _ hs
  ·rw[A0,if_neg (by simpa using gp)]
   exact way2 false (by simp[gp]) _ hs
 refine Ab5 hs ci.s cl.s slot ?_
 intro h3 hs
 by_cases gs:0≤slot/\slot≤C.cfg.slots
 case neg=>
  rw[if_pos (by rw[decide_eq_false gs];rfl)]
  exact way true (by constructor;intro _ y;exact gs ⟨y.1,y.2.1⟩;intro _;rfl) _ hs
 rw[if_neg (by rw[decide_eq_true gs];decide)]
 by_cases gn:n<1
 ·rw[AD,if_pos (by simpa using gn)]
  exact way true (by constructor;intro _ y;omega;intro _;rfl) _ hs
 rw[AD,if_neg (by simpa using gn)]
 intro i135 hi
 subst hi
 rw[AD]
 have hmv:=X5
 refine way _ ?_ _ hs
 rw[decide_eq_true_iff]
 constructor
 ·intro y z;omega
 ·intro y
  exact Classical.byContradiction fun z=>y ⟨gs.1,gs.2,by omega,by omega⟩
end
def vV(B cells:Nat)(D:Cm)(x:Nat):List Int:=AX (D.pg (B+x / cells)) (x % cells)
def ZV(n k x:Nat):Prop:=(1≤x/\x≤k/\x<n)∨(k=n/\x=0/\0<n)
instance (n k x:Nat):Decidable (ZV n k x):=by unfold ZV;infer_instance
structure Pr (B area cells n k:Nat) (bs:List Int) (C D:Cm) (e:Int):Prop where
 cfg:D.cfg=C.cfg
 bl:D.s.blown=C.s.blown
 np:D.s.pages.length=C.s.pages.length
 es:D.s.erases=C.s.erases
 pg:∀x,x<B∨B+area≤x->D.pg x=C.pg x
 good:e=0->D.acts=C.acts+(n-k:Nat)/\∀x,x<area*cells->vV B cells D x=if ZV n n x then EM bs x else ffs
 bad:e≠0->e=8/\∃t,k<t/\t≤n/\D.acts=C.acts+(t-k:Nat)/\∀x,x<area*cells->x≠t % n->vV B cells D x=if ZV n (t-1) x then EM bs x else ffs
abbrev rk(row:List Int)(k:Nat):Int×Int×Int:=BZ (AX row k)
def YI(u:Bool)(C:Cm):Prop:=
 match u with
 | true=>C.left<0
 | false=>∀x,x<2->cH (C.pg x) C.cfg.cells.toNat
abbrev nof(C:Cm)(t k:Nat):Int:=(pI C t).nums.getD k 0
abbrev FE(C:Cm)(k:Nat):Int:=(A1 C).nums.getD k 0
abbrev lOf(C:Cm):Nat:=C.cfg.cells.toNat
section
variable {u:Bool}
structure Part (u:Bool) (C D:Cm) (t m:Nat) (e:Int):Prop where
 ok:D.ok
 cfg:D.cfg=C.cfg
 pgs:∀y,y≠t->D.pg y=C.pg y
 snd:YI u D
 ec:e=0∨e=8
 out0:e=0->D.out=false
 out8:e=8->D.out=true
 acts:0≤C.acts->C.acts+m<2^60->C.acts≤D.acts/\D.acts≤C.acts+m
 un:u=true->e=0
theorem Part.trans{C D E:Cm}{t m n:Nat}{e:Int}(a:Part u C D t m 0)(b:Part u D E t n e):Part u C E t (m+n) e:=
 ⟨b.ok,b.cfg.trans a.cfg,fun y h=>(b.pgs y h).trans (a.pgs y h),b.snd,b.ec,b.out0,b.out8,fun h1 h2=>by
  have:=a.acts h1 (by omega)
  have:=b.acts (by omega) (by omega)
  omega,b.un⟩
theorem Part.refl{C:Cm}(ok:C.ok)(ho:C.out=false)(snd:YI u C)(t:Nat):Part u C C t 0 0:=
 ⟨ok,rfl,fun _ _=>rfl,snd,Or.inl rfl,fun _=>ho,fun h=>absurd h (by decide),fun _ _=>by omega,fun _=>rfl⟩
structure Turned (u:Bool) (C D:Cm) (t:Nat) (nums:List Int) (e:Int):Prop where
 part:Part u C D t (C.cfg.slots.toNat+3) e
 ero:∀y,y≠t->D.er y=C.er y
 ert:D.er t=C.er t∨(D.er t=C.er t+1/\C.er t<C.cfg.erases)
 erb:(pI C t).blank=true->D.er t=C.er t
 ern:(pI C t).blank=false->D.er t=C.er t+1
 head:(pI D t).head=0∨(pI D t).head=(pI C t).head∨((pI D t).head=(A1 C).head+1/\∀k:Nat,(k:Int)≤C.cfg.slots->nof D t k=nums.getD k 0)
 headf:e=0->(pI D t).head=(A1 C).head+1/\∀k:Nat,(k:Int)≤C.cfg.slots->nof D t k=nums.getD k 0
 free:e=0->∀k:Nat,C.cfg.slots.toNat+2≤k->k<lOf C->(rk (D.pg t) k).1=0
end
section
variable {u:Bool}
structure Laid (u:Bool) (C D:Cm) (slot:Nat) (n e:Int):Prop where
 ok:D.ok
 cfg:D.cfg=C.cfg
 snd:YI u D
 ec:e=0∨e=8∨e=9
 e9:e=9->D=C
 out0:e=0->D.out=false
 other:∀k:Nat,(k:Int)≤C.cfg.slots->k≠slot->FE D k=FE C k
 me:FE D slot=FE C slot∨FE D slot=n
 done:e=0->FE D slot=n
end
end Go.Proofs.YteedolonhdbieaaGreatDoor
end
