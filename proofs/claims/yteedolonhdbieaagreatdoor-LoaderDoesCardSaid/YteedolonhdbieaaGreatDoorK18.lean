/- LoaderDoes and its parts, laid together by a program of ours: Ld3 Ar14 Ld4 Sd1 Sd3 Ld5 Ld6 LdW Ld7 ScE Ld8 RwLoaderDoes -/
import Derived.JoinedCond
import Derived.Test.YteedolonhdbieaaGreatDoorK17
set_option autoImplicit false
set_option linter.all false
section
namespace Go.Proofs.YteedolonhdbieaaGreatDoor
open Go Go.Vc
set_option maxRecDepth 100000
attribute [local irreducible] BI AM BO BN BM AY BF EB sG
theorem AqU{C:Cm}(ho:¬C.out=true){a:Int}(h:a=0∨a=1):(C4 C a).2=0:=by
 have e:AT C a 2=0:=by unfold AT;rw[if_neg ho,if_neg (by omega),if_neg (by omega)]
 unfold C4;rw[if_neg (by rw[e];decide)]
theorem AbH(C:Cm)(L:List Sec):BK C L=0∨BK C L=1:=by
 have f:=N5 C
 unfold BK
 cases h:C9 C L with
 | none=>dsimp only;omega
 | some a=>dsimp only;have:=q5 h;omega
section
variable {h0 h:H} {A:List Ent} {i j p r b s m:Nat} {C:Cm}
theorem AmC{Q:Bool->HP}{lg st rr lo z:Nat}{R:List SR}{L:List Sec}(hs:Sat h0 A h)(ok:C.ok)(ho:¬C.out=true)
  (ci:At A i (AH p C)) (al:At A z (blk lo [.pointer (some ⟨p,0,none⟩),.pointer (some ⟨st,0,none⟩),.pointer (some ⟨rr,0,none⟩)]))
  (k:∀h',Sat h0 A h'->Q (DY C) h'):WQ ⟨lo,0,none⟩ (BV C).1 Q h:=by
 unfold WQ gQ
 refine⟨_,hs.ld al rfl,_,rfl,?_⟩
 refine sA hs ci (fun y=>absurd y ho) ?_
 intro _ l h1 hs
 rw[if_pos (by decide)]
 refine⟨_,rfl,?_⟩
 refine AdV (j:=0) hs ci.s .z ?_
 intro h2 hs
 obtain⟨f1,f2⟩:=wQ ok
 have ew:IntKind.i64.wrap (DC C)=DC C:=AL ⟨by omega,by omega⟩
 rw[ew]
 unfold DY at k
 by_cases c:0<DC C
 ·rw[AD,if_pos (by simpa using c)]
  intro n en
  subst en
  rw[AD]
  have:=k h2 hs.drop
  rw[show decide (DC C≠0)=true by simp;omega,Bool.true_or,Bool.true_and]at this
  exact this
 ·rw[AD,if_neg (by simpa using c)]
  refine⟨_,rfl,?_⟩
  refine AiG (j:=0) hs ci.s .z ?_
  intro h3 hs
  rw[show decide (DC C≠0)=false by simp;omega,Bool.false_or]at k
  cases hw:GZ C
  ·rw[if_pos (by decide)]
   intro n en
   subst en
   rw[AD]
   have:=k h3 hs.drop
   rw[hw,Bool.not_false,Bool.true_and]at this
   exact this
  ·rw[if_neg (by decide)]
   have:=k h3 hs.drop
   rw[hw,Bool.not_true,Bool.false_and]at this
   exact this
theorem Al9{K:Int->HP}{lg st rr lo z:Nat}{bs:List Int}{q:Option Addr}{l c:Nat}{R:List SR}{L:List Sec}(hg:hc h0 ⟨0,0,none⟩=some E0)(hs:Sat h0 A h)
  (g:Gx A i p C lg st rr R L) (al:At A z (blk lo [.pointer (some ⟨p,0,none⟩),.pointer (some ⟨st,0,none⟩),.pointer (some ⟨rr,0,none⟩)]))
  (rd:∀B h',Sat h0 (B++A) h'->hsv h' q 1 l (AA .u8 bs)) (hb:A4 bs) (hlc:l≤c) (hl:l<2^50)
  (k:∀nb P h',(BF (AM C L bs) bs).length=32->(AY (AM C L bs) bs).length<2^40->Sat h0 (blk nb (AP (BO (AM C L bs) bs) (BN (AM C L bs) bs) (BM (AM C L bs) bs) (P,(AY (AM C L bs) bs).length,(AY (AM C L bs) bs).length) (BF (AM C L bs) bs))::FW P (AY (AM C L bs) bs).length (AY (AM C L bs) bs)::A) h'->K (AM C L bs) h'):
  (∃p22:Addr,(some ⟨st,0,none⟩:Option Addr)=some p22/\∃p23:Addr,(some ⟨rr,0,none⟩:Option Addr)=some p23/\GO p22 p23 q l c (fun i1 i2 i3 o n m l e h=>∀nb h',hnew h nb (.int .i64 0::.int .i64 0::.int .i64 0::.slice none 0 0::AA .u8 (AB 32)) h'->AC h' ⟨nb,0,none⟩ 36/\∀h'',h''=hwr h' ⟨nb,0,none⟩ (.int .i64 i1::.int .i64 i2::.int .i64 i3::.slice o n m::AA .u8 l)->K e h'') h)/\
  ∀(nb:Nat) (h90:H),hnew h nb (.int .i64 0::.int .i64 0::.int .i64 0::.slice none 0 0::AA .u8 (AB 32)) h90->hcs h90 ⟨lo,2,none⟩ [.pointer (some ⟨rr,0,none⟩)]/\hcs h90 ⟨lo,1,none⟩ [.pointer (some ⟨st,0,none⟩)]/\
   ∃p22:Addr,(some ⟨st,0,none⟩:Option Addr)=some p22/\∃p23:Addr,(some ⟨rr,0,none⟩:Option Addr)=some p23/\GO p22 p23 q l c (fun i1 i2 i3 o n m l e h=>AC h ⟨nb,0,none⟩ 36/\∀h'',h''=hwr h ⟨nb,0,none⟩ (.int .i64 i1::.int .i64 i2::.int .i64 i3::.slice o n m::AA .u8 l)->K e h'') h90:=by
 obtain⟨mm,⟨_,_,cr⟩,_,_,cm⟩:=g.cr
 obtain⟨_,_,cl⟩:=g.cl
 obtain⟨_,_,cs⟩:=g.cs
 refine⟨⟨_,rfl,_,rfl,?_⟩,?_⟩
 ·exact wT (L:=L) (bs:=bs) hg hs g.ci cl cs cr cm g.eR g.gd (fun x hx=>⟨_,(g.rR x hx).choose_spec.2⟩) (fun h' hs'=>rd [] h' hs') hb hlc hl k
 ·intro n59 _ hn;replace hs:=Sat.new hs hn
  refine⟨AI (hs.ld (i:=z+1) al.s rfl),AI (hs.ld (i:=z+1) al.s rfl),_,rfl,_,rfl,?_⟩
  exact wU (L:=L) (bs:=bs) hg hs g.ci cl cs cr cm g.eR g.gd (fun x hx=>⟨_,(g.rR x hx).choose_spec.2⟩) rd hb hlc hl (fun P h'=>k _ P h')
theorem uR{Q:Int->HP}{lg st rr lo z:Nat}{bs:List Int}{q:Option Addr}{l c:Nat}{R:List SR}{L:List Sec}(hg:hc h0 ⟨0,0,none⟩=some E0)(hs:Sat h0 A h)(ok:C.ok)
  (g:Gx A i p C lg st rr R L) (hz:z≠i) (al:At A z (blk lo [.pointer (some ⟨p,0,none⟩),.pointer (some ⟨st,0,none⟩),.pointer (some ⟨rr,0,none⟩)]))
  (rd:∀D B h',Sat h0 (B++put A i (AH p D)) h'->hsv h' q 1 l (AA .u8 bs)) (hb:A4 bs) (hbl:bs.length=l) (hlc:l≤c) (hl:l<2^50)
  (k:∀h',Sat h0 (put A i (AH p (B7 C L bs).1)) h'->Q (B7 C L bs).2 h'):JZ ⟨lo,0,none⟩ q l c Q h:=by
 unfold JZ gO nD
 try simp only[AF,Nat.zero_add,List.append_nil]
 obtain⟨_,_,cl⟩:=g.cl
 obtain⟨js,hjs,cs⟩:=g.cs
 have pS:=g.ci.put_self
 have rd0:∀B h',Sat h0 (B++A) h'->hsv h' q 1 l (AA .u8 bs):=fun B h' hs'=>rd C B h' (by rw[pS];exact hs')
 refine⟨_,hs.ld al rfl,_,rfl,?_⟩
 refine bM hs g.ci cl cs ?_
 intro h1 hs
 rw[qV ok]
 by_cases ho:C.out=true
 ·rw[if_pos ho,if_pos (by decide)]
  have e:B7 C L bs=(C,8):=by unfold B7;rw[if_pos ho]
  rw[e]at k
  exact k h1 (by rw[pS];exact hs)
 rw[if_neg ho,if_neg (by decide)]
 refine⟨_,hs.ld al rfl,_,hs.ld al rfl,?_⟩
 refine Al9 (L:=L) (bs:=bs) hg hs g al rd0 hb hlc hl ?_
 intro nb P h2 tl pl hs
 replace hs:=hs.drop.drop
 clear tl pl
 by_cases c1:AM C L bs=0
 case neg=>
  rw[if_pos (by simpa using c1)]
  have e:B7 C L bs=(C,AM C L bs):=by unfold B7;rw[if_neg ho,if_pos c1]
  rw[e]at k
  exact k h2 (by rw[pS];exact hs)
 rw[if_neg (by simpa using c1)]
 refine⟨_,hs.ld al rfl,_,rfl,?_⟩
 refine CE hs g.ci ?_
 intro h3 hs
 refine oF C.cfg hs ?_
 intro h4 hs
 by_cases c2:DR C.cfg<(l:Int)
 ·rw[AD,if_pos (by simpa using c2)]
  have e:B7 C L bs=(C,4):=by unfold B7;rw[if_neg ho,if_neg (by simpa using c1),if_pos (by rw[hbl];exact c2)]
  rw[e]at k
  exact k h4 (by rw[pS];exact hs)
 rw[AD,if_neg (by simpa using c2)]
 refine⟨by decide,?_⟩
 obtain⟨r1,r2⟩:=ZC ok
 have hf:(BV C).1.tmod 2=AO C:=by unfold AO;rw[Int.tmod_eq_emod_of_nonneg r1]
 have f01:=N5 C
 have w01:∀x:Int,x=0∨x=1->IntKind.i64.wrap (1-x)=1-x:=by intro x y;rcases y with y | y <;> rw[y] <;> decide
 rw[hf]
 intro J hJ
 have go:∀h',Sat h0 A h'->J [.dv (.one (.int .i64 (BK C L)))] h':=by
  intro h5 hs
  apply hJ
  clear hJ
  have t01:=AbH C L
  refine⟨_,hs.ld al rfl,_,rfl,?_⟩
  refine uU hs g.ci (BK C L) ?_
  intro h6 hs
  rw[AqU ho t01]
  intro J2 hJ2
  rw[if_neg (by decide)]
  have bad:((C4 C (BK C L)).1=true∨BK C L≠AO C/\DY C=false)->∀h',Sat h0 A h'->Q 9 h':=by
   intro y h' hs'
   have e:B7 C L bs=(C,9):=by unfold B7;rw[if_neg ho,if_neg (by simpa using c1),if_neg (by rw[hbl];exact c2),if_pos y]
   rw[e]at k
   exact k h' (by rw[pS];exact hs')
  have good:¬((C4 C (BK C L)).1=true∨BK C L≠AO C/\DY C=false)->∀h',Sat h0 A h'->J2 [] h':=by
   intro y h' hs
   apply hJ2
   clear hJ2
   refine⟨_,hs.ld al rfl,_,rfl,?_⟩
   refine AiJ (bs:=bs) hs g.ci (BK C L) (fun D h' hs'=>rd D [] h' hs') hl hlc ?_
   intro h7 hs
   have e:B7 C L bs=if (D4 C (BK C L) bs).2≠0∨BK C L=AO C then D4 C (BK C L) bs else JG (D4 C (BK C L) bs).1 ((BV C).1+1):=by
    conv=>lhs;unfold B7
    rw[if_neg ho,if_neg (by simpa using c1),if_neg (by rw[hbl];exact c2),if_neg y]
   rw[e]at k
   by_cases c3:(D4 C (BK C L) bs).2=0
   case neg=>
    rw[if_pos (by simpa using c3)]
    rw[if_pos (Or.inl c3)]at k
    exact k h7 hs
   rw[if_neg (by simpa using c3)]
   by_cases c4:BK C L=AO C
   ·rw[if_pos (by simpa using c4)]
    rw[if_pos (Or.inr c4)]at k
    exact k h7 hs
   rw[if_neg (by simpa using c4)]
   rw[if_neg (by rintro (y | y);exact y c3;exact c4 y)]at k
   have g':=g.put (D4 C (BK C L) bs).1
   refine⟨_,hs.ld (al.put_ne hz _) rfl,_,rfl,?_⟩
   obtain⟨_,_,cl'⟩:=g'.cl
   obtain⟨js',hjs',cs'⟩:=g'.cs
   have hl2:DY C=true:=by
    cases hl:DY C
    ·exact absurd (Or.inr ⟨c4,hl⟩) y
    ·rfl
   have r3:(BV C).1<2^62:=by
    unfold DY at hl2
    rw[Bool.and_eq_true]at hl2
    exact of_decide_eq_true hl2.2
   have ew:IntKind.i64.wrap ((BV C).1+1)=(BV C).1+1:=AL ⟨by omega,by omega⟩
   rw[ew]
   refine ApA hs g'.ci cl' cs' (by assumption) _ ?_
   intro h8 hs
   rw[CD]at hs
   exact k h8 hs
  by_cases c5:(C4 C (BK C L)).1=true
  ·rw[if_pos c5];exact bad (Or.inl c5) _ hs
  rw[if_neg c5]
  by_cases c6:BK C L=AO C
  ·rw[if_neg (by simpa using c6)]
   exact good (by rintro (y | y);exact c5 y;exact y.1 c6) _ hs
  rw[if_pos (by simpa using c6)]
  refine AmC (lg:=lg) (R:=R) (L:=L) hs ok ho g.ci al ?_
  intro h7 hs
  cases hl:DY C
  ·rw[if_pos (by decide)];exact bad (Or.inr ⟨c6,hl⟩) _ hs
  ·rw[if_neg (by decide)]
   exact good (by rintro (y | y);exact c5 y;rw[hl]at y;exact absurd y.2 (by decide)) _ hs
 refine Y9 (L:=L) hg hs ok g al ?_
 intro P2 h5 tl pl hs
 intro n84 _ hn;replace hs:=Sat.new hs hn
 refine⟨Sat.can hs .z (by simp[AB]),?_⟩
 intro h6 e6
 replace hs:=Sat.wra (xs:=AP (BO (AZ C L) (A7 C L)) (BN (AZ C L) (A7 C L)) (BM (AZ C L) (A7 C L)) (P2,(AY (AZ C L) (A7 C L)).length,(AY (AZ C L) (A7 C L)).length) (BF (AZ C L) (A7 C L))) hs .z e6 (by rw[BX tl];rfl)
 clear e6;simp only[AG]at hs
 replace hs:=hs.drop.drop
 cases ha:C9 C L with
 | none=>
  have eG:AZ C L=17:=by unfold AZ;rw[if_neg ho,ha]
  have eT:BK C L=1-AO C:=by unfold BK;rw[ha]
  rw[eG,if_neg (by decide),w01 _ f01,←eT]
  exact go _ hs
 | some a=>
  have eG:AZ C L=0:=by unfold AZ;rw[if_neg ho,ha]
  have eN:CX C L=a:=by unfold CX;rw[if_neg ho,ha]
  have eT:BK C L=1-a:=by unfold BK;rw[ha]
  rw[eG,eN,if_pos (by decide),w01 _ (q5 ha),←eT]
  exact go _ hs
end
end Go.Proofs.YteedolonhdbieaaGreatDoor
end
section
namespace Go.Proofs.YteedolonhdbieaaGreatDoor
open Go Go.Vc
set_option maxRecDepth 100000
section
variable {h0 h:H} {A:List Ent} {i j p r b:Nat} {C:Cm}
theorem Ao2{Q:Option Addr->Nat->Nat->Int->HP}(hs:Sat h0 A h)(cj:At A j (AK r C))(ar:Int)
  (k1:(AN C ar).2≠0->∀h',Sat h0 A h'->Q none 0 0 (AN C ar).2 h')
  (k2:(AN C ar).2=0->∀(o:Option Addr) (n c:Nat) h',0<n->(AN C ar).1.length=n->Sat h0 (slE o n c 1 (AA .u8 (AN C ar).1)::A) h'->Q o n c 0 h'):RF ⟨r,0,none⟩ ar Q h:=by
 unfold RF lO
 try simp only[AF,Nat.zero_add,List.append_nil]
 have ok:=FX hs cj
 refine AaH hs cj ar ?_
 unfold AN at k1 k2
 by_cases g0:AT C ar 2=0
 case neg=>
  rw[if_pos (by simpa using g0)]at k1
  rw[if_pos (by simpa using g0)]
  exact k1 g0 _ hs
 rw[if_neg (by simpa using g0)]at k1 k2
 rw[if_neg (by simpa using g0)]
 obtain⟨ho,a1,a2⟩:=CV g0
 refine AnT hs cj ho ar a1 a2 ?_
 intro x h1 hx hs
 have hsz:=Ab2 ok.may
 have hsl:=qY C.cfg
 obtain⟨M,hM⟩:∃M,M=C.cfg.area.toNat*C.cfg.cells.toNat:=⟨_,rfl⟩
 rw[←hM]at hsz hx
 have hall:BD C ar=B0 C ar M:=by unfold BD;rw[hM]
 have hlen:=ZH ok ar M
 have hbb:=oP ok ar M
 rw[←hall]at hlen hbb
 have hM4:M=0∨4≤M:=by
  have h1:=ok.may.cells
  have h2:=ok.may.slots
  have h3:=ok.may.area
  by_cases c:C.cfg.area.toNat=0
  ·left;rw[hM,c,Nat.zero_mul]
  ·right
   rw[hM]
   calc 4≤1*C.cfg.cells.toNat:=by omega
    _≤_:=Nat.mul_le_mul_right _ (by omega)
 by_cases g1:DR C.cfg<48
 ·rw[if_pos g1]at k1
  rw[AD,if_pos (by simp;omega)]
  exact k1 (by simp) _ hs.drop
 rw[if_neg g1]at k1 k2
 rw[AD,if_neg (by simp;omega)]
 have sv:=hs.sv .z
 obtain⟨q',hq⟩:=hs.sl_some .z (by omega)
 have ld:∀y,y<x.2.1->hc h1 ((⟨q',0,none⟩:Addr).add y)=some (.int .u8 ((BD C ar).getD y 0)):=by
  intro y hy
  obtain⟨q2,hq2,g⟩:=CI sv hy
  rw[hq]at hq2
  injection hq2 with hq2
  subst hq2
  exact g
 refine⟨_,hq,by omega,by omega,_,ld 12 (by omega),_,hq,by omega,by omega,_,ld 13 (by omega),_,hq,by omega,by omega,_,ld 14 (by omega),_,hq,by omega,by omega,_,ld 15 (by omega),?_⟩
 have g12:=C6 hbb 12
 have g13:=C6 hbb 13
 have g14:=C6 hbb 14
 have g15:=C6 hbb 15
 unfold CC at g12 g13 g14 g15
 have en:IntKind.i64.wrap (IntKind.i64.wrap (IntKind.i64.wrap (IntKind.i64.wrap (48+IntKind.i64.wrap ((BD C ar).getD 12 0))+IntKind.i64.wrap (256*IntKind.i64.wrap ((BD C ar).getD 13 0)))+IntKind.i64.wrap (65536*IntKind.i64.wrap ((BD C ar).getD 14 0)))+IntKind.i64.wrap (16777216*IntKind.i64.wrap ((BD C ar).getD 15 0)))=48+AV (BD C ar) 12:=by
  have e:AV (BD C ar) 12=(BD C ar).getD 12 0+256*(BD C ar).getD 13 0+65536*(BD C ar).getD 14 0+16777216*(BD C ar).getD 15 0:=rfl
  rw[e]
  generalize (BD C ar).getD 12 0=b12 at *
  generalize (BD C ar).getD 13 0=b13 at *
  generalize (BD C ar).getD 14 0=b14 at *
  generalize (BD C ar).getD 15 0=b15 at *
  have w:∀n:Int,0≤n/\n<2^40->IntKind.i64.wrap n=n:=fun n hn=>by rw[IntKind.wrap_i64];omega
  rw[w b12 (by omega),w b13 (by omega),w b14 (by omega),w b15 (by omega),w (48+b12) (by omega),w (256*b13) (by omega),w (65536*b14) (by omega),w (16777216*b15) (by omega),w (48+b12+256*b13) (by omega),w (48+b12+256*b13+65536*b14) (by omega),w _ (by omega)]
  omega
 rw[en]
 obtain⟨r1,r2⟩:=aQ hbb 12
 obtain⟨N,hN⟩:∃N:Nat,48+AV (BD C ar) 12=N:=⟨(48+AV (BD C ar) 12).toNat,by omega⟩
 have hN2:(48+AV (BD C ar) 12).toNat=N:=by rw[hN];rfl
 rw[hN]
 rw[hN2,hN]at k1 k2
 clear en ld
 by_cases g2:DR C.cfg<(N:Int)
 ·rw[if_pos g2]at k1
  rw[AD,if_pos (by simp;omega)]
  exact k1 (by simp) _ (hs.drop)
 rw[if_neg g2]at k1 k2
 rw[AD,if_neg (by simp;omega)]
 have hcap:=YH hs .z
 refine⟨by omega,by omega,?_⟩
 have eo:AJ x.1 0 x.2.2 1=x.1:=by
  unfold AJ
  rw[if_neg (by omega),hq];rfl
 rw[eo,Int.toNat_natCast,Nat.sub_zero,Nat.sub_zero]
 replace hs:=v5 hs .z (n:=N) (c2:=x.2.2) (by omega) (by omega) (Nat.le_refl _)
 simp only[put]at hs
 have eints:(AA .u8 (BD C ar)).take N=AA .u8 ((BD C ar).take N):=by simp[AA,List.map_take]
 rw[eints]at hs
 have hbt:A4 ((BD C ar).take N):=fun v hv=>hbb v (List.mem_of_mem_take hv)
 have hlt:((BD C ar).take N).length=N:=by rw[List.length_take];omega
 generalize (BD C ar).take N=B at *
 refine zY (bs:=B) hs (fun h' hs'=>hs'.sv .z) hbt (by omega) (by omega) ?_ ?_
 ·intro e at_ h5 hw he hs
  intro n31 _ hn;replace hs:=Sat.new hs hn
  intro n34 _ hn;replace hs:=Sat.new hs hn
  refine⟨Sat.can hs zs1 (by decide),?_⟩
  intro h6 e6
  replace hs:=Sat.wra hs zs1 e6 (by rfl)
  clear e6
  simp only[put]at hs
  (refine⟨Sat.can hs (by repeat constructor) (by simp),?_⟩;intro _ e;replace hs:=Sat.wr hs (by repeat constructor) e;clear e;simp only[put,AR,List.set]at hs)
  refine⟨_,Sat.ld hs (by repeat constructor) (by rfl),?_⟩
  rw[if_pos (by simpa using he)]
  rw[if_pos (by rw[hw];exact he)]at k1
  exact k1 (by simp) _ hs.drop.drop.drop
 ·intro own n h5 hw hnn hown hs
  intro n31 _ hn;replace hs:=Sat.new hs hn
  intro n34 _ hn;replace hs:=Sat.new hs hn
  have hl48:B.length=48+n:=by
   have hpl:CP B=(0,0):=hw
   exact zH hpl hnn
  have ht32:((B.drop (16+n)).take 32).length=32:=by rw[List.length_take,List.length_drop];omega
  refine⟨Sat.can hs zs1 (by decide),?_⟩
  intro h6 e6
  replace hs:=Sat.wra hs zs1 e6 (by simp[ht32])
  clear e6
  simp only[put]at hs
  (refine⟨Sat.can hs (by repeat constructor) (by simp),?_⟩;intro _ e;replace hs:=Sat.wr hs (by repeat constructor) e;clear e;simp only[put,AR,List.set]at hs)
  refine⟨_,Sat.ld hs (by repeat constructor) (by rfl),?_⟩
  rw[if_neg (by simp)]
  refine⟨by omega,by omega,?_⟩
  rw[if_neg (by rw[hw];simp)]at k2
  exact k2 rfl x.1 N x.2.2 _ (by omega) hlt (hs.sub (by(repeat (first | exact List.Sublist.refl _ | apply List.Sublist.cons_cons | apply List.Sublist.cons))))
/-! ### The statement's words -/
end
end Go.Proofs.YteedolonhdbieaaGreatDoor
end
section
namespace Go.Proofs.YteedolonhdbieaaGreatDoor
open Go Go.Vc
set_option maxRecDepth 100000
attribute [local irreducible] BI AM BO BN BM AY BF EB sG
structure Rx (A:List Ent) (i p:Nat) (C:Cm) (rr:Nat) (R:List SR) (L:List Sec):Prop where
 ci:At A i (AK p C)
 cr:∃(lp:Option Addr) (lc:Nat),atN A i (blk rr [.slice lp R.length lc])/\atN A i (slE lp R.length lc 2 (DQ R))
 rR:∀x,x∈R->atN A i x.sl
 eR:R.map SR.kv=L
 lR:R.length<2^40
 gd:SR.good R
theorem Rx.s{A:List Ent}{i p:Nat}{C:Cm}{rr:Nat}{R:List SR}{L:List Sec}(g:Rx A i p C rr R L){x:Ent}:Rx (x::A) (i+1) p C rr R L:=
 ⟨g.ci.s,by obtain⟨lp,lc,a,b⟩:=g.cr;exact⟨lp,lc,a.s,b.s⟩,fun x hx=>(g.rR x hx).s,g.eR,g.lR,g.gd⟩
theorem Rx.put{A:List Ent}{i p:Nat}{C:Cm}{rr:Nat}{R:List SR}{L:List Sec}(g:Rx A i p C rr R L)(D:Cm):Rx (put A i (AK p D)) i p D rr R L:=
 ⟨g.ci.put _,by obtain⟨lp,lc,a,b⟩:=g.cr;exact⟨lp,lc,a.put _,b.put _⟩,fun x hx=>(g.rR x hx).put _,g.eR,g.lR,g.gd⟩
theorem AiP{C:Cm}{ar:Int}(h:(AN C ar).2≠0):(AN C ar).1=[]:=by
 unfold AN at h ⊢
 split
 ·rfl
 split
 ·rfl
 split
 ·rfl
 split
 ·rfl
 ·rename_i a b c d
  rw[if_neg a,if_neg b,if_neg c,if_neg d]at h
  exact absurd rfl h
theorem Aq0{C:Cm}{L:List Sec}(h:C.out=true):C9 C L=none:=by
 have e:∀a,EB C L a=false:=by
  intro a
  have:(AN C a).2≠0:=by
   have e8:AT C a 2=8:=by unfold AT;rw[if_pos h]
   unfold AN;rw[if_pos (by rw[e8];decide),e8];decide
  unfold EB
  rw[beq_eq_false_iff_ne.2 this];rfl
 unfold C9
 rw[e,e];rfl
section
variable {h0 h:H} {A:List Ent} {i j p r b s m:Nat} {C:Cm}
theorem qI{Q:Int->HP}(hs:Sat h0 A h)(ok:C.ok)(ci:At A i (AK p C))(k:∀h',Sat h0 A h'->Q (AO C) h'):HG ⟨p,0,none⟩ Q h:=by
 unfold HG lW
 refine qG hs ci ?_
 intro h1 hs
 obtain⟨r1,r2⟩:=ZC ok
 have hf:(BV C).1.tmod 2=AO C:=by unfold AO;rw[Int.tmod_eq_emod_of_nonneg r1]
 rw[hf]
 exact⟨by decide,k h1 hs⟩
theorem AaF{Q:Int->Int->Int->Option Addr->Nat->Nat->List Int->Option Addr->Nat->Nat->Bool->HP}{rr:Nat}{R:List SR}{L:List Sec}(hs:Sat h0 A h)(ok:C.ok)(g:Rx A i p C rr R L)(ar:Int)
  (k:∀(x y:Sl) h',(BF (sG C L ar) (AN C ar).1).length=32->(AY (sG C L ar) (AN C ar).1).length<2^40->x.2.1=(AY (sG C L ar) (AN C ar).1).length->y.2.1=(AN C ar).1.length->
   Sat h0 (sE x 1 (AA .u8 (AY (sG C L ar) (AN C ar).1))::sE y 1 (AA .u8 (AN C ar).1)::A) h'->
   Q (BO (sG C L ar) (AN C ar).1) (BN (sG C L ar) (AN C ar).1) (BM (sG C L ar) (AN C ar).1) x.1 x.2.1 x.2.2 (BF (sG C L ar) (AN C ar).1) y.1 y.2.1 y.2.2 (sG C L ar == 0) h'):RJ ⟨p,0,none⟩ ⟨rr,0,none⟩ ar Q h:=by
 unfold RJ l9
 try simp only[AF,Nat.zero_add,List.append_nil]
 intro n7 _ hn;replace hs:=Sat.new hs hn
 replace hs:Sat h0 (blk n7 (AP 0 0 0 (none,0,0) (AB 32))::A) _:=hs
 refine Ao2 hs g.ci.s ar ?_ ?_
 ·intro ne h1 hs
  rw[if_pos (by simpa using ne)]
  refine⟨Sat.can hs .z (by simp[AB]),?_⟩
  intro h2 e2
  replace hs:=Sat.wra (xs:=AP 0 0 0 (none,0,0) (AB 32)) hs .z e2 rfl
  clear e2
  simp only[AG]at hs
  have hG:sG C L ar≠0:=by unfold sG;rw[if_neg ne];decide
  obtain⟨e1,e2,e3,e4⟩:=YN (bs:=(AN C ar).1) hG
  refine E2 hs .z (BQ 32) ?_
  have k:=k (none,0,0) (none,0,0) h2
  rw[e1,e2,e3,e4,cI hG,AiP ne,beq_eq_false_iff_ne.2 hG]at k
  exact k (BQ 32) (by decide) rfl rfl ((hs.drop.sl_nil 1 none).sl_nil 1 none)
 ·intro ez o n c h1 hn hl hs
  rw[if_neg (by decide)]
  have hb:A4 (AN C ar).1:=vC ok ar
  have hl5:n<2^50:=by have:=vD ok ar;omega
  have hG:sG C L ar=AM C L (AN C ar).1:=by unfold sG;rw[if_pos ez]
  rw[hG]at k
  have hnc:n≤c:=YH (i:=0) hs .z
  obtain⟨lp,lc,⟨_,_,cr⟩,_,_,cm⟩:=g.cr
  refine AaD (L:=L) (bs:=(AN C ar).1) hs g.ci.s.s cr.s.s cm.s.s g.eR g.lR g.gd (fun x hx=>⟨_,(g.rR x hx).choose_spec.2.s.s⟩) (fun h' hs'=>hs'.sv .z) hb hnc hl5 ?_
  intro nb x h2 tl pl hx hs
  refine E2 hs .z tl ?_
  refine⟨Sat.can hs zs3 (by simp[AB]),?_⟩
  intro h5 e5
  replace hs:=Sat.wra (xs:=AP (BO (AM C L (AN C ar).1) (AN C ar).1) (BN (AM C L (AN C ar).1) (AN C ar).1) (BM (AM C L (AN C ar).1) (AN C ar).1) x (BF (AM C L (AN C ar).1) (AN C ar).1)) hs zs3 e5 (by rw[BX tl,BX (BQ 32)])
  clear e5
  simp only[AS,AG]at hs
  refine E2 hs zs3 tl ?_
  exact k x (o,n,c) h5 tl pl hx hl.symm (hs.drop.sub (List.Sublist.cons_cons _ (List.Sublist.cons_cons _ (List.sublist_cons_self _ _))))
theorem qK{Q:Int->Int->Int->Option Addr->Nat->Nat->List Int->Int->Option Addr->Nat->Nat->Int->HP}{rr:Nat}{R:List SR}{L:List Sec}(hs:Sat h0 A h)(ok:C.ok)(g:Rx A i p C rr R L)
  (k:∀(x y:Sl) h',(BF (AZ C L) (A7 C L)).length=32->(AY (AZ C L) (A7 C L)).length<2^40->x.2.1=(AY (AZ C L) (A7 C L)).length->y.2.1=(A7 C L).length->
   Sat h0 (sE x 1 (AA .u8 (AY (AZ C L) (A7 C L)))::sE y 1 (AA .u8 (A7 C L))::A) h'->
   Q (BO (AZ C L) (A7 C L)) (BN (AZ C L) (A7 C L)) (BM (AZ C L) (A7 C L)) x.1 x.2.1 x.2.2 (BF (AZ C L) (A7 C L)) (CX C L) y.1 y.2.1 y.2.2 (AZ C L) h'):NO ⟨p,0,none⟩ ⟨rr,0,none⟩ Q h:=by
 unfold NO lY
 try simp only[AF,Nat.zero_add,List.append_nil]
 intro n6 _ hn;replace hs:=Sat.new hs hn
 replace hs:Sat h0 (blk n6 (AP 0 0 0 (none,0,0) (AB 32))::A) _:=hs
 obtain⟨w,lc⟩:=DK hs g.ci.s
 refine⟨_,lc 11 _ rfl,?_⟩
 clear lc
 have kz:AZ C L≠0->CX C L=0->A7 C L=[]->∀e h',e=AZ C L->Sat h0 A h'->Q 0 0 0 none 0 0 (AB 32) 0 none 0 0 e h':=by
  intro ne en eb e h' he hs'
  obtain⟨e1,e2,e3,e4⟩:=YN (bs:=A7 C L) ne
  have k:=k (none,0,0) (none,0,0) h'
  rw[e1,e2,e3,e4,cI ne,en,eb]at k
  rw[he]
  exact k (BQ 32) (by decide) rfl rfl ((hs'.sl_nil 1 none).sl_nil 1 none)
 by_cases ho:C.out=true
 ·rw[if_pos ho]
  refine⟨Sat.can hs .z (by simp[AB]),?_⟩
  intro h2 e2
  replace hs:=Sat.wra (xs:=AP 0 0 0 (none,0,0) (AB 32)) hs .z e2 rfl
  clear e2;simp only[AG]at hs
  refine E2 hs .z (BQ 32) ?_
  have eG:AZ C L=8:=by unfold AZ;rw[if_pos ho]
  exact kz (by rw[eG];decide) (by unfold CX;rw[if_pos ho]) (by unfold A7;rw[Aq0 ho]) _ _ eG.symm hs.drop
 rw[if_neg ho]
 refine qI hs ok g.ci.s ?_
 intro h1 hs
 have f01:=N5 C
 have hw:IntKind.i64.wrap (1-AO C)=1-AO C:=by rcases f01 with y | y <;> rw[y] <;> decide
 rw[hw]
 intro J hJ
 apply hJ
 rw[if_pos (by decide),if_neg (by decide)]
 refine AaF (L:=L) hs ok g.s (AO C) ?_
 intro x y h2 tl pl hx hy hs
 intro n60 _ hn;replace hs:=Sat.new hs hn
 refine⟨Sat.can hs .z (by simp[AB]),?_⟩
 intro h3 e3
 replace hs:=Sat.wra (xs:=AP (BO (sG C L (AO C)) (AN C (AO C)).1) (BN (sG C L (AO C)) (AN C (AO C)).1) (BM (sG C L (AO C)) (AN C (AO C)).1) x (BF (sG C L (AO C)) (AN C (AO C)).1)) hs .z e3 (by rw[BX tl];rfl)
 clear e3;simp only[AG]at hs
 rw[LJ]
 by_cases c1:EB C L (AO C)=true
 ·rw[if_pos c1]
  have ez:sG C L (AO C)=0:=by have:=LJ C L (AO C);rw[c1]at this;simpa using this
  have ea:C9 C L=some (AO C):=by unfold C9;rw[if_pos c1]
  have eG:AZ C L=0:=by unfold AZ;rw[if_neg ho,ea]
  have eB:A7 C L=(AN C (AO C)).1:=by unfold A7;rw[ea]
  have eN:CX C L=AO C:=by unfold CX;rw[if_neg ho,ea]
  rw[eG,eB,eN]at k
  rw[ez]at hs tl pl hx
  refine E2 hs .z tl ?_
  refine⟨Sat.can hs zs3 (by simp[AB]),?_⟩
  intro h4 e4
  replace hs:=Sat.wra (xs:=AP (BO 0 (AN C (AO C)).1) (BN 0 (AN C (AO C)).1) (BM 0 (AN C (AO C)).1) x (BF 0 (AN C (AO C)).1)) hs zs3 e4 (by rw[BX tl,BX (BQ 32)])
  clear e4;simp only[AS,AG]at hs
  refine E2 hs zs3 tl ?_
  exact k x y h4 tl pl hx hy (hs.drop.sub (List.Sublist.cons_cons _ (List.Sublist.cons_cons _ (List.sublist_cons_self _ _))))
 rw[if_neg c1]
 replace hs:=hs.drop.drop.drop
 clear tl pl hx hy
 rw[show IntKind.i64.wrap (0+1)=1 from by decide]
 apply hJ
 rw[if_pos (by decide),if_pos (by decide)]
 refine AaF (L:=L) hs ok g.s (1-AO C) ?_
 intro x y h2 tl pl hx hy hs
 intro n60 _ hn;replace hs:=Sat.new hs hn
 refine⟨Sat.can hs .z (by simp[AB]),?_⟩
 intro h3 e3
 replace hs:=Sat.wra (xs:=AP (BO (sG C L (1-AO C)) (AN C (1-AO C)).1) (BN (sG C L (1-AO C)) (AN C (1-AO C)).1) (BM (sG C L (1-AO C)) (AN C (1-AO C)).1) x (BF (sG C L (1-AO C)) (AN C (1-AO C)).1)) hs .z e3 (by rw[BX tl];rfl)
 clear e3;simp only[AG]at hs
 rw[LJ]
 by_cases c2:EB C L (1-AO C)=true
 ·rw[if_pos c2]
  have ez:sG C L (1-AO C)=0:=by have:=LJ C L (1-AO C);rw[c2]at this;simpa using this
  have ea:C9 C L=some (1-AO C):=by unfold C9;rw[if_neg c1,if_pos c2]
  have eG:AZ C L=0:=by unfold AZ;rw[if_neg ho,ea]
  have eB:A7 C L=(AN C (1-AO C)).1:=by unfold A7;rw[ea]
  have eN:CX C L=1-AO C:=by unfold CX;rw[if_neg ho,ea]
  rw[eG,eB,eN]at k
  rw[ez]at hs tl pl hx
  refine E2 hs .z tl ?_
  refine⟨Sat.can hs zs3 (by simp[AB]),?_⟩
  intro h4 e4
  replace hs:=Sat.wra (xs:=AP (BO 0 (AN C (1-AO C)).1) (BN 0 (AN C (1-AO C)).1) (BM 0 (AN C (1-AO C)).1) x (BF 0 (AN C (1-AO C)).1)) hs zs3 e4 (by rw[BX tl,BX (BQ 32)])
  clear e4;simp only[AS,AG]at hs
  refine E2 hs zs3 tl ?_
  exact k x y h4 tl pl hx hy (hs.drop.sub (List.Sublist.cons_cons _ (List.Sublist.cons_cons _ (List.sublist_cons_self _ _))))
 rw[if_neg c2]
 replace hs:=hs.drop.drop.drop
 clear tl pl hx hy
 rw[show IntKind.i64.wrap (1+1)=2 from by decide]
 apply hJ
 rw[if_neg (by decide)]
 have ea:C9 C L=none:=by unfold C9;rw[if_neg c1,if_neg c2]
 have eG:AZ C L=17:=by unfold AZ;rw[if_neg ho,ea]
 have eN:CX C L=0:=by unfold CX;rw[if_neg ho,ea]
 have eB:A7 C L=[]:=by unfold A7;rw[ea]
 refine⟨Sat.can hs .z (by simp[AB]),?_⟩
 intro h6 e6
 replace hs:=Sat.wra (xs:=AP 0 0 0 (none,0,0) (AB 32)) hs .z e6 rfl
 clear e6;simp only[AG]at hs
 refine E2 hs .z (BQ 32) ?_
 exact kz (by rw[eG];decide) eN eB _ _ eG.symm hs.drop
theorem Ao8{Q:Int->HP}{rr:Nat}{R:List SR}{L:List Sec}(hs:Sat h0 A h)(ok:C.ok)(ho:¬C.out=true)(g:Rx A i p C rr R L)(k:∀h',Sat h0 A h'->Q (BK C L) h'):RI ⟨p,0,none⟩ ⟨rr,0,none⟩ Q h:=by
 unfold RI lZ
 try simp only[AF,Nat.zero_add,List.append_nil]
 refine qK (L:=L) hs ok g ?_
 intro x y h5 tl pl hx hy hs
 intro n84 _ hn;replace hs:=Sat.new hs hn
 refine⟨Sat.can hs .z (by simp[AB]),?_⟩
 intro h6 e6
 replace hs:=Sat.wra (xs:=AP (BO (AZ C L) (A7 C L)) (BN (AZ C L) (A7 C L)) (BM (AZ C L) (A7 C L)) x (BF (AZ C L) (A7 C L))) hs .z e6 (by rw[BX tl];rfl)
 clear e6;simp only[AG]at hs
 replace hs:=hs.drop.drop.drop
 have f01:=N5 C
 have w01:∀x:Int,x=0∨x=1->IntKind.i64.wrap (1-x)=1-x:=by intro x y;rcases y with y | y <;> rw[y] <;> decide
 cases ha:C9 C L with
 | none=>
  have eG:AZ C L=17:=by unfold AZ;rw[if_neg ho,ha]
  have eT:BK C L=1-AO C:=by unfold BK;rw[ha]
  rw[eG,if_neg (by decide)]
  refine qI hs ok g.ci ?_
  intro h7 hs
  rw[w01 _ f01,←eT]
  exact k _ hs
 | some a=>
  have eG:AZ C L=0:=by unfold AZ;rw[if_neg ho,ha]
  have eN:CX C L=a:=by unfold CX;rw[if_neg ho,ha]
  have eT:BK C L=1-a:=by unfold BK;rw[ha]
  rw[eG,eN,if_pos (by decide),w01 _ (q5 ha),←eT]
  exact k _ hs
theorem AoA{Q:Bool->HP}(hs:Sat h0 A h)(cj:At A j (AK r C))(k:∀h',Sat h0 A h'->Q (GZ C) h'):Q3 ⟨r,0,none⟩ Q h:=by
 unfold Q3 kR
 intro n4 _ hn;replace hs:=Sat.new hs hn
 exact z7 (i:=0) hs cj.s .z (fun h' hs'=>k h' hs'.drop)
theorem Ao7{Q:Int->HP}{rr:Nat}{bs:List Int}{q:Option Addr}{l c:Nat}{R:List SR}{L:List Sec}(hs:Sat h0 A h)(ok:C.ok)(g:Rx A i p C rr R L)
  (rd:∀D B h',Sat h0 (B++put A i (AK p D)) h'->hsv h' q 1 l (AA .u8 bs)) (hb:A4 bs) (hbl:bs.length=l) (hlc:l≤c) (hl:l<2^50)
  (k:∀h',Sat h0 (put A i (AK p (B7 C L bs).1)) h'->Q (B7 C L bs).2 h'):RH ⟨p,0,none⟩ ⟨rr,0,none⟩ q l c Q h:=by
 unfold RH lX
 try simp only[AF,Nat.zero_add,List.append_nil]
 have pS:=g.ci.put_self
 have rd0:∀B h',Sat h0 (B++A) h'->hsv h' q 1 l (AA .u8 bs):=fun B h' hs'=>rd C B h' (by rw[pS];exact hs')
 obtain⟨w,lc⟩:=DK hs g.ci
 refine⟨_,lc 11 _ rfl,?_⟩
 clear lc
 by_cases ho:C.out=true
 ·rw[if_pos ho]
  have e:B7 C L bs=(C,8):=by unfold B7;rw[if_pos ho]
  rw[e]at k
  exact k h (by rw[pS];exact hs)
 rw[if_neg ho]
 obtain⟨lp,lc',⟨_,_,cr⟩,_,_,cm⟩:=g.cr
 refine AaD (L:=L) (bs:=bs) hs g.ci cr cm g.eR g.lR g.gd (fun x hx=>⟨_,(g.rR x hx).choose_spec.2⟩) (fun h' hs'=>rd0 [] h' hs') hb hlc hl ?_
 intro nb x h2 tl pl hx hs
 replace hs:=hs.drop.drop
 clear tl pl hx
 by_cases c1:AM C L bs=0
 case neg=>
  rw[if_pos (by simpa using c1)]
  have e:B7 C L bs=(C,AM C L bs):=by unfold B7;rw[if_neg ho,if_pos c1]
  rw[e]at k
  exact k h2 (by rw[pS];exact hs)
 rw[if_neg (by simpa using c1)]
 obtain⟨w,lc⟩:=DK hs g.ci
 refine⟨_,lc 0 _ rfl,_,lc 1 _ rfl,_,lc 2 _ rfl,_,lc 3 _ rfl,_,lc 4 _ rfl,_,lc 5 _ rfl,_,lc 6 _ rfl,?_⟩
 clear lc
 refine z5 C.cfg hs ?_
 intro h4 hs
 by_cases c2:DR C.cfg<(l:Int)
 ·rw[AD,if_pos (by simpa using c2)]
  have e:B7 C L bs=(C,4):=by unfold B7;rw[if_neg ho,if_neg (by simpa using c1),if_pos (by rw[hbl];exact c2)]
  rw[e]at k
  exact k h4 (by rw[pS];exact hs)
 rw[AD,if_neg (by simpa using c2)]
 refine Ao8 (L:=L) hs ok ho g ?_
 intro h5 hs
 refine qI hs ok g.ci ?_
 intro h6 hs
 refine z8 hs g.ci (BK C L) ?_
 intro h7 hs
 refine qG hs g.ci ?_
 intro h8 hs
 intro J2 hJ2
 have t01:=AbH C L
 have f01:=N5 C
 obtain⟨r1,r2⟩:=ZC ok
 have bad:((C4 C (BK C L)).1=true∨BK C L≠AO C/\DY C=false)->∀h',Sat h0 A h'->Q 9 h':=by
  intro y h' hs'
  have e:B7 C L bs=(C,9):=by unfold B7;rw[if_neg ho,if_neg (by simpa using c1),if_neg (by rw[hbl];exact c2),if_pos y]
  rw[e]at k
  exact k h' (by rw[pS];exact hs')
 have good:¬((C4 C (BK C L)).1=true∨BK C L≠AO C/\DY C=false)->∀h',Sat h0 A h'->J2 [] h':=by
  intro y h' hs
  apply hJ2
  clear hJ2
  refine AoB (bs:=bs) hs g.ci (BK C L) (fun D h' hs'=>rd D [] h' hs') hl ?_
  intro h7 hs
  have e:B7 C L bs=if (D4 C (BK C L) bs).2≠0∨BK C L=AO C then D4 C (BK C L) bs else JG (D4 C (BK C L) bs).1 ((BV C).1+1):=by
   conv=>lhs;unfold B7
   rw[if_neg ho,if_neg (by simpa using c1),if_neg (by rw[hbl];exact c2),if_neg y]
  rw[e]at k
  by_cases c3:(D4 C (BK C L) bs).2=0
  case neg=>
   rw[if_pos (by simpa using c3)]
   rw[if_pos (Or.inl c3)]at k
   exact k h7 hs
  rw[if_neg (by simpa using c3)]
  by_cases c4:BK C L=AO C
  ·rw[if_pos (by simpa using c4)]
   rw[if_pos (Or.inr c4)]at k
   exact k h7 hs
  rw[if_neg (by simpa using c4)]
  rw[if_neg (by rintro (y | y);exact y c3;exact c4 y)]at k
  have hl2:DY C=true:=by
   cases hl:DY C
   ·exact absurd (Or.inr ⟨c4,hl⟩) y
   ·rfl
  have r3:(BV C).1<2^62:=by
   unfold DY at hl2
   rw[Bool.and_eq_true]at hl2
   exact of_decide_eq_true hl2.2
  have ew:IntKind.i64.wrap ((BV C).1+1)=(BV C).1+1:=AL ⟨by omega,by omega⟩
  rw[ew]
  refine AnQ hs (g.put _).ci _ ?_
  intro h8 hs
  rw[CD]at hs
  exact k h8 hs
 by_cases c5:(C4 C (BK C L)).1=true
 ·rw[if_pos c5];exact bad (Or.inl c5) _ hs
 rw[if_neg c5]
 by_cases c6:BK C L=AO C
 ·rw[if_neg (by simpa using c6)]
  exact good (by rintro (y | y);exact c5 y;exact y.1 c6) _ hs
 rw[if_pos (by simpa using c6)]
 refine AnV hs g.ci ?_
 intro h9 hs
 have fin:∀h',Sat h0 A h'->∀n:Int,n=4611686018427387904->DY C=decide ((BV C).1<2^62)->if leI n (BV C).1=true then Q 9 h' else J2 [] h':=by
  intro h' hs' n en el
  rw[A0,en]
  by_cases c7:(BV C).1<2^62
  ·rw[if_neg (by simpa using c7)]
   refine good ?_ _ hs'
   rintro (y | y)
   ·exact c5 y
   ·rw[el,decide_eq_true c7]at y;exact absurd y.2 (by decide)
  ·rw[if_pos (by simpa using c7)]
   exact bad (Or.inr ⟨c6,by rw[el];exact decide_eq_false c7⟩) _ hs'
 by_cases c8:DC C=0
 ·rw[if_pos (by simpa using c8)]
  refine AoA hs g.ci ?_
  intro h10 hs
  have eL:DY C=(!(GZ C)&&decide ((BV C).1<2^62)):=by unfold DY;rw[show decide (DC C≠0)=false by simp[c8],Bool.false_or]
  cases hw:GZ C
  ·rw[if_neg (by decide)]
   intro n en
   exact fin _ hs n en (by rw[eL,hw,Bool.not_false,Bool.true_and])
  ·rw[if_pos rfl]
   exact bad (Or.inr ⟨c6,by rw[eL,hw,Bool.not_true,Bool.false_and]⟩) _ hs
 rw[if_neg (by simpa using c8)]
 intro n en
 exact fin _ hs n en (by unfold DY;rw[decide_eq_true c8,Bool.true_or,Bool.true_and])
end
end Go.Proofs.YteedolonhdbieaaGreatDoor
end
section
namespace Go.Proofs.YteedolonhdbieaaGreatDoor
open Go Go.Vc
set_option maxRecDepth 100000
attribute [local irreducible] BI AM BO BN BM AY BF q8
structure PW where
 o:Option Addr
 m:Nat
 d:Nat
 s:List Int
 sm:List Int
 n:Int
 o2:Option Addr
 m2:Nat
structure Ring26 (B:List Ent) (rp mp rr:Nat) (lp:Option Addr) (lc:Nat) (R R2:List SR) (L:List Sec):Prop where
 cr:∃j,At B j (blk rp [.map (some mp)])
 cm:∃j,At B j (ED mp (R.map SR.ent))
 eR:R.map SR.kv=L
 gR:SR.good R
 rR:∀x,x∈R->∃y,At B y x.sl
 dr:∃j,At B j (blk rr [.slice lp R2.length lc])
 dl:∃j,At B j (slE lp R2.length lc 2 (DQ R2))
 eR2:R2.map SR.kv=L
 gR2:SR.good R2
 rR2:∀x,x∈R2->∃y,At B y x.sl
 lR2:R2.length<2^40
section
variable {h0 h:H} {A:List Ent} {i j p r b s m:Nat} {C:Cm}
end
end Go.Proofs.YteedolonhdbieaaGreatDoor
end
section
namespace Go.Proofs.YteedolonhdbieaaGreatDoor
open Go Go.Vc
set_option maxRecDepth 100000
attribute [local irreducible] BI AM BO BN BM AY BF q8
theorem NW{B:List Ent}{j:Nat}{e:Ent}(a:At B j e):∀X:List Ent,∃k,At (X++B) k e
 | []=>⟨j,a⟩
 | x::X=>by obtain⟨k,hk⟩:=NW a X;exact⟨k+1,.s hk⟩
theorem Ring26.left{B:List Ent}{rp mp rr:Nat}{lp:Option Addr}{lc:Nat}{R R2:List SR}{L:List Sec}(K:Ring26 B rp mp rr lp lc R R2 L)(X:List Ent):Ring26 (X++B) rp mp rr lp lc R R2 L:=
 ⟨NW K.cr.choose_spec X,NW K.cm.choose_spec X,K.eR,K.gR,fun x hx=>NW (K.rR x hx).choose_spec X,NW K.dr.choose_spec X,NW K.dl.choose_spec X,K.eR2,K.gR2,fun x hx=>NW (K.rR2 x hx).choose_spec X,K.lR2⟩
section
variable {h0 h:H} {A:List Ent} {i j p r b s m:Nat} {C:Cm}
end
end Go.Proofs.YteedolonhdbieaaGreatDoor
end
section
namespace Go.Proofs.YteedolonhdbieaaGreatDoor
open Go Go.Vc
set_option maxRecDepth 100000
attribute [local irreducible] BI AM BO BN BM AY BF EB sG
abbrev JJ(pc rp pr rr:Nat)(so lo:Value):List Value:=[.pointer (some ⟨pc,0,none⟩),so,.pointer (some ⟨rp,0,none⟩),lo,.pointer (some ⟨pr,0,none⟩),.pointer (some ⟨rr,0,none⟩)]
abbrev SG(lo pc st rp:Nat):Ent:=blk lo [.pointer (some ⟨pc,0,none⟩),.pointer (some ⟨st,0,none⟩),.pointer (some ⟨rp,0,none⟩)]
abbrev W15(w pc st lg lo rp pr rr:Nat)(C:Cm)(B:List Ent):List Ent:=
 blk w (JJ pc rp pr rr (.pointer (some ⟨st,0,none⟩)) (.pointer (some ⟨lo,0,none⟩)))::SG lo pc st rp::DG st pc lg::BY lg pc::AH pc C::AK pr C::B
def S15(h0:H)(w pc rp pr rr:Nat)(C:Cm)(B:List Ent)(h:H):Prop:=
 (∃so,Sat h0 (blk w (JJ pc rp pr rr so (.pointer none))::AH pc C::AK pr C::B) h)∨∃st lg lo,Sat h0 (W15 w pc st lg lo rp pr rr C B) h
theorem w9{w pc st lg lo rp mp pr rr:Nat}{C:Cm}{B:List Ent}{lp:Option Addr}{lc:Nat}{R R2:List SR}{L:List Sec}(K:Ring26 B rp mp rr lp lc R R2 L):Gx (W15 w pc st lg lo rp pr rr C B) 4 pc C lg st rp R L:=by
 obtain⟨j1,a1⟩:=K.cr
 obtain⟨j2,a2⟩:=K.cm
 refine⟨.s zs3,⟨3,by decide,.s zs2⟩,⟨2,by decide,.s zs1⟩,⟨mp,⟨j1+6,by omega,a1.s.s.s.s.s.s⟩,⟨j2+6,by omega,a2.s.s.s.s.s.s⟩⟩,?_,K.eR,K.gR⟩
 intro x hx
 obtain⟨y,a⟩:=K.rR x hx
 exact⟨y+6,by omega,a.s.s.s.s.s.s⟩
theorem Ap9{w pc st lg lo rp mp pr rr:Nat}{C:Cm}{B:List Ent}{lp:Option Addr}{lc:Nat}{R R2:List SR}{L:List Sec}(K:Ring26 B rp mp rr lp lc R R2 L):Rx (W15 w pc st lg lo rp pr rr C B) 5 pr C rr R2 L:=by
 obtain⟨j1,a1⟩:=K.dr
 obtain⟨j2,a2⟩:=K.dl
 refine⟨.s zs4,⟨lp,lc,⟨j1+6,by omega,a1.s.s.s.s.s.s⟩,⟨j2+6,by omega,a2.s.s.s.s.s.s⟩⟩,?_,K.eR2,K.lR2,K.gR2⟩
 intro x hx
 obtain⟨y,a⟩:=K.rR2 x hx
 exact⟨y+6,by omega,a.s.s.s.s.s.s⟩
section
variable {h0 h:H} {A B:List Ent} {i j p r b s m:Nat} {C:Cm}
theorem zA{Q:Bool->HP}{w pc rp pr rr:Nat}{so lv:Value}(hs:Sat h0 (blk w (JJ pc rp pr rr so lv)::AH pc C::AK pr C::B) h)(k:∀h',S15 h0 w pc rp pr rr C B h'->(C.out=false->∃st lg lo,Sat h0 (W15 w pc st lg lo rp pr rr C B) h')->Q true h'):IY ⟨w,0,none⟩ Q h:=by
 unfold IY iQ
 try simp only[AF,Nat.zero_add]
 refine⟨_,hs.ld .z rfl,_,rfl,?_⟩
 refine AaU hs zs1 ?_ ?_
 ·intro ho
  refine⟨Sat.can hs .z (show 1+1≤6 by decide),?_⟩
  intro h1 e1
  replace hs:=Sat.wr hs .z e1
  clear e1
  refine⟨Sat.can hs .z (show 3+1≤6 by decide),?_⟩
  intro h2 e2
  replace hs:=Sat.wr hs .z e2
  clear e2
  replace hs:Sat h0 (blk w (JJ pc rp pr rr (.pointer none) (.pointer none))::AH pc C::AK pr C::B) h2:=hs
  refine⟨_,hs.ld .z rfl,_,rfl,_,(Aa6 hs zs2).2,?_⟩
  rw[if_pos ho,if_pos (by simp)]
  exact k _ (Or.inl ⟨_,hs⟩) (fun y=>absurd (ho.symm.trans y) (by decide))
 ·intro ho st lg h1 hs
  refine⟨Sat.can hs zs2 (show 1+1≤6 by decide),?_⟩
  intro h2 e2
  replace hs:=Sat.wr hs zs2 e2
  clear e2
  refine⟨Sat.can hs zs2 (show 3+1≤6 by decide),?_⟩
  intro h3 e3
  replace hs:=Sat.wr hs zs2 e3
  clear e3
  replace hs:Sat h0 (DG st pc lg::BY lg pc::blk w (JJ pc rp pr rr (.pointer (some ⟨st,0,none⟩)) (.pointer none))::AH pc C::AK pr C::B) h3:=hs
  refine⟨_,hs.ld zs2 rfl,_,rfl,_,(Aa6 hs zs4).2,?_⟩
  rw[if_neg (by simp[ho]),if_neg (by simp),if_neg (by decide)]
  refine⟨_,hs.ld zs2 rfl,_,hs.ld zs2 rfl,_,rfl,_,rfl,_,rfl,?_⟩
  unfold J1 Y1
  intro lo _ hn;replace hs:=Sat.new hs hn
  refine⟨Sat.can hs zs3 (show 3+1≤6 by decide),?_⟩
  intro h4 e4
  replace hs:=Sat.wr hs zs3 e4
  clear e4
  replace hs:Sat h0 (SG lo pc st rp::DG st pc lg::BY lg pc::blk w (JJ pc rp pr rr (.pointer (some ⟨st,0,none⟩)) (.pointer (some ⟨lo,0,none⟩)))::AH pc C::AK pr C::B) h4:=hs
  refine⟨_,hs.ld zs3 rfl,?_⟩
  have hs:=hs.perm (List.perm_middle (l₁:=[SG lo pc st rp,DG st pc lg,BY lg pc]))
  exact k _ (Or.inr ⟨st,lg,lo,hs⟩) (fun _=>⟨st,lg,lo,hs⟩)
theorem S15.any{w pc rp pr rr:Nat}(W:S15 h0 w pc rp pr rr C B h):∃so lv,Sat h0 (blk w (JJ pc rp pr rr so lv)::AH pc C::AK pr C::B) h:=by
 rcases W with⟨so,hs⟩ | ⟨s,l,lo,hs⟩
 ·exact⟨_,_,hs⟩
 ·exact⟨_,_,hs.sub (List.Sublist.cons_cons _ (((List.sublist_cons_self _ _).trans (List.sublist_cons_self _ _)).trans (List.sublist_cons_self _ _)))⟩
theorem yH{Q:Bool->HP}{nb n18:Nat}{vs:List Value}{a b' v N e:Int}{P:Option Addr}{x:Sl}{t pay:List Int}{y:Ent}(hvs:vs.length=36)(ht:t.length=32)(hx:x.2.1=pay.length)(hp:pay.length<2^40)
  (hs:Sat h0 (blk nb vs::sE x 1 (AA .u8 pay)::y::blk n18 (AP a b' v (P,pay.length,pay.length) t)::FW P pay.length pay::A) h)
  (k:∀h',Sat h0 A h'->Q true h'):Y2 Q9 Q h nb a b' v x.1 x.2.1 x.2.2 t n18 N N e e:=by
 unfold Y2
 try simp only[AF,Nat.zero_add,List.append_nil]
 intro h1 e1
 replace hs:=Sat.wra (xs:=AP a b' v x t) hs .z e1 (by rw[BX ht,hvs])
 clear e1
 simp only[AG]at hs
 obtain⟨n,hn⟩:∃n,n=pay.length:=⟨_,rfl⟩
 rw[←hn]at hs hx hp
 intro J hJ
 refine E2 hs zs3 ht ?_
 refine E2 hs .z ht ?_
 refine ApF (pay:=pay) hs ht (fun h' hs'=>zN hs' zs4) (fun h' hs'=>hs'.sv zs1) ?_
 intro h2 hs
 rw[if_pos rfl,if_pos (by simp),beq_self_eq_true]
 apply hJ
 clear hJ J
 intro J hJ
 refine BB n (fun t' h=>∃zs:List Int,zs.length=n/\Sat h0 (blk nb (AP a b' v x t)::sE x 1 (AA .u8 pay)::y::blk n18 (AP a b' v (P,n,n) t)::FW P n zs::A) h) ?_ ?_ 0 _ (by omega) ⟨_,hn.symm,hs⟩
 ·clear hs
  rintro x' h8 hx' ⟨zs,hz,hs⟩ hk
  apply hJ
  clear hJ
  refine⟨_,_,_,hs.ld zs3 rfl,?_⟩
  rw[AD,if_pos (by rw[decide_eq_true_iff];dsimp only;omega)]
  refine⟨_,_,_,hs.ld zs3 rfl,?_⟩
  simp only[Int.toNat_natCast,Nat.mul_one]
  obtain⟨q1,hq1,g1⟩:=CI (zN hs zs4) (x:=x') hx'
  obtain⟨q2,hq2,c2,w2⟩:=AnO hs zs4 hx'
  rw[hq1]at hq2
  cases hq2
  refine⟨_,hq1,by omega,by omega,_,g1,_,hq1,by omega,by omega,c2,?_⟩
  intro h9 e9
  have hs:=w2 _ _ e9
  simp only[AS,AG]at hs
  rw[AU (by omega)]
  exact hk _ ⟨_,by rw[List.length_set];exact hz,hs⟩
 clear hs
 rintro h8 ⟨zs,hz,hs⟩
 apply hJ
 clear hJ
 refine⟨_,_,_,hs.ld zs3 rfl,?_⟩
 rw[AD,if_neg (by rw[decide_eq_true_iff];dsimp only;omega)]
 exact k _ hs.drop.drop.drop.drop.drop
theorem Ar0{Q:Bool->HP}{w pc st lg lo rp mp pr rr:Nat}{lp:Option Addr}{lc:Nat}{R R2:List SR}{L:List Sec}(hg:hc h0 ⟨0,0,none⟩=some E0)(K:Ring26 B rp mp rr lp lc R R2 L)
  (hs:Sat h0 (W15 w pc st lg lo rp pr rr C B) h) (k:∀h',Sat h0 (W15 w pc st lg lo rp pr rr C B) h'->Q true h'):QE ⟨w,0,none⟩ Q h:=by
 unfold QE iS
 try simp only[AF,Nat.zero_add,List.append_nil]
 have ok:=CG hs zs4
 have g:=w9 (w:=w) (pc:=pc) (st:=st) (lg:=lg) (lo:=lo) (pr:=pr) (C:=C) K
 have gr:=Ap9 (w:=w) (pc:=pc) (st:=st) (lg:=lg) (lo:=lo) (pr:=pr) (C:=C) K
 refine⟨_,hs.ld .z rfl,_,rfl,?_⟩
 refine Y9 (L:=L) hg hs ok g zs1 ?_
 intro P h1 tl pl hs
 intro n18 _ hn;replace hs:=Sat.new hs hn
 refine⟨Sat.can hs .z (by simp[AB]),?_⟩
 intro h2 e2
 replace hs:=Sat.wra (xs:=AP (BO (AZ C L) (A7 C L)) (BN (AZ C L) (A7 C L)) (BM (AZ C L) (A7 C L)) (P,(AY (AZ C L) (A7 C L)).length,(AY (AZ C L) (A7 C L)).length) (BF (AZ C L) (A7 C L))) hs .z e2 (by rw[BX tl];rfl)
 clear e2;simp only[AG]at hs
 have fin:∀{X:List Ent} {h':H},Sat h0 X h'->(W15 w pc st lg lo rp pr rr C B).Sublist X->Q true h':=fun hs' sb=>k _ (hs'.sub sb)
 refine⟨_,hs.ld zs2 rfl,_,hs.ld zs2 rfl,⟨_,rfl,_,rfl,?_⟩,?_⟩
 ·refine qK (L:=L) hs ok gr.s.s ?_
  intro x y h3 tl pl hx hy hs
  intro n40 _ hn;replace hs:=Sat.new hs hn
  refine⟨Sat.can hs .z (by simp[AB]),?_⟩
  exact yH (by simp[AB]) tl hx pl hs (fun h' hs'=>k _ hs')
 ·intro n82 _ hn;replace hs:=Sat.new hs hn
  refine⟨AI (hs.ld zs3 rfl),AI (hs.ld zs3 rfl),_,rfl,_,rfl,?_⟩
  refine qK (L:=L) hs ok gr.s.s.s ?_
  intro x y h3 tl pl hx hy hs
  refine⟨Sat.can hs zs2 (by simp[AB]),?_⟩
  replace hs:=hs.front zs2
  simp only[del]at hs
  exact yH (by simp[AB]) tl hx pl hs (fun h' hs'=>k _ hs')
end
end Go.Proofs.YteedolonhdbieaaGreatDoor
end
section
namespace Go.Proofs.YteedolonhdbieaaGreatDoor
open Go Go.Vc
set_option maxRecDepth 100000
attribute [local irreducible] BI AM BO BN BM AY BF EB sG
section
variable {h0 h:H} {A B:List Ent} {i j p r b s m:Nat} {C:Cm}
theorem AqZ{Q:Bool->HP}{w pc st lg lo rp mp pr rr:Nat}{lp:Option Addr}{lc:Nat}{R R2:List SR}{L:List Sec}{bs:List Int}{mq:Option Addr}{ml mc:Nat}(hg:hc h0 ⟨0,0,none⟩=some E0)(K:Ring26 B rp mp rr lp lc R R2 L)
  (hs:Sat h0 (W15 w pc st lg lo rp pr rr C B) h) (rd:hsv h0 mq 1 ml (AA .u8 bs)) (hb:A4 bs) (hmc:ml≤mc) (hl:ml+4096≤2^47)
  (k:∀D h',Sat h0 (W15 w pc st lg lo rp pr rr D B) h'->Q true h'):QD ⟨w,0,none⟩ mq ml mc Q h:=by
 unfold QD iR
 try simp only[AF,Nat.zero_add,List.append_nil]
 have hbl:bs.length=ml:=by have:=rd.1;simpa using this
 have ew:IntKind.i64.wrap ((ml:Int)+5)=((ml+5:Nat):Int):=by rw[AL (by omega)];push_cast;rfl
 rw[ew]
 simp only[Int.toNat_natCast,Nat.sub_zero,EH]
 refine⟨by decide,by omega,by omega,by omega,?_⟩
 intro n8 _ hn;replace hs:=Sat.new hs hn
 replace hs:=AiT hs (i:=0) (c:=ml+5) (sz:=1) .z (by simp)
 simp only[AG]at hs
 refine⟨_,hs.base rd,?_⟩
 refine Sat.app hs (i:=0) (vs:=AA .u8 bs) .z (by simp[hbl]) rfl (A5 _ _) (by omega) ?_
 intro p1 c1 h4 hs
 simp only[AG,List.nil_append,Nat.zero_add]at hs ⊢
 intro n90 _ hn;replace hs:=Sat.new hs hn
 refine⟨_,hs.bv (i:=0) (l:=5) .z rfl (A5 .u8 [1,2,3,4,5]),?_⟩
 refine Sat.app hs (i:=1) (vs:=AA .u8 [1,2,3,4,5]) zs1 rfl rfl (A5 _ _) (by omega) ?_
 intro po co h5 hs
 simp only[AS,AG]at hs
 rw[←FC]at hs
 replace hs:=hs.drop
 have hco:=R5 hs .z
 have ok:=CG hs zs5
 have ownRd:∀{X:List Ent} {y:Nat} {h':H},Sat h0 X h'->At X y (slE po (ml+5) co 1 (AA .u8 (bs++[1,2,3,4,5])))->hsv h' po 1 ml (AA .u8 bs):=by
  intro X y h' hs' a
  have R:=IK (o:=0) (n:=ml) (m:=ml+5) (hs'.sv a) (by omega) (by omega)
  rw[List.drop_zero,←hbl,List.take_left' rfl,hbl,EH]at R
  exact R
 refine⟨by omega,by omega,_,hs.ld zs1 rfl,_,rfl,?_⟩
 refine uR (L:=L) (bs:=bs) hg hs ok (w9 (w:=w) (pc:=pc) (st:=st) (lg:=lg) (lo:=lo) (pr:=pr) (C:=C) K).s (z:=2) (by decide) zs2 (fun D X h' hs'=>ownRd (hs'.sub (List.sublist_append_right X _)) .z) hb hbl (by omega) (by omega) ?_
 intro h6 hs
 simp only[AS,AG]at hs
 refine⟨_,hs.ld zs1 rfl,_,hs.ld zs1 rfl,_,rfl,_,rfl,?_⟩
 have gr:Rx (slE po (ml+5) co 1 (AA .u8 (bs++[1,2,3,4,5]))::blk w (JJ pc rp pr rr (.pointer (some ⟨st,0,none⟩)) (.pointer (some ⟨lo,0,none⟩)))::SG lo pc st rp::DG st pc lg::BY lg pc::AH pc (B7 C L bs).1::AK pr C::B) 6 pr C rr R2 L:=by
  obtain⟨j1,a1⟩:=K.dr
  obtain⟨j2,a2⟩:=K.dl
  refine⟨.s zs5,⟨lp,lc,⟨j1+7,by omega,a1.s.s.s.s.s.s.s⟩,⟨j2+7,by omega,a2.s.s.s.s.s.s.s⟩⟩,?_,K.eR2,K.lR2,K.gR2⟩
  intro x hx
  obtain⟨y,a⟩:=K.rR2 x hx
  exact⟨y+7,by omega,a.s.s.s.s.s.s.s⟩
 refine Ao7 (L:=L) (bs:=bs) hs ok gr (fun D X h' hs'=>hs'.base rd) hb hbl hmc (by omega) ?_
 intro h7 hs
 simp only[AS,AG]at hs
 clear gr
 refine⟨by omega,by omega,?_⟩
 intro J hJ
 rw[if_pos (by simp)]
 refine⟨bs,ownRd hs .z,bs,hs.base rd,?_⟩
 rw[if_pos (by simp)]
 have R3:=IK (o:=ml) (n:=5) (m:=co) (hs.sv .z) (by omega) (by omega)
 rw[←hbl,List.drop_left' rfl,hbl]at R3
 refine⟨by omega,by omega,[1,2,3,4,5],?_,?_⟩
 ·rw[show ml+5-ml=5 by omega]
  exact R3
 rw[show ((bytesOf [1,2,3,4,5]).toList == (ByteArray.mk #[1,2,3,4,5]).toList)=true by rw[show (bytesOf [1,2,3,4,5]).toList=(ByteArray.mk #[1,2,3,4,5]).toList by rfl];simp]
 apply hJ
 clear hJ J
 intro J hJ
 obtain⟨D,hD⟩:∃D,D=(B7 C L bs).1:=⟨_,rfl⟩
 rw[←hD]at hs
 refine BB ml (fun t h=>∃zs:List Int,zs.length=ml+5/\Sat h0 (slE po (ml+5) co 1 (AA .u8 zs)::W15 w pc st lg lo rp pr rr D B) h) ?_ ?_ 0 _ (by omega) ⟨_,by rw[List.length_append,hbl];rfl,hs⟩
 ·clear hs
  rintro t h8 ht ⟨zs,hz,hs⟩ hk
  apply hJ
  clear hJ
  rw[AD,if_pos (by rw[decide_eq_true_iff];omega)]
  obtain⟨ob,hob⟩:=hs.sl_some .z (by omega)
  rw[hob]at hs ⊢
  simp only[Int.toNat_natCast,Nat.mul_one]
  obtain⟨q1,hq1,g1⟩:=CI (hs.sv .z) (x:=t) (by omega)
  cases hq1
  refine⟨_,rfl,by omega,by omega,_,g1,_,rfl,by omega,by omega,?_,?_⟩
  ·rw[AF,Nat.zero_add]
   exact hs.scan .z (by omega) (by rw[A6];omega)
  intro h9 e9
  rw[AF,Nat.zero_add]at e9
  obtain⟨v,hv⟩:∃v,v=bits .xor .u8 (zs.getD t 0) 255:=⟨_,rfl⟩
  rw[←hv]at e9
  have hs:=hs.swr (xs:=AA .u8 [v]) .z e9 (by omega) (by simp;omega) (A5 _ _)
  simp only[AG]at hs
  have es:AR (AA .u8 zs) t (AA .u8 [v])=AA .u8 (zs.set t v):=by
   have:=M9 (AA .u8 (zs.take t)) (AA .u8 [zs[t]]) (AA .u8 (zs.drop (t+1))) (AA .u8 [v]) rfl
   rw[A6,List.length_take,Nat.min_eq_left (by omega)]at this
   have e1:zs=zs.take t++[zs[t]]++zs.drop (t+1):=by
    have:=(List.take_append_drop t zs).symm
    rw[List.drop_eq_getElem_cons (show t<zs.length by omega)]at this
    rw[List.append_assoc];exact this
   have e2:=congrArg (AA .u8) e1
   rw[FC,FC]at e2
   rw[←e2]at this
   rw[this,List.set_eq_take_append_cons_drop,if_pos (by omega),←FC,←FC,List.append_assoc]
   rfl
  rw[es,←hob]at hs
  rw[AU (by omega)]
  exact hk _ ⟨_,by rw[List.length_set];exact hz,hs⟩
 clear hs
 rintro h8 ⟨zs,hz,hs⟩
 apply hJ
 clear hJ
 rw[AD,if_neg (by rw[decide_eq_true_iff];omega)]
 exact k _ _ hs.drop
theorem v4{Q:HP}{w pc rp pr rr:Nat}{so lv:Value}(o:OpE)(ok:o.ok){mq:Option Addr}{ml mc n20:Nat}(rd:hsv h0 mq 1 ml (AA .u8 o.mask))(hs:Sat h0 (blk n20 [.int .i64 o.kind,.int .i64 o.n,.int .i64 o.v,.slice mq ml mc]::A) h){a:Nat}(tw:At A a (blk w (JJ pc rp pr rr so lv)))(ci:At A i (AH pc C))(cj:At A j (AK pr C))(hai:a≠i)(hij:i≠j)
  (k:∀h',Sat h0 (put (put A i (AH pc (D8 C o.n o.mask))) j (AK pr (D8 C o.n o.mask))) h'->Q h'):
  ∃o24:Option Addr,hc h ⟨w,0,none⟩=some (.pointer o24)/\∃i25:Int,hc h ⟨n20,1,none⟩=some (.int .i64 i25)/\∃(o26:Option Addr) (n27 n28:Nat),hc h ⟨n20,3,none⟩=some (.slice o26 n27 n28)/\
   ∀(n29:Nat) (h30:H),hnew h n29 [] h30->hcs h30 ⟨n20,3,none⟩ [.slice o26 n27 n28]/\hcs h30 ⟨n20,1,none⟩ [.int .i64 i25]/\hcs h30 ⟨w,0,none⟩ [.pointer o24]/\∃l32:List Value,hsv h30 o26 1 n27 l32/\AW h30 1 [.int .u8 0] 1 (some ⟨n29,0,none⟩) 0 0 n27 l32 fun(o33:Option Addr) (n34 n35:Nat) (h36:H)=>
    hcs h36 ⟨n20,1,none⟩ [.int .i64 i25]/\hcs h36 ⟨w,0,none⟩ [.pointer o24]/\∃p37:Addr,o24=some p37/\NH p37 i25 o33 n34 n35 (fun(h38:H)=>∃o39:Option Addr,hc h38 ⟨w,4,none⟩=some (.pointer o39)/\∃i40:Int,hc h38 ⟨n20,1,none⟩=some (.int .i64 i40)/\∃(o41:Option Addr) (n42 n43:Nat),hc h38 ⟨n20,3,none⟩=some (.slice o41 n42 n43)/\∃p44:Addr,o39=some p44/\NJ p44 i40 o41 n42 n43 (fun(h45:H)=>Q h45) h38) h36:=by
 have hml:o.mask.length=ml:=by have:=rd.1;simpa using this
 have hmm:=ok.ml
 refine⟨_,hs.ld tw.s rfl,_,hs.ld .z rfl,_,_,_,hs.ld .z rfl,?_⟩
 intro n23 _ hn;replace hs:=Sat.new hs hn
 refine⟨AI (hs.ld zs1 rfl),AI (hs.ld zs1 rfl),AI (hs.ld tw.s.s rfl),_,EC hs.ex rd (fun _ _ y=>y),?_⟩
 replace hs:=(hs.drop).sl_nil 1 (some ⟨n23,0,none⟩)
 dsimp only[sE]at hs
 refine Sat.app hs (i:=0) (vs:=AA .u8 o.mask) .z (by simp[hml]) rfl (A5 _ _) (by omega) ?_
 intro p' c' h4 hs
 rw[AG]at hs
 simp only[List.nil_append,Nat.zero_add]at hs ⊢
 refine⟨AI (hs.ld zs1 rfl),AI (hs.ld tw.s.s rfl),_,rfl,?_⟩
 refine AcI hs (i:=i+2) ci.s.s o.n ok.n (hs.sv .z) ok.mb (by omega) ?_
 intro h5 hs
 simp only[AS]at hs
 refine⟨_,hs.ld (tw.put_ne hai _).s.s rfl,_,hs.ld zs1 rfl,_,_,_,hs.ld zs1 rfl,_,rfl,?_⟩
 refine AnU hs (i:=j+2) (cj.put_ne (fun y=>hij y.symm) _).s.s o.n ok.n (fun C' h' hs'=>EC hs'.ex rd (fun _ _ y=>y)) ok.mb (by omega) ?_
 intro h6 hs
 simp only[AS]at hs
 exact k _ hs.drop.drop
theorem Ar1{Q:Bool->HP}{w pc rp mp pr rr:Nat}{lp:Option Addr}{lc:Nat}{R R2:List SR}{L:List Sec}{mq:Option Addr}{ml mc:Nat}(o:OpE)(ok:o.ok)(hg:hc h0 ⟨0,0,none⟩=some E0)(rd:hsv h0 mq 1 ml (AA .u8 o.mask))(hmc:ml≤mc)(K:Ring26 B rp mp rr lp lc R R2 L)
  (W:S15 h0 w pc rp pr rr C B h) (k:∀D h',S15 h0 w pc rp pr rr D B h'->Q true h'):QF ⟨w,0,none⟩ o.kind o.n o.v mq ml mc Q h:=by
 unfold QF iT
 try simp only[AF,Nat.zero_add,List.append_nil]
 have hml:o.mask.length=ml:=by have:=rd.1;simpa using this
 have hmm:=ok.ml
 by_cases k5:o.kind=5
 ·rcases W with⟨so,hs⟩ | ⟨st,lg,lo,hs⟩
  ·intro n20 _ hn;replace hs:=Sat.new hs hn
   refine⟨_,hs.ld .z rfl,?_⟩
   rw[if_pos (by simpa using k5)]
   refine v4 (so:=so) (lv:=.pointer none) o ok rd hs (a:=0) (i:=1) .z zs1 zs2 (by decide) (by decide) ?_
   intro h1 hs
   simp only[AS,AG]at hs
   exact k _ _ (Or.inl ⟨so,hs⟩)
  ·intro n20 _ hn;replace hs:=Sat.new hs hn
   refine⟨_,hs.ld .z rfl,?_⟩
   rw[if_pos (by simpa using k5)]
   refine v4 (so:=.pointer (some ⟨st,0,none⟩)) (lv:=.pointer (some ⟨lo,0,none⟩)) o ok rd hs (a:=0) (i:=4) .z zs4 zs5 (by decide) (by decide) ?_
   intro h1 hs
   simp only[AS,AG]at hs
   exact k _ _ (Or.inr ⟨st,lg,lo,hs⟩)
 by_cases k6:o.kind=6
 ·obtain⟨so,lv,hs⟩:=W.any
  intro n20 _ hn;replace hs:=Sat.new hs hn
  refine⟨_,hs.ld .z rfl,?_⟩
  rw[if_neg (by simpa using k5),if_pos (by simpa using k6)]
  refine⟨_,hs.ld zs1 rfl,_,rfl,?_⟩
  refine AiB hs zs2 ?_
  intro h2 hs
  simp only[AS,AG]at hs
  refine⟨_,hs.ld zs1 rfl,_,rfl,?_⟩
  refine Ao4 hs zs3 ?_
  intro h3 hs
  simp only[AS,AG]at hs
  exact zA hs.drop fun h' W' _=>k _ _ W'
 rcases W with⟨so,hs⟩ | ⟨st,lg,lo,hs⟩
 ·intro n20 _ hn;replace hs:=Sat.new hs hn
  refine⟨_,hs.ld .z rfl,?_⟩
  rw[if_neg (by simpa using k5),if_neg (by simpa using k6)]
  refine⟨_,hs.ld zs1 rfl,?_⟩
  rw[if_pos (by simp)]
  exact k _ _ (Or.inl ⟨so,hs.drop⟩)
 intro n20 _ hn;replace hs:=Sat.new hs hn
 have same:∀D h',Sat h0 (blk n20 [.int .i64 o.kind,.int .i64 o.n,.int .i64 o.v,.slice mq ml mc]::W15 w pc st lg lo rp pr rr D B) h'->Q true h':=fun D h' hs'=>k D h' (Or.inr ⟨st,lg,lo,hs'.drop⟩)
 refine⟨_,hs.ld .z rfl,?_⟩
 rw[if_neg (by simpa using k5),if_neg (by simpa using k6)]
 refine⟨_,hs.ld zs1 rfl,?_⟩
 rw[if_neg (by simp)]
 refine⟨_,hs.ld .z rfl,?_⟩
 by_cases k1:o.kind=1
 ·rw[if_pos (by simpa using k1)]
  exact Ar0 hg K hs.drop fun h' hs'=>k C h' (Or.inr ⟨st,lg,lo,hs'⟩)
 rw[if_neg (by simpa using k1)]
 by_cases k2:o.kind=2
 ·rw[if_pos (by simpa using k2)]
  refine⟨_,_,_,hs.ld .z rfl,?_⟩
  exact AqZ hg K hs.drop rd ok.mb hmc (by omega) fun D h' hs'=>k D h' (Or.inr ⟨st,lg,lo,hs'⟩)
 rw[if_neg (by simpa using k2)]
 by_cases k3:o.kind=3
 ·rw[if_pos (by simpa using k3)]
  refine⟨_,hs.ld zs1 rfl,_,hs.ld .z rfl,_,hs.ld .z rfl,_,hs.ld zs1 rfl,_,hs.ld .z rfl,_,hs.ld .z rfl,_,rfl,?_⟩
  refine ApB hs (i:=5) (j:=4) zs5 zs4 zs3 (by decide) (by decide) o.n o.v ?_
  intro h1 hs
  simp only[AS,AG]at hs
  refine⟨AI (hs.ld .z rfl),AI (hs.ld .z rfl),AI (hs.ld zs1 rfl),_,rfl,?_⟩
  refine AnS hs zs6 o.n o.v ?_
  intro h2 hs
  simp only[AS,AG]at hs
  rw[beq_self_eq_true]
  exact same _ h2 hs
 rw[if_neg (by simpa using k3)]
 by_cases k4:o.kind=4
 ·rw[if_pos (by simpa using k4)]
  refine⟨_,hs.ld zs1 rfl,_,hs.ld .z rfl,_,hs.ld zs1 rfl,_,hs.ld .z rfl,_,rfl,?_⟩
  refine ApD hs (i:=5) zs5 zs3 o.n ?_
  intro h1 hs
  simp only[AS,AG]at hs
  refine⟨AI (hs.ld .z rfl),AI (hs.ld zs1 rfl),_,rfl,?_⟩
  unfold WX kY
  refine Ao5 hs zs6 o.n ?_
  intro h2 hs
  simp only[AS,AG]at hs
  dsimp only
  rw[beq_self_eq_true]
  exact same _ h2 hs
 rw[if_neg (by simpa using k4)]
 exact same _ _ hs
theorem u3{Q:Bool->HP}{w pc pr:Nat}{vs:List Value}{a:Nat}(hs:Sat h0 A h)(tw:At A a (blk w vs))(e0:vs[0]?=some (.pointer (some ⟨pc,0,none⟩)))(e4:vs[4]?=some (.pointer (some ⟨pr,0,none⟩)))(ci:At A i (AH pc C))(cj:At A j (AK pr C))(hai:a≠j)
  (k:∀h',Sat h0 A h'->Q true h'):QC ⟨w,0,none⟩ Q h:=by
 unfold QC iP
 try simp only[AF,Nat.zero_add]
 have ok:=CG hs ci
 have sm:=ok.small
 have smp:=sm.pages;have sme:=sm.erases;have smb:=sm.blown
 have smr:∀l,l∈C.s.pages->l.length<2^62:=fun l hl=>by have:=sm.rows l hl;omega
 obtain⟨i',ci'⟩:=vH ci (AjU ci cj)
 obtain⟨a',tw'⟩:=vH tw hai
 obtain⟨⟨v,ms⟩,hw,hs⟩:=(hs.front cj).open_
 replace hs:Sat h0 (blk pr (C.cells v.a v.b v.c v.m)::BR 32 v.a C.s.pages::sE v.b 1 (AA .i64 C.s.erases)::sE v.c 1 (A3 C.s.blown)::sE v.m 1 (AA .u8 ms)::del A j) _:=hs
 refine⟨_,hs.ld tw'.s.s.s.s.s e0,_,hs.ld tw'.s.s.s.s.s e4,_,rfl,_,_,_,hs.ld .z rfl,_,_,_,hs.ld .z rfl,_,_,_,hs.ld .z rfl,_,rfl,?_⟩
 refine AiF hs (i:=i'+5) ci'.s.s.s.s.s ?_
 intro a1 b1 d1 h1 hs
 replace hs:Sat h0 (BR 32 a1 C.s.pages::sE b1 1 (AA .i64 C.s.erases)::sE d1 1 (A3 C.s.blown)::blk pr (C.cells v.a v.b v.c v.m)::BR 32 v.a C.s.pages::sE v.b 1 (AA .i64 C.s.erases)::sE v.c 1 (A3 C.s.blown)::sE v.m 1 (AA .u8 ms)::del A j) _:=hs
 refine⟨Sat.cs hs (i:=3) (by repeat constructor) rfl,AI (hs.ld tw'.s.s.s.s.s.s.s.s e4),?_⟩
 refine AiD (a:=a1) (b:=b1) (c:=d1) (a2:=v.a) (b2:=v.b) (c2:=v.c) (s:=C.s) hs
  (fun h' hs'=>YE hs' (i:=0) (j:=1) (k:=2) (by repeat constructor) (by repeat constructor) (by repeat constructor)) (fun h' hs'=>YE hs' (i:=4) (j:=5) (k:=6) (by repeat constructor) (by repeat constructor) (by repeat constructor)) (by omega) (by omega) (by omega) smr ?_
 intro h2 hs
 rw[if_pos (by simp)]
 have tr:At (BR 32 a1 C.s.pages::sE b1 1 (AA .i64 C.s.erases)::sE d1 1 (A3 C.s.blown)::blk pr (C.cells v.a v.b v.c v.m)::BR 32 v.a C.s.pages::sE v.b 1 (AA .i64 C.s.erases)::sE v.c 1 (A3 C.s.blown)::sE v.m 1 (AA .u8 ms)::del A j) 3 (blk pr (C.cells v.a v.b v.c v.m)):=by(repeat (first | exact At.z | apply At.s))
 refine⟨_,hs.ld tw'.s.s.s.s.s.s.s.s e0,_,hs.ld tw'.s.s.s.s.s.s.s.s e4,_,rfl,_,hs.ld tr rfl,_,rfl,?_⟩
 refine Ac3 hs (i:=i'+8) ci'.s.s.s.s.s.s.s.s ?_
 refine⟨AI (hs.ld tr rfl),AI (hs.ld tw'.s.s.s.s.s.s.s.s e4),?_⟩
 rw[if_pos (by simp)]
 refine⟨_,hs.ld tw'.s.s.s.s.s.s.s.s e0,_,hs.ld tw'.s.s.s.s.s.s.s.s e4,_,rfl,_,hs.ld tr rfl,_,rfl,?_⟩
 refine RX hs (i:=i'+8) ci'.s.s.s.s.s.s.s.s ?_
 refine⟨AI (hs.ld tr rfl),AI (hs.ld tw'.s.s.s.s.s.s.s.s e4),?_⟩
 rw[beq_self_eq_true]
 have hs2:Sat h0 (EF pr C (v,ms)++del A j) h2:=hs.drop.drop.drop
 have:Sat h0 (put A j (AK pr C)) h2:=Sat.back cj (Sat.close (n:=4) (φ:=RefW C) (F:=EF pr C) (v,ms) hw hs2)
 rw[cj.put_self]at this
 exact k _ this
end
end Go.Proofs.YteedolonhdbieaaGreatDoor
end
section
namespace Go.Proofs.YteedolonhdbieaaGreatDoor
open Go Go.Vc
set_option maxRecDepth 1000000
def cfg15:Cfg:=⟨16,1,2,3,1,0,1⟩
theorem AjQ:cfg15.may:=by refine⟨?_,?_,?_,?_,?_,?_,?_⟩ <;> decide
def L15:List Sec:=[(0,[7])]
def b15:List Int:=CH 0 0 5 [1,2,3]++BI [7] (CH 0 0 5 [1,2,3])
def D15:Cm:=(B7 (B6 cfg15) L15 b15).1
theorem g15:(AZ (B6 cfg15) L15 == 17&&(B7 (B6 cfg15) L15 b15).2 == 0&&AZ D15 L15 == 0&&CX D15 L15 == 1&&BM 0 (A7 D15 L15)==5&&(AY 0 (A7 D15 L15)).length == 3)=true:=by decide +kernel
theorem Al8:AZ (B6 cfg15) L15=17/\(B7 (B6 cfg15) L15 b15).2=0/\AZ D15 L15=0/\CX D15 L15=1/\BM 0 (A7 D15 L15)=5/\(AY 0 (A7 D15 L15)).length=3:=by
 have:=g15
 simp only[Bool.and_eq_true,beq_iff_eq]at this
 exact⟨this.1.1.1.1.1,this.1.1.1.1.2,this.1.1.1.2,this.1.1.2,this.1.2,this.2⟩
theorem n15:DP L15=none:=by decide
theorem AiZ:A4 b15:=by
 intro x hx
 rcases List.mem_append.1 hx with hx | hx
 ·exact (show A4 (CH 0 0 5 [1,2,3]) from Ak3 (by intro n hn;simp only[List.mem_cons,List.not_mem_nil,or_false]at hn;rcases hn with rfl | rfl | rfl <;> decide)) x hx
 ·exact yC _ _ x hx
theorem AiY:b15.length=51:=by unfold b15;rw[List.length_append,Ak2,FD];rfl
end Go.Proofs.YteedolonhdbieaaGreatDoor
end
section
namespace Go.Proofs.YteedolonhdbieaaGreatDoor
open Go Go.Vc
set_option maxRecDepth 100000
attribute [local irreducible] BI AM BO BN BM AY BF EB sG
structure Script15 (h:H) (p:Option Addr) (l:Nat) (sc:List OpE):Prop where
 len:sc.length=l
 lt:l<2^50
 at_:∀i (hi:i<sc.length),∃q mp ml mc,p=some q/\hc h (q.add (i*4))=some (.int .i64 sc[i].kind)/\hc h ((q.add (i*4)).add 1)=some (.int .i64 sc[i].n)/\hc h ((q.add (i*4)).add 2)=some (.int .i64 sc[i].v)/\
  hc h ((q.add (i*4)).add 3)=some (.slice mp ml mc)/\hsv h mp 1 ml (AA .u8 sc[i].mask)/\sc[i].ok/\ml≤mc
section
variable {h0 h:H} {A B:List Ent} {i j p r b s m:Nat} {C:Cm}
theorem AqH{K:Nat->HP}{pr n28 y:Nat}{c:Cfg}{s:St}{T:List Ent}(hs:Sat h0 (AK pr (CW c s)::T) h)(m:c.may)(lay:s.lays c)(ty:s.typed)(a28:At T y (NZ n28 c))(QB:Option Addr->Int->HP)
  (k:∀pc h',Sat h0 (AH pc (CW c s)::AK pr (CW c s)::T) h'->QB (some ⟨pc,0,none⟩) 0 h'):
  ∃i67:Int,hc h ⟨n28,0,none⟩=some (.int .i64 i67)/\∃i68:Int,hc h ⟨n28,1,none⟩=some (.int .i64 i68)/\∃i69:Int,hc h ⟨n28,2,none⟩=some (.int .i64 i69)/\∃i70:Int,hc h ⟨n28,3,none⟩=some (.int .i64 i70)/\∃i71:Int,hc h ⟨n28,4,none⟩=some (.int .i64 i71)/\∃i72:Int,hc h ⟨n28,5,none⟩=some (.int .i64 i72)/\∃i73:Int,hc h ⟨n28,6,none⟩=some (.int .i64 i73)/\
   ∃p74:Addr,(some ⟨pr,0,none⟩:Option Addr)=some p74/\∃(o75:Option Addr) (n76 n77:Nat),hc h (p74.add 7)=some (.slice o75 n76 n77)/\∃(o78:Option Addr) (n79 n80:Nat),hc h (p74.add 8)=some (.slice o78 n79 n80)/\∃(o81:Option Addr) (n82 n83:Nat),hc h (p74.add 9)=some (.slice o81 n82 n83)/\
   HC o75 n76 n77 o78 n79 n80 o81 n82 n83 (fun(o84:Option Addr) (n85 n86:Nat) (o87:Option Addr) (n88 n89:Nat) (o90:Option Addr) (n91 n92:Nat) (h93:H)=>hcs h93 ⟨n28,0,none⟩ [.int .i64 i67,.int .i64 i68,.int .i64 i69,.int .i64 i70,.int .i64 i71,.int .i64 i72,.int .i64 i73]/\
    JU i67 i68 i69 i70 i71 i72 i73 o84 n85 n86 o87 n88 n89 o90 n91 n92 (fun(o94:Option Addr) (i95:Int) (h96:H)=>QB o94 i95 h96) h93) h:=by
 have ok:=pR m lay ty
 refine⟨_,hs.ld a28.s rfl,_,hs.ld a28.s rfl,_,hs.ld a28.s rfl,_,hs.ld a28.s rfl,_,hs.ld a28.s rfl,_,hs.ld a28.s rfl,_,hs.ld a28.s rfl,?_⟩
 obtain⟨⟨w,ms⟩,hw,hs⟩:=hs.open_
 dsimp only[EF,List.cons_append,List.nil_append]at hs
 refine⟨_,rfl,_,_,_,hs.ld .z rfl,_,_,_,hs.ld .z rfl,_,_,_,hs.ld .z rfl,?_⟩
 refine rK (a:=w.a) (b:=w.b) (c:=w.c) (s:=s) hs (fun h' hs'=>YE hs' (i:=1) (j:=2) (k:=3) zs1 zs2 zs3) ok.small ?_
 intro a2 b2 c2 h4 hs
 refine⟨Sat.cs hs a28.s.s.s.s.s.s.s.s rfl,?_⟩
 refine AdY (a:=a2) (b:=b2) (c':=c2) (s:=s) c hs (fun h' hs'=>YE hs' (i:=0) (j:=1) (k:=2) .z zs1 zs2) ty (fun nm=>absurd m nm) (fun _ nl=>absurd lay nl) ?_
 intro _ _ px h5 hs
 replace hs:Sat h0 (AH px (CW c s)::(EF pr (CW c s) (w,ms)++T)) h5:=hs.sub (by
  refine List.Sublist.cons_cons _ ?_
  exact ((List.Sublist.refl _).cons _).cons _ |>.cons _)
 replace hs:=Sat.close (n:=4) (φ:=RefW (CW c s)) (F:=EF pr (CW c s)) (w,ms) hw (hs.perm List.perm_middle.symm)
 replace hs:Sat h0 (AK pr (CW c s)::AH px (CW c s)::T) h5:=hs
 exact k px h5 (hs.perm (List.Perm.swap _ _ _))
theorem Aj0{Q:Option Addr->Bool->HP}{a b c':Sl}{s:St}{X:List SR}{lp:Option Addr}{ll lc:Nat}(c:Cfg)(hs:Sat h0 A h)(rl:∀h',Sat h0 A h'->SecsAt h' lp ll X)(hll:ll<2^47)(rd:∀h',Sat h0 A h'->RdS h' a b c' s)(ty:s.typed)
  (k0:∀h',Sat h0 A h'->Q none true h')
  (k1:c.may->∀w pc rp mp R pr rr lp' lc' R2 C B h',(s.lays c/\C=CW c s∨¬s.lays c/\C=B6 c)->Ring26 B rp mp rr lp' lc' R R2 (X.map SR.kv)->(∃st lg lo,Sat h0 (W15 w pc st lg lo rp pr rr C B) h')->Q (some ⟨w,0,none⟩) true h'):
  QA c.cells c.slots c.fuses c.step c.keys c.erases c.area lp ll lc a.1 a.2.1 a.2.2 b.1 b.2.1 b.2.2 c'.1 c'.2.1 c'.2.2 Q h:=by
 unfold QA iN
 try simp only[AF,Nat.zero_add,List.append_nil]
 obtain⟨L,hL⟩:∃L,X.map SR.kv=L:=⟨_,rfl⟩
 rw[hL]at k1
 intro n28 _ hn;replace hs:=Sat.new hs hn
 intro n31 _ hn;replace hs:=Sat.new hs hn
 replace hs:Sat h0 (blk n31 [a.v,b.v,c'.v]::NZ n28 c::A) _:=hs
 have drop0:∀{D:List Ent} {h':H},Sat h0 (D++(blk n31 [a.v,b.v,c'.v]::NZ n28 c::A)) h'->Sat h0 A h':=fun{D h'} hs'=>hs'.sub (((List.sublist_cons_self _ _).trans (List.sublist_cons_self _ _)).trans (List.sublist_append_right _ _))
 refine AoP hs hL (fun h' hs'=>rl h' (drop0 (D:=[]) hs')) hll ?_
 intro o1 e1 i1 h1 B1 hs hB1
 obtain⟨T0,hT0⟩:∃T0,T0=B1++(blk n31 [a.v,b.v,c'.v]::NZ n28 c::A):=⟨_,rfl⟩
 rw[←hT0]at hs
 obtain⟨y5,b5⟩:∃x,At T0 x (NZ n28 c):=At.mem (by rw[hT0];simp)
 obtain⟨y6,b6⟩:∃x,At T0 x (blk n31 [a.v,b.v,c'.v]):=At.mem (by rw[hT0];simp)
 have drop1:∀{h':H},Sat h0 T0 h'->Sat h0 A h':=fun{h'} hs'=>drop0 (D:=B1) (by rw[←hT0];exact hs')
 refine⟨_,hs.ld b5 rfl,_,hs.ld b5 rfl,_,hs.ld b5 rfl,_,hs.ld b5 rfl,_,hs.ld b5 rfl,_,hs.ld b5 rfl,_,hs.ld b5 rfl,_,_,_,hs.ld b6 rfl,_,_,_,hs.ld b6 rfl,_,_,_,hs.ld b6 rfl,?_⟩
 -- what follows, once the document has a chip
 have go:∀(s':St),c.may->s'.lays c->s'.typed->(s.lays c/\CW c s'=CW c s∨¬s.lays c/\CW c s'=B6 c)->∀pr h',Sat h0 (AK pr (CW c s')::T0) h'->
   if (e1 != 0)=true then Q none true h' else if ((0:Int) != 0)=true then Q none true h' else
    G7 lp ll lc (fun(o63:Option Addr) (i64 i65:Int) (h66:H)=>∃i67:Int,hc h66 ⟨n28,0,none⟩=some (.int .i64 i67)/\∃i68:Int,hc h66 ⟨n28,1,none⟩=some (.int .i64 i68)/\∃i69:Int,hc h66 ⟨n28,2,none⟩=some (.int .i64 i69)/\∃i70:Int,hc h66 ⟨n28,3,none⟩=some (.int .i64 i70)/\∃i71:Int,hc h66 ⟨n28,4,none⟩=some (.int .i64 i71)/\∃i72:Int,hc h66 ⟨n28,5,none⟩=some (.int .i64 i72)/\∃i73:Int,hc h66 ⟨n28,6,none⟩=some (.int .i64 i73)/\
     ∃p74:Addr,(some ⟨pr,0,none⟩:Option Addr)=some p74/\∃(o75:Option Addr) (n76 n77:Nat),hc h66 (p74.add 7)=some (.slice o75 n76 n77)/\∃(o78:Option Addr) (n79 n80:Nat),hc h66 (p74.add 8)=some (.slice o78 n79 n80)/\∃(o81:Option Addr) (n82 n83:Nat),hc h66 (p74.add 9)=some (.slice o81 n82 n83)/\
     HC o75 n76 n77 o78 n79 n80 o81 n82 n83 (fun(o84:Option Addr) (n85 n86:Nat) (o87:Option Addr) (n88 n89:Nat) (o90:Option Addr) (n91 n92:Nat) (h93:H)=>hcs h93 ⟨n28,0,none⟩ [.int .i64 i67,.int .i64 i68,.int .i64 i69,.int .i64 i70,.int .i64 i71,.int .i64 i72,.int .i64 i73]/\
      JU i67 i68 i69 i70 i71 i72 i73 o84 n85 n86 o87 n88 n89 o90 n91 n92 (fun(o94:Option Addr) (i95:Int) (h96:H)=>∀J97:List SV->HP,(∀h98:H,(∀(n99:Nat) (h100:H),hnew h98 n99 [.pointer o94,.pointer none,.pointer o63,.pointer none,.pointer (some ⟨pr,0,none⟩),.pointer o1] h100->IY ⟨n99,0,none⟩ (fun(b102:Bool) (h103:H)=>Q (some ⟨n99,0,none⟩) b102 h103) h100)->J97 [] h98)->
       if o63.isNone=true then Q none false h96 else if o94.isNone=true then Q none false h96 else if (i64 != 0)=true then Q none false h96 else if (i95 != 0)=true then Q none false h96 else J97 [] h96) h93) h66) h':=by
  intro s' m lay ty' hC pr h2 hs
  rcases hB1 with⟨x1,x2⟩ | ⟨x1,x2,rr,lp',lc',R2,x3,eR2,gR2,x4⟩
  ·rw[if_pos (by simpa using AmX x1)]
   exact k0 _ (drop1 hs.drop)
  subst x2 x3
  rw[if_neg (by decide),if_neg (by decide)]
  refine yN hs hL (fun h' hs'=>rl h' (drop1 hs'.drop)) hll ?_
  intro o2 e2 i2 h3 B2 hs hB2
  rcases hB2 with⟨z1,z2⟩ | ⟨z1,z2,rp,mp,R,z3,eR,gR,z4⟩
  ·rw[x1]at z1;cases z1
  subst z2 z3
  replace hs:Sat h0 (AK pr (CW c s')::(B2++T0)) h3:=hs.perm List.perm_middle
  obtain⟨y7,b7⟩:∃x,At (B2++T0) x (NZ n28 c):=At.mem (List.mem_append_right _ (AmT b5))
  refine AqH (K:=fun _ _=>True) hs m lay ty' b7 _ ?_
  intro pc h4 hs
  intro J hJ
  rw[if_neg (by simp),if_neg (by simp),if_neg (by decide),if_neg (by decide)]
  apply hJ
  clear hJ J
  intro w _ hn;replace hs:=Sat.new hs hn
  have lR2:R2.length<2^40:=by
   have:=congrArg List.length eR2
   rw[List.length_map]at this
   have h64:¬64<L.length:=fun y=>by unfold DP at x1;rw[if_pos y]at x1;cases x1
   omega
  have K:Ring26 (B2++T0) rp mp rr lp' lc' R R2 L:=by
   rw[hT0,x4,z4]
   exact⟨At.mem (by simp),At.mem (by simp),eR,gR,fun x hx=>At.mem (List.mem_append_left _ (List.mem_cons_of_mem _ (List.mem_cons_of_mem _ (List.mem_map_of_mem hx)))),At.mem (by simp),At.mem (by simp),eR2,gR2,fun x hx=>At.mem (List.mem_append_right _ (List.mem_append_left _ (List.mem_cons_of_mem _ (List.mem_cons_of_mem _ (List.mem_map_of_mem hx))))),lR2⟩
  refine zA (rp:=rp) (rr:=rr) hs ?_
  intro h5 _ W
  exact k1 m w pc rp mp R pr rr lp' lc' R2 _ _ h5 hC K (W rfl)
 refine AnX (a:=a) (b:=b) (c':=c') (s:=s) c hs (fun h' hs'=>rd _ (drop1 hs')) ty ?_ ?_ ?_
 ·intro nm h2 hs J hJ
  rw[if_neg (by decide)]
  apply hJ
  intro J2 hJ2
  have:=k0 _ (drop1 hs)
  split
  ·exact this
  ·rw[if_pos (by decide)];exact this
 ·intro m nl h2 hs J hJ
  rw[if_pos (by decide)]
  refine⟨_,hs.ld b5 rfl,_,hs.ld b5 rfl,_,hs.ld b5 rfl,_,hs.ld b5 rfl,_,hs.ld b5 rfl,_,hs.ld b5 rfl,_,hs.ld b5 rfl,?_⟩
  refine AnY c hs (fun nm=>absurd m nm) ?_
  intro _ pr h3 hs
  replace hs:=AjT hs .z
  rw[AG]at hs
  apply hJ
  clear hJ J
  have G:=go (DM c) m (Al2 m) ((Z1 m).typed) (Or.inr ⟨nl,rfl⟩) pr h3 hs
  intro J2 hJ2
  by_cases z:(e1 != 0)=true
  ·rw[if_pos z]at G ⊢;exact G
  ·rw[if_neg z,if_neg (by decide)]at G ⊢;exact hJ2 _ G
 ·intro m lay pr h2 hs J hJ
  rw[if_neg (by decide)]
  apply hJ
  clear hJ J
  have G:=go s m lay ty (Or.inl ⟨lay,rfl⟩) pr h2 hs
  intro J2 hJ2
  by_cases z:(e1 != 0)=true
  ·rw[if_pos z]at G ⊢;exact G
  ·rw[if_neg z,if_neg (by decide)]at G ⊢;exact hJ2 _ G
end
end Go.Proofs.YteedolonhdbieaaGreatDoor
end
section
namespace Go.Proofs.YteedolonhdbieaaGreatDoor
open Go Go.Vc Go.ChangeShapes Go.WideShapes Go.ChangeAt Go.RowKit
set_option maxRecDepth 100000
theorem ArA:xsh PP 8 107=some [.int .i64,.int .i64,.int .i64,.slc 5]:=by kernel_rfl
theorem ApI{D:Type}{enc:TypeId×Value->D}{W:World}{p:Option Addr}{l c:Nat}(h:Sli enc PP W 107 p l c):∃sc:List OpE,Script15 W.heap p l sc:=by
 have hb:Tryz.prog.bytesOf 107=48:=by kernel_rfl
 have hc:Tryz.prog.cellsOf 107=4:=by kernel_rfl
 obtain⟨ess,h1,h2,_,h4⟩:=h.els ArA
 have hlc:=h.1
 have hr:=h.2.1
 rw[hb]at hr
 unfold reachBytes at hr
 have key:∀es,es∈ess->∃(s:OpE) (mp:Option Addr) (ml mc:Nat),s.ok/\es=[.int .i64 s.kind,.int .i64 s.n,.int .i64 s.v,.slice mp ml mc]/\hsv W.heap mp 1 ml (AA .u8 s.mask)/\ml≤mc:=by
  intro es hes
  obtain⟨k,_,rfl,_,a,_,rfl,ha,b,_,rfl,hb,mp,ml,mc,_,rfl,hm,hr⟩:=(h2 es hes).2
  simp only[XM]at hr
  subst hr
  obtain⟨ms,m1,m2,m3⟩:=AjB hm
  exact⟨⟨k,a,b,ms⟩,mp,ml,mc,⟨(xB ha).2,m2,m3⟩,rfl,m1,hm.1⟩
 have key2:∀ess:List (List Value),(∀es,es∈ess->∃(s:OpE) (mp:Option Addr) (ml mc:Nat),s.ok/\es=[.int .i64 s.kind,.int .i64 s.n,.int .i64 s.v,.slice mp ml mc]/\hsv W.heap mp 1 ml (AA .u8 s.mask)/\ml≤mc)->
   ∃sc:List OpE,sc.length=ess.length/\∀i (hi:i<sc.length) (hi2:i<ess.length),∃(mp:Option Addr) (ml mc:Nat),sc[i].ok/\ess[i]=[.int .i64 sc[i].kind,.int .i64 sc[i].n,.int .i64 sc[i].v,.slice mp ml mc]/\hsv W.heap mp 1 ml (AA .u8 sc[i].mask)/\ml≤mc:=by
  intro ess
  induction ess with
  | nil=>intro _;exact⟨[],rfl,fun i hi=>by simp at hi⟩
  | cons y r ih=>
   intro h
   obtain⟨sc,e1,e2⟩:=ih fun es hes=>h es (by simp[hes])
   obtain⟨s,hs⟩:=h y (by simp)
   refine⟨s::sc,by simp[e1],?_⟩
   intro i hi hi2
   cases i with
   | zero=>exact hs
   | succ i=>exact e2 i (by simpa using hi) (by simpa using hi2)
 obtain⟨sc,e1,e2⟩:=key2 ess key
 refine⟨sc,by omega,by omega,?_⟩
 intro i hi
 obtain⟨mp,ml,mc,ok,e3,e4,e5⟩:=e2 i hi (by omega)
 obtain⟨q,hq,hc2⟩:=h4 i (by omega)
 rw[hc,e3]at hc2
 refine⟨q,mp,ml,mc,hq,?_,hc2 1 _ rfl,hc2 2 _ rfl,hc2 3 _ rfl,e4,ok,e5⟩
 have:=hc2 0 _ rfl;simpa[Addr.add]using this
end Go.Proofs.YteedolonhdbieaaGreatDoor
end
section
namespace Go.Proofs.YteedolonhdbieaaGreatDoor
open Go Go.Vc
set_option maxRecDepth 100000
attribute [local irreducible] BI AM BO BN BM AY BF EB sG AZ CX A7 B7
section
variable {h0 h:H} {A B:List Ent} {i j p r b s m:Nat} {C:Cm}
theorem AiX{Q:Bool->HP}(hg:hc h0 ⟨0,0,none⟩=some E0)(hs:Sat h0 A h)(k:∀h',Sat h0 A h'->Q true h'):P9 Q h:=by
 unfold P9 iM
 try simp only[AF,Nat.zero_add,List.append_nil]
 obtain⟨f1,f2,f3,f4,f5,f6⟩:=Al8
 refine AeK cfg15 hs (fun y=>absurd AjQ y) ?_
 intro _ pc h1 hs
 unfold WU iO
 intro n2 _ hn;replace hs:=Sat.new hs hn
 intro n5 _ hn;replace hs:=Sat.new hs hn
 have rdX:∀h',Sat h0 (blk n5 [.int .i64 0,.slice (some ⟨n2,0,none⟩) 1 1]::blk n2 [.int .u8 7]::AH pc (B6 cfg15)::A) h'->SecsAt h' (some ⟨n5,0,none⟩) 1 [⟨0,[7],some ⟨n2,0,none⟩,1⟩]:=by
  intro h' hs'
  refine⟨rfl,?_⟩
  intro x hx
  have:x=0:=by simp at hx;exact hx
  subst this
  refine⟨_,rfl,?_,?_,hs'.bv (i:=1) (l:=1) zs1 rfl (A5 .u8 [7]),?_,by show 1<2^47;decide⟩
  ·exact hs'.ld .z rfl
  ·exact hs'.ld .z rfl
  ·intro n hn
   simp only[List.getElem_cons_zero,List.mem_cons,List.not_mem_nil,or_false]at hn
   subst hn;decide
 refine yN (X:=[⟨0,[7],some ⟨n2,0,none⟩,1⟩]) (L:=L15) hs rfl rdX (by decide) ?_
 intro o2 e2 i2 h2 B2 hs hB2
 rcases hB2 with⟨z1,z2⟩ | ⟨z1,z2,rp,mp,R,z3,eR,gR,z4⟩
 ·rw[n15]at z1;cases z1
 subst z2 z3 z4
 intro J21 hJ21
 rw[if_neg (by simp),if_neg (by simp),if_neg (by decide),if_neg (by decide)]
 apply hJ21
 clear hJ21 J21
 have perm0:∀(c x y:Ent) (P A:List Ent),(P++(x::y::c::A)).Perm (c::(P++(x::y::A))):=by
  intro c x y P A
  have:=List.perm_middle (l₁:=P++[x,y]) (a:=c) (l₂:=A)
  simpa using this
 replace hs:=hs.perm (perm0 _ _ _ _ _)
 obtain⟨TT,hTT⟩:∃TT:List Ent,TT=LI rp mp R++(blk n5 [.int .i64 0,.slice (some ⟨n2,0,none⟩) 1 1]::blk n2 [.int .u8 7]::A):=⟨_,rfl⟩
 rw[←hTT]at hs
 have subA:A.Sublist TT:=by rw[hTT];exact ((List.sublist_cons_self _ _).trans (List.sublist_cons_self _ _)).trans (List.sublist_append_right _ _)
 obtain⟨y3,a3⟩:∃x,At TT x (blk rp [.map (some mp)]):=At.mem (by rw[hTT];simp)
 obtain⟨y4,a4⟩:∃x,At TT x (ED mp (R.map SR.ent)):=At.mem (by rw[hTT];simp)
 have rR:∀x,x∈R->∃y,At TT y x.sl:=fun x hx=>At.mem (by rw[hTT];exact List.mem_append_left _ (List.mem_cons_of_mem _ (List.mem_cons_of_mem _ (List.mem_map_of_mem hx))))
 clear hTT
 refine⟨_,rfl,?_⟩
 refine AaU hs .z (fun y=>by cases y) ?_
 intro _ st lg h3 hs
 intro J27 hJ27
 rw[if_neg (by simp),if_neg (by decide)]
 apply hJ27
 clear hJ27 J27
 refine⟨_,rfl,_,rfl,_,rfl,?_⟩
 unfold J1 Y1
 intro lo _ hn;replace hs:=Sat.new hs hn
 rw[if_neg (by simp)]
 intro n34 _ hn;replace hs:=Sat.new hs hn
 intro n37 _ hn;replace hs:=Sat.new hs hn
 refine AoR (sec:=[7]) (pay:=[1,2,3]) (slot:=0) (key:=0) (ver:=5) (pl:=3) hs (BQ 32) (by decide) (by intro n hn;simp at hn;subst hn;decide) (by decide) (by intro n hn;simp only[List.mem_cons,List.not_mem_nil,or_false]at hn;rcases hn with rfl | rfl | rfl <;> decide)
  (fun h' hs'=>hs'.bv (i:=1) (l:=1) zs1 rfl (A5 .u8 [7])) (fun h' hs'=>hs'.bv (i:=0) (l:=3) .z rfl (A5 .u8 [1,2,3])) ?_
 intro pb cb h4 hs hcb
 replace hs:Sat h0 (slE pb 51 cb 1 (AA .u8 b15)::blk n37 [.int .u8 1,.int .u8 2,.int .u8 3]::blk n34 [.int .u8 7]::SG lo pc st rp::DG st pc lg::BY lg pc::AH pc (B6 cfg15)::TT) h4:=hs
 have g:∀D,Gx (slE pb 51 cb 1 (AA .u8 b15)::blk n37 [.int .u8 1,.int .u8 2,.int .u8 3]::blk n34 [.int .u8 7]::SG lo pc st rp::DG st pc lg::BY lg pc::AH pc D::TT) 6 pc D lg st rp R L15:=by
  intro D
  refine⟨.s zs5,⟨5,by decide,.s zs4⟩,⟨4,by decide,.s zs3⟩,⟨mp,⟨y3+7,by omega,a3.s.s.s.s.s.s.s⟩,⟨y4+7,by omega,a4.s.s.s.s.s.s.s⟩⟩,?_,eR,gR⟩
  intro x hx
  obtain⟨y,a⟩:=rR x hx
  exact⟨y+7,by omega,a.s.s.s.s.s.s.s⟩
 have ok:=CG hs (g (B6 cfg15)).ci
 refine⟨_,rfl,?_⟩
 refine Y9 (L:=L15) hg hs ok (g _) zs3 ?_
 intro P1 h5 _ _ hs
 replace hs:=hs.drop
 rw[f1]
 refine⟨_,rfl,?_⟩
 refine uR (L:=L15) (bs:=b15) hg hs ok (g _) (z:=3) (by decide) zs3 (fun D X h' hs'=>(hs'.sub (List.sublist_append_right X _)).sv .z) AiZ AiY hcb (by decide) ?_
 intro h6 hs
 simp only[AS,AG]at hs
 rw[f2]
 obtain⟨D,hD⟩:∃D,D=(B7 (B6 cfg15) L15 b15).1:=⟨_,rfl⟩
 rw[←hD]at hs
 have hD2:D15=D:=by rw[hD];rfl
 rw[hD2]at f3 f4 f5 f6
 clear hD hD2
 have ok:=CG hs (g D).ci
 refine⟨_,rfl,?_⟩
 refine Y9 (L:=L15) hg hs ok (g _) zs3 ?_
 intro P2 h7 tl _ hs
 rw[f3]at tl hs ⊢
 rw[f4,f5]
 rw[f6]at hs ⊢
 intro n70 _ hn;replace hs:=Sat.new hs hn
 refine⟨Sat.can hs .z (by simp[AB]),?_⟩
 intro h8 e8
 replace hs:=Sat.wra (xs:=AP (BO 0 (A7 D L15)) (BN 0 (A7 D L15)) 5 (P2,3,3) (BF 0 (A7 D L15))) hs .z e8 (by rw[BX tl];rfl)
 clear e8;simp only[AG]at hs
 rw[if_pos (by decide),if_pos (by decide),if_pos (by decide),if_pos (by decide)]
 refine⟨_,hs.ld .z rfl,?_⟩
 rw[if_pos (by decide)]
 refine⟨_,_,_,hs.ld .z rfl,?_⟩
 have:=k h8 (hs.sub ((((((((((subA.cons _).cons _).cons _).cons _).cons _).cons _).cons _).cons _).cons _)))
 exact this
theorem AeD{Q:Bool->HP}{a b c':Sl}{s:St}{X:List SR}{lp mq:Option Addr}{ll lc ml mc:Nat}(c:Cfg)(sc:List OpE)(hg:hc h0 ⟨0,0,none⟩=some E0)(rl:SecsAt h0 lp ll X)(hll:ll<2^47)(rd0:RdS h0 a b c' s)(ty:s.typed)(rd:Script15 h0 mq ml sc)(k:∀h',Sat h0 [] h'->Q true h'):
  WT c.cells c.slots c.fuses c.step c.keys c.erases c.area lp ll lc a.1 a.2.1 a.2.2 b.1 b.2.1 b.2.2 c'.1 c'.2.1 c'.2.2 mq ml mc Q h0:=by
 unfold WT iL
 try simp only[AF,Nat.zero_add,List.append_nil]
 have hs:=Sat.init h0
 have hl:=rd.len
 have hlt:=rd.lt
 intro n28 _ hn;replace hs:=Sat.new hs hn
 intro n31 _ hn;replace hs:=Sat.new hs hn
 replace hs:Sat h0 [blk n31 [a.v,b.v,c'.v],NZ n28 c] _:=hs
 refine AiX hg hs ?_
 intro h1 hs
 rw[if_neg (by decide)]
 refine⟨_,hs.ld zs1 rfl,_,hs.ld zs1 rfl,_,hs.ld zs1 rfl,_,hs.ld zs1 rfl,_,hs.ld zs1 rfl,_,hs.ld zs1 rfl,_,hs.ld zs1 rfl,_,_,_,hs.ld .z rfl,_,_,_,hs.ld .z rfl,_,_,_,hs.ld .z rfl,?_⟩
 refine Aj0 (a:=a) (b:=b) (c':=c') (s:=s) (X:=X) c hs (fun h' hs'=>rl.ext hs') hll (fun h' hs'=>rd0.ext hs'.ex) ty ?_ ?_
 ·intro h2 hs J hJ
  rw[if_pos (by simp)]
  exact k _ hs.nil
 intro cm w pc rp mp R pr rr lp' lc' R2 C B h2 _ K W
 obtain⟨L,hL⟩:∃L,L=X.map SR.kv:=⟨_,rfl⟩
 rw[←hL]at K
 clear hL
 intro J hJ
 rw[if_neg (by simp),if_neg (by decide)]
 apply hJ
 clear hJ J
 intro J54 hJ54
 refine BB ml (fun _ h=>∃C,S15 h0 w pc rp pr rr C B h) ?_ ?_ 0 _ (by omega) ⟨C,Or.inr W⟩
 ·rintro x h5 hx ⟨C,W⟩ hk
  apply hJ54
  rw[AD,if_pos (by rw[decide_eq_true_iff];omega)]
  obtain⟨q,sp,sl,sc2,hq,e0,e1,e2,e3,hrd,hok,hcap⟩:=rd.at_ x (by omega)
  have X':Ext CJ h0 h5:=by obtain⟨_,_,hs⟩:=W.any;exact hs.ex
  refine⟨_,hq,by omega,by omega,?_⟩
  rw[Int.toNat_natCast]
  refine⟨_,I6 X' e0 (fun y=>y),_,I6 X' e1 (fun y=>y),_,I6 X' e2 (fun y=>y),_,_,_,I6 X' e3 (fun y=>y),_,rfl,?_⟩
  refine Ar1 sc[x] hok hg hrd hcap K W ?_
  intro D h7 W
  rw[if_neg (by decide)]
  refine⟨_,rfl,?_⟩
  rw[AU (by omega)]
  rcases W with⟨so,hs⟩ | ⟨st,lg,lo,hs⟩
  ·refine u3 hs (a:=0) (i:=1) .z rfl rfl zs1 zs2 (by decide) ?_
   intro h8 hs
   rw[if_neg (by decide)]
   exact hk _ ⟨D,Or.inl ⟨so,hs⟩⟩
  ·refine u3 hs (a:=0) (i:=4) .z rfl rfl zs4 zs5 (by decide) ?_
   intro h8 hs
   rw[if_neg (by decide)]
   exact hk _ ⟨D,Or.inr ⟨st,lg,lo,hs⟩⟩
 rintro h5 ⟨C,W⟩
 apply hJ54
 rw[AD,if_neg (by simp)]
 obtain⟨_,_,hs⟩:=W.any
 exact k _ hs.nil
end
end Go.Proofs.YteedolonhdbieaaGreatDoor
end
section
namespace Go.Proofs.YteedolonhdbieaaGreatDoor
open Go Go.Vc Go.ChangeShapes Go.WideShapes Go.ChangeAt Go.RowKit
set_option maxRecDepth 100000
theorem AdZ{D:Type}{enc:TypeId×Value->D}{W:World}{base:Nat}(hg:hc W.heap ⟨0,0,none⟩=some E0)(vs:List Value)(h:rG enc PP W base [23,24,95,100] vs):rJ PP 7 vs W:=by
 obtain⟨hl,h⟩:=h
 match vs,hl with
 | [v0,v1,v2,v3],_=>
 obtain⟨r0,w0⟩:=h 0 _ v0 rfl rfl
 obtain⟨r1,w1⟩:=h 1 _ v1 rfl rfl
 obtain⟨r2,w2⟩:=h 2 _ v2 rfl rfl
 obtain⟨r3,w3⟩:=h 3 _ v3 rfl rfl
 obtain⟨c,rfl⟩:=AjR r0 w0
 obtain⟨p1,l1,c1,rfl,hs1⟩:=Ab4 (e:=172) (by kernel_rfl) r1 w1
 obtain⟨X,hX,hll⟩:=ApL hs1
 obtain⟨a,b,c',s,rfl,rd,ty,sm⟩:=AjS r2 w2
 obtain⟨p3,l3,c3,rfl,hs3⟩:=Ab4 (e:=107) (by kernel_rfl) r3 w3
 obtain⟨sc,hsc⟩:=ApI hs3
 have:=Ag1 [.agg (c.vals.map .c),.one (.slice p1 l1 c1),.agg [.c a.v,.c b.v,.c c'.v],.one (.slice p3 l3 c3)] (fun rs h'=>rs=[DV.one (.bool true)]/\Ext CJ W.heap h') W.heap (by
  intro x hx
  simp only[List.mem_cons,List.not_mem_nil,or_false]at hx
  rcases hx with rfl | rfl | rfl | rfl
  ·exact An7 c
  ·rfl
  ·exact An8 a b c'
  ·rfl) (by
  show WT c.cells c.slots c.fuses c.step c.keys c.erases c.area p1 l1 c1 a.1 a.2.1 a.2.2 b.1 b.2.1 b.2.2 c'.1 c'.2.1 c'.2.2 p3 l3 c3 (fun b h'=>[DV.one (.bool b)]=[DV.one (.bool true)]/\Ext CJ W.heap h') W.heap
  exact AeD (s:=s) c sc hg hX hll rd ty hsc fun h' x=>⟨rfl,x.ex⟩)
 exact this
theorem AeA(os:Os)(started:os.Started)(D:Type)(enc:TypeId×Value->D):
  ReturnsInHanded {} Tryz.checked os 7 .any (fun w args=>(Rows.loaderDoesSpec.pre enc Tryz.prog Tryz.f7 [] false w args/\laidMetH Tryz.prog SF w)/\sizedMet enc Tryz.prog Tryz.f7 (OpenSpec.ofChange Rows.loaderDoesSpec) false w args)
   (Rows.loaderDoesSpec.post enc Tryz.prog Tryz.f7 false true false false):=by
 refine returnsInHanded_of_change_and (C:=Tryz.checked) (X:=fun w _=>laidMetH Tryz.prog SF w) (fun _ _ _ hh h=>h.of_heap hh) Tryz.own started (by kernel_rfl) Tryz.func7
  (ChangeSpec.witness_at (enc:=enc) (C:=Tryz.checked) (os:=os) (X:=fun w _=>laidMetH Tryz.prog SF w) false (yO os) #[.agg #[.int .i64 0,.int .i64 0,.int .i64 0,.int .i64 0,.int .i64 0,.int .i64 0,.int .i64 0],.slice none 0 0,.agg #[.slice none 0 0,.slice none 0 0,.slice none 0 0],.slice none 0 0] 8 rfl (by kernel_rfl) (by kernel_rfl) (by kernel_rfl) (by kernel_rfl) (by kernel_rfl) (Am6 os _)) ?_
 intro W base args ds gs before hval hW hcnd hsz hL _
 exact Am7 (P:=Tryz.prog) (fn:=Tryz.f7) (s:=Rows.loaderDoesSpec) [23,24,95,100] (by kernel_rfl) Tryz.laidOut rfl (by kernel_rfl) (by kernel_rfl) Tryz.ubool
  (fun ds hl=>match ds,hl with | [d1,d2,d3,d4],_=>rfl) hval hW hsz (AdZ (AlE hL))
theorem Ae1:(Rows.loaderDoesRow.wf (OpenSpec.ofChange Rows.loaderDoesSpec)&&laidOutB Tryz.prog&&mapsRowed Tryz.prog&&Tryz.f7.params.all (Tryz.prog.readableRec ·)&&namedTie Tryz.prog Rows.loaderDoesRow.named Rows.loaderDoesSpec.vars&&(Rows.loaderDoesRow.stops == [])&&(Tryz.prog.stops == [])&&(Rows.loaderDoesRow.knobs == [])&&(Tryz.prog.stopKnobs == []))=true:=by kernel_rfl
theorem Ae2:(Rows.loaderDoesRow.inPlace == Tryz.prog.inPlace 7)=true:=by kernel_rfl
theorem Ae3:(Rows.loaderDoesRow.unfollowed == Tryz.prog.unfollowed 7)=true:=by kernel_rfl
theorem Ae4:(Rows.loaderDoesRow.recurses == Tryz.prog.recurses 7)=true:=by kernel_rfl
theorem Ae5:(Rows.loaderDoesRow.named == Tryz.prog.varsNamed 7)=true:=by kernel_rfl
theorem Ae6:Tryz.prog.stopsHeard=true:=by kernel_rfl
theorem Ae7:Tryz.prog.mayEnter=true:=by kernel_rfl
theorem Ae8:(Rows.loaderDoesRow.lifted == Tryz.prog.liftsFinal)=true:=by kernel_rfl
theorem Ae9:(Tryz.prog.make == some Rows.loaderDoesRow.make)=true:=by kernel_rfl
theorem Ae0:joinedFacts Tryz.pinned.checked.prog 7 Tryz.f7 Rows.loaderDoesSpec Rows.loaderDoesRow=true:=by
 unfold joinedFacts
 exact C5 (C5 (C5 (C5 (C5 (C5 (C5 (C5 (C5 (C5 (C5 (C5 (C5 (C5 (C5 (C5 (C5 (C5 (C5 (C5 (C5 (C5 (C5 (Ae1) Ae2) Ae3) Ae4) Ae5) (by kernel_rfl)) (by kernel_rfl)) (by kernel_rfl)) (by kernel_rfl)) (by kernel_rfl)) (by kernel_rfl)) (by kernel_rfl)) (by kernel_rfl)) (by kernel_rfl)) (by kernel_rfl)) (by kernel_rfl)) Ae6) Ae7) Ae8) Ae9) (by kernel_rfl)) (by kernel_rfl)) (by kernel_rfl)) (by kernel_rfl)
theorem AeC:Rows.LoaderDoesSaid:=
 OpenClaim.holds_of_wide 7 Tryz.f7 rfl rfl rfl rfl rfl rfl rfl ⟨rfl,rfl,rfl,rfl,rfl⟩ rfl rfl rfl rfl rfl (by kernel_rfl) Tryz.func7 Ae0
  (of_decide_eq_true (by kernel_rfl)) (by unfold Func.isWrapper;first | (rw[if_pos (by decide +kernel)];kernel_rfl) | (rw[if_neg (by decide +kernel)];exact⟨rfl,rfl⟩))
  (fun os started H enc _=>AeA os started H enc)
theorem AeB(f : FuncId)(fn : Func)(hf : Tryz.pinned.checked.prog.funcNamed "portcullis/portcullislaw15.LoaderDoes" = some f)(hfn : Tryz.pinned.checked.prog.funcs[f]? = some fn) :
  true=Tryz.pinned.checked.prog.looks []/\∀(j:Nat) t,fn.params[j]?=some t->Tryz.pinned.checked.prog.wantsStandIn t=false:=by
 obtain rfl : f = 7 := Option.some.inj ((show Tryz.prog.funcNamed "portcullis/portcullislaw15.LoaderDoes" = some 7 by kernel_rfl).symm.trans hf) |>.symm
 obtain rfl:fn=Tryz.f7:=(Option.some.inj (Tryz.func7.symm.trans hfn)).symm
 refine⟨by kernel_rfl,fun j t ht=>?_⟩
 have hm:=Array.mem_of_getElem? ht
 have hm2:t∈([23,24,95,100]:List Nat):=by
  have:Tryz.f7.params.toList=[23,24,95,100]:=by kernel_rfl
  rw[←this];exact Array.mem_toList_iff.2 hm
 simp only[List.mem_cons,List.not_mem_nil,or_false]at hm2
 rcases hm2 with rfl | rfl | rfl | rfl <;> (first | kernel_rfl | rfl)
theorem LoaderDoes_holds:Rows.LoaderDoesCardSaid:=
 Claim7.holds_tied_plain_at .later [] _ _ _ _ AeC (fun _ h=>by cases h) (by kernel_rfl) (fun _ h=>by cases h) loaderDoes_row_tie rfl ⟨rfl,rfl⟩ (by kernel_rfl) rfl AeB (by kernel_rfl)
end Go.Proofs.YteedolonhdbieaaGreatDoor
end
