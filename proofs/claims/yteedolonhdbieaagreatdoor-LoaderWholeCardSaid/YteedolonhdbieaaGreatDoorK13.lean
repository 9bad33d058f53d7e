/- LoaderWhole and its parts, laid together by a program of ours: Ar8 Lg1 Ly1 Lg2 Ly2 Ar9 Lw1 Lw2 Lw3 -/
import Derived.Test.YteedolonhdbieaaGreatDoorK12
set_option autoImplicit false
set_option linter.all false
section
namespace Go.Proofs.YteedolonhdbieaaGreatDoor
open Go Go.Vc
set_option maxRecDepth 100000
def Cm.er(C:Cm)(x:Nat):Int:=C.s.erases.getD x 0
def Cm.pg(C:Cm)(x:Nat):List Int:=C.s.pages.getD x []
def dif(C D:Cm):Nat->Nat->Int
 | _,0=>0
 | B,m+1=>(D.er B-C.er B)+dif C D (B+1) m
theorem iS(C D:Cm)(B m:Nat):dif C D B (m+1)=(D.er B-C.er B)+dif C D (B+1) m:=rfl
theorem AfA{C C' D:Cm}(m:Nat):∀B,(∀x,B≤x->x<B+m->C.er x=C'.er x)->dif C D B m=dif C' D B m:=by
 induction m with
 | zero=>intro B _;rfl
 | succ m ih=>
  intro B h
  unfold dif
  rw[h B (by omega) (by omega),ih (B+1) fun x h1 h2=>h x (by omega) (by omega)]
theorem AfB{C D:Cm}(m:Nat):∀B,(∀x,B≤x->x<B+m->D.er x=C.er x)->dif C D B m=0:=by
 induction m with
 | zero=>intro B _;rfl
 | succ m ih=>
  intro B h
  unfold dif
  rw[h B (by omega) (by omega),ih (B+1) fun x h1 h2=>h x (by omega) (by omega)];omega
theorem wC{C D:Cm}{page:Int}(hc:D.cfg=C.cfg)(ho:D.out=C.out)(hl:D.s.pages.length=C.s.pages.length)(hp:D.pg page.toNat=C.pg page.toNat):DW D page=DW C page:=by
 have e:∀n:Int,CI D page n=CI C page n:=by
  intro n
  unfold CI DP AT
  unfold Cm.pg at hp
  rw[hc,ho,hl,hp]
 unfold DW M5
 rw[hc]
 simp only[e]
structure Er (B m:Nat) (C D:Cm) (e:Int):Prop where
 cfg:D.cfg=C.cfg
 bl:D.s.blown=C.s.blown
 np:D.s.pages.length=C.s.pages.length
 ne:D.s.erases.length=C.s.erases.length
 pg:∀x,x<B∨B+m≤x->D.pg x=C.pg x
 er:∀x,x<B∨B+m≤x->D.er x=C.er x
 acts:D.acts=C.acts+dif C D B m
 ab:C.acts≤D.acts/\D.acts≤C.acts+m
 good:e=0->D.out=false/\-1≤D.left/\∀x,B≤x->x<B+m->(D.pg x).length=C.cfg.cells.toNat*32/\GU (D.pg x) C.cfg.cells.toNat
 bad:e≠0->e=8
theorem p9{row:List Int}{l:Nat}(hl:row.length=l*32)(f:Nat->Int)(hf:∀i,f i=255):(CB row f).length=l*32/\GU (CB row f) l:=by
 refine⟨by unfold CB;rw[XX];exact hl,?_⟩
 intro n hn
 have h1:(AY (CB row f) n).length=32:=FT (by unfold CB;rw[XX];omega)
 refine ME (h1.trans rfl) fun i hi=>?_
 rw[h1]at hi
 rw[GW _ _ _ hi]
 unfold CB
 rw[MQ _ _ _ _ (by omega) (by omega),hf,qQ]
 unfold ffs
 rw[TD _ hi]
theorem MH{α:Type}(l:List α)(j:Nat)(v d:α)(h:j<l.length):(l.set j v).getD j d=v:=by
 simp[List.getD,h]
theorem AfO{C:Cm}{B:Nat}(ho:C.out=false)(hB:B<C.s.pages.length)(hB2:B<C.s.erases.length)(hw:C.er B<C.cfg.erases)(ha:0≤C.acts/\C.acts<2^60):
  ∃D:Cm,CP C (B:Int)=(D,CL C)/\D.cfg=C.cfg/\D.s.blown=C.s.blown/\D.s.pages.length=C.s.pages.length/\D.s.erases.length=C.s.erases.length/\(∀x,x≠B->D.pg x=C.pg x)/\(∀x,x≠B->D.er x=C.er x)/\
   D.er B=C.er B+1/\D.acts=C.acts+1/\D.pg B=CB (C.pg B) (BT C)/\(C.left≠0->D.out=false)/\(-1≤C.left->-1≤D.left):=by
 have hac:C.act.acts=C.acts+1:=by
  unfold Cm.act
  have:w64 (C.acts+1)=C.acts+1:=by unfold w64;rw[IntKind.wrap_i64];omega
  split <;> exact this
 unfold CP
 rw[DB ho (by omega) (by omega),if_neg (by simp),Int.toNat_natCast]
 unfold Cm.er at hw
 rw[if_neg (by omega)]
 refine⟨_,rfl,DA C,?_,?_,?_,?_,?_,?_,hac,?_,?_,?_⟩
 ·show C.act.s.blown=_;rw[B3]
 ·show (C.act.s.pages.set B _).length=_;rw[List.length_set,B3]
 ·show (C.act.s.erases.set B _).length=_;rw[List.length_set,B3]
 ·intro x hx
  show (C.act.s.pages.set B _).getD x []=C.s.pages.getD x []
  simp only[List.getD,List.getElem?_set_ne (Ne.symm hx),B3]
 ·intro x hx
  show (C.act.s.erases.set B _).getD x 0=C.s.erases.getD x 0
  simp only[List.getD,List.getElem?_set_ne (Ne.symm hx),B3]
 ·show (C.act.s.erases.set B _).getD B 0=_
  exact MH _ _ _ _ (by rw[B3];exact hB2)
 ·show (C.act.s.pages.set B _).getD B []=_
  rw[MH _ _ _ _ (by rw[B3];exact hB)]
  unfold EZ
  rw[Int.toNat_natCast];rfl
 ·intro hl
  show C.act.out=false
  exact JX ho hl
 ·intro hl
  show -1≤C.act.left
  unfold Cm.act
  split
  ·dsimp only;split <;> omega
  ·exact Int.le_refl _
theorem erases(base:Int):∀(m j B:Nat) (C:Cm),base+j=(B:Int)->C.out=false->-1≤C.left->B+m≤C.s.pages.length->B+m≤C.s.erases.length->(0≤C.acts/\C.acts+m<2^60)->
  (∀x,B≤x->x<B+m->(C.pg x).length=C.cfg.cells.toNat*32)->(∀x,B≤x->x<B+m->DW C (x:Int)=true->C.er x<C.cfg.erases)->
  (∀x,B≤x->x<B+m->DW C (x:Int)=false->GU (C.pg x) C.cfg.cells.toNat)->Er B m C (DK base m j C).1 (DK base m j C).2:=by
 intro m
 induction m with
 | zero=>
  intro j B C hB ho hl _ _ _ _ _ _
  unfold DK
  exact⟨rfl,rfl,rfl,rfl,fun _ _=>rfl,fun _ _=>rfl,by simp[dif],⟨Int.le_refl _,by(try dsimp only);omega⟩,fun _=>⟨ho,hl,fun x h1 h2=>by omega⟩,fun x=>absurd rfl x⟩
 | succ m ih=>
  intro j B C hB ho hl hp he ha hlen hw hbl
  unfold DK
  rw[hB]
  by_cases u:DW C (B:Int)=true
  case neg=>
   rw[if_neg u]
   have I:=ih (j+1) (B+1) C (by omega) ho hl (by omega) (by omega) ⟨ha.1,by omega⟩ (fun x h1 h2=>hlen x (by omega) (by omega)) (fun x h1 h2=>hw x (by omega) (by omega)) (fun x h1 h2=>hbl x (by omega) (by omega))
   generalize DK base m (j+1) C=X at *
   have hBp:=I.pg B (by omega)
   have hBe:=I.er B (by omega)
   refine⟨I.cfg,I.bl,I.np,I.ne,fun x hx=>I.pg x (by omega),fun x hx=>I.er x (by omega),?_,⟨I.ab.1,by have:=I.ab.2;omega⟩,fun e=>?_,I.bad⟩
   ·rw[I.acts,iS,hBe];omega
   ·obtain⟨g1,g2,g3⟩:=I.good e
    refine⟨g1,g2,fun x h1 h2=>?_⟩
    by_cases c:x=B
    ·subst c
     rw[hBp]
     exact⟨hlen x (by omega) (by omega),hbl x (by omega) (by omega) (by simpa using u)⟩
    ·exact g3 x (by omega) (by omega)
  rw[if_pos u]
  obtain⟨D,hD,d1,d2,d3,d4,d5,d6,d7,d8,d9,d10,d11⟩:=AfO ho (show B<C.s.pages.length by omega) (by omega) (hw B (by omega) (by omega) u) ⟨ha.1,by omega⟩
  rw[hD]
  dsimp only
  by_cases c:C.left=0
  ·have e8:CL C=8:=by unfold CL;rw[if_neg (by simpa using c)]
   rw[e8,if_pos (by simp)]
   refine⟨d1,d2,d3,d4,fun x hx=>d5 x (by omega),fun x hx=>d6 x (by omega),?_,⟨by(try dsimp only);omega,by(try dsimp only);omega⟩,fun e=>by simp at e,fun _=>rfl⟩
   rw[iS,AfB m (B+1) fun x h1 h2=>d6 x (by omega),d7,d8];omega
  ·have e0:CL C=0:=by unfold CL;rw[if_pos (by simpa using c)]
   rw[e0,if_neg (by simp)]
   have hu:∀x,B+1≤x->DW D (x:Int)=DW C (x:Int):=fun x h1=>wC d1 (by rw[d10 c,ho]) d3 (by rw[Int.toNat_natCast];exact d5 x (by omega))
   have I:=ih (j+1) (B+1) D (by omega) (d10 c) (d11 hl) (by omega) (by omega) ⟨by omega,by omega⟩
    (fun x h1 h2=>by rw[d5 x (by omega),d1];exact hlen x (by omega) (by omega))
    (fun x h1 h2 h3=>by rw[d6 x (by omega),d1];rw[hu x h1]at h3;exact hw x (by omega) (by omega) h3)
    (fun x h1 h2 h3=>by rw[d5 x (by omega),d1];rw[hu x h1]at h3;exact hbl x (by omega) (by omega) h3)
   generalize DK base m (j+1) D=X at *
   have hBp:=I.pg B (by omega)
   have hBe:=I.er B (by omega)
   refine⟨I.cfg.trans d1,I.bl.trans d2,I.np.trans d3,I.ne.trans d4,fun x hx=>(I.pg x (by omega)).trans (d5 x (by omega)),fun x hx=>(I.er x (by omega)).trans (d6 x (by omega)),?_,⟨by have:=I.ab.1;omega,by have:=I.ab.2;omega⟩,fun e=>?_,I.bad⟩
   ·rw[I.acts,iS,hBe,d7,d8,AfA m (B+1) fun x h1 h2=>d6 x (by omega)];omega
   ·obtain⟨g1,g2,g3⟩:=I.good e
    rw[d1]at g3
    refine⟨g1,g2,fun x h1 h2=>?_⟩
    by_cases c2:x=B
    ·subst c2
     rw[hBp,d9]
     exact p9 (hlen x (by omega) (by omega)) _ fun i=>by unfold BT;rw[if_pos (by simpa using c)]
    ·exact g3 x (by omega) (by omega)
theorem HU{l:List Int}(h:l.length=9):∃a b c d e f g i j,l=[a,b,c,d,e,f,g,i,j]:=by
 match l,h with
 | [a,b,c,d,e,f,g,i,j],_=>exact⟨a,b,c,d,e,f,g,i,j,rfl⟩
abbrev A8(p q:Inf)(n:Int):List Value:=.int .i64 p.head::(AA .i64 p.nums++.int .i64 p.next::.bool p.blank::.int .i64 p.torn::.int .i64 q.head::(AA .i64 q.nums++[.int .i64 q.next,.bool q.blank,.int .i64 q.torn,.int .i64 n]))
theorem FH{p q:Inf}{n:Int}(hp:p.nums.length=9)(hq:q.nums.length=9):(A8 p q n).length=27:=by simp[A8,hp,hq]
structure FndAt (h:H) (b:Nat) (p q:Inf) (n:Int):Prop where
 a0:hc h ⟨b,0,none⟩=some (.int .i64 p.head)
 a1:hrow h ⟨b,1,none⟩ .i64 p.nums
 a10:hc h ⟨b,10,none⟩=some (.int .i64 p.next)
 a11:hc h ⟨b,11,none⟩=some (.bool p.blank)
 a12:hc h ⟨b,12,none⟩=some (.int .i64 p.torn)
 a13:hc h ⟨b,13,none⟩=some (.int .i64 q.head)
 a14:hrow h ⟨b,14,none⟩ .i64 q.nums
 a23:hc h ⟨b,23,none⟩=some (.int .i64 q.next)
 a24:hc h ⟨b,24,none⟩=some (.bool q.blank)
 a25:hc h ⟨b,25,none⟩=some (.int .i64 q.torn)
 a26:hc h ⟨b,26,none⟩=some (.int .i64 n)
section
variable {h0 h:H} {A:List Ent} {i j p r b:Nat} {C:Cm}
theorem _root_.Go.Vc.Sat.fnd(hs:Sat h0 A h){P Q:Inf}{n:Int}(m:At A i (blk b (A8 P Q n)))(hp:P.nums.length=9)(hq:Q.nums.length=9):FndAt h b P Q n:=by
 obtain⟨ph,pn,px,pb,pt⟩:=P
 obtain⟨qh,qn,qx,qb,qt⟩:=Q
 obtain⟨a1,a2,a3,a4,a5,a6,a7,a8,a9,rfl⟩:=HU hp
 obtain⟨b1,b2,b3,b4,b5,b6,b7,b8,b9,rfl⟩:=HU hq
 exact⟨hs.ld m rfl,hs.cs m rfl,hs.ld m rfl,hs.ld m rfl,hs.ld m rfl,hs.ld m rfl,hs.cs m rfl,hs.ld m rfl,hs.ld m rfl,hs.ld m rfl,hs.ld m rfl⟩
theorem Ag1{P Q R:Inf}{n:Int}(hp:P.nums.length=9)(hr:R.nums.length=9):AO (A8 P Q n) 0 (D5 R)=A8 R Q n:=by
 obtain⟨ph,pn,px,pb,pt⟩:=P
 obtain⟨qh,qn,qx,qb,qt⟩:=R
 obtain⟨a1,a2,a3,a4,a5,a6,a7,a8,a9,rfl⟩:=HU hp
 obtain⟨b1,b2,b3,b4,b5,b6,b7,b8,b9,rfl⟩:=HU hr
 rfl
theorem Ag2{P Q R:Inf}{n:Int}(hp:P.nums.length=9)(hq:Q.nums.length=9)(hr:R.nums.length=9):AO (A8 P Q n) 13 (D5 R)=A8 P R n:=by
 obtain⟨ph,pn,px,pb,pt⟩:=P
 obtain⟨qh,qn,qx,qb,qt⟩:=Q
 obtain⟨rh,rn,rx,rb,rt⟩:=R
 obtain⟨a1,a2,a3,a4,a5,a6,a7,a8,a9,rfl⟩:=HU hp
 obtain⟨b1,b2,b3,b4,b5,b6,b7,b8,b9,rfl⟩:=HU hq
 obtain⟨c1,c2,c3,c4,c5,c6,c7,c8,c9,rfl⟩:=HU hr
 rfl
theorem Ag3{P Q:Inf}{n m:Int}(hp:P.nums.length=9)(hq:Q.nums.length=9):AO (A8 P Q n) 26 [.int .i64 m]=A8 P Q m:=by
 obtain⟨ph,pn,px,pb,pt⟩:=P
 obtain⟨qh,qn,qx,qb,qt⟩:=Q
 obtain⟨a1,a2,a3,a4,a5,a6,a7,a8,a9,rfl⟩:=HU hp
 obtain⟨b1,b2,b3,b4,b5,b6,b7,b8,b9,rfl⟩:=HU hq
 rfl
theorem _root_.Go.Vc.Sat.infAt(hs:Sat h0 A h){P:Inf}(m:At A i (blk b (D5 P)))(hp:P.nums.length=9):hc h ⟨b,0,none⟩=some (.int .i64 P.head)/\hrow h ⟨b,1,none⟩ .i64 P.nums/\hc h ⟨b,10,none⟩=some (.int .i64 P.next)/\hc h ⟨b,11,none⟩=some (.bool P.blank)/\hc h ⟨b,12,none⟩=some (.int .i64 P.torn):=by
 obtain⟨ph,pn,px,pb,pt⟩:=P
 obtain⟨a1,a2,a3,a4,a5,a6,a7,a8,a9,rfl⟩:=HU hp
 exact⟨hs.ld m rfl,hs.cs m rfl,hs.ld m rfl,hs.ld m rfl,hs.ld m rfl⟩
/-! ### What the log says -/
def pI(C:Cm)(k:Nat):Inf:=X5 (C.pg k) C.cfg.cells.toNat
theorem FX(C:Cm)(k:Nat):(pI C k).nums.length=9:=MS _ _
def G5(a b:Int):Int:=if 0<a/\b≤a then 0 else if 0<b then 1 else -1
def AU(C:Cm):Int:=G5 (pI C 0).head (pI C 1).head
def AS(C:Cm):Inf:=if AU C<0 then inf0 else pI C (AU C).toNat
def BF(C:Cm):Nat:=if AU C=0 then 1 else 0
theorem XH(C:Cm):(AS C).nums.length=9:=by unfold AS;split;rfl;exact FX C _
theorem HY(C:Cm):AU C=-1∨AU C=0∨AU C=1:=by unfold AU G5;(repeat' split) <;> simp
theorem AiC{C:Cm}(ho:C.out=false)(ok:C.ok){k:Nat}(hk:k<2):FV C (k:Int)=(pI C k,0):=by
 have h1:=ok.fits.pages
 have h2:=ok.may.area
 have h3:C.cfg.np=2+2*C.cfg.area:=rfl
 unfold FV
 rw[DB ho (by omega) (by omega),if_neg (by simp),Int.toNat_natCast];rfl
theorem AiB{C:Cm}(ho:C.out=true)(k:Int):FV C k=(inf0,8):=by
 unfold FV AT
 rw[if_pos ho,if_pos (by decide)]
structure Fnd where
 p:Inf
 q:Inf
 n:Int
def BK(C:Cm):Fnd×Int:=if C.out=true then (⟨inf0,inf0,0⟩,8) else (⟨pI C 0,pI C 1,AU C⟩,0)
theorem XU(C:Cm):(BK C).1.p.nums.length=9/\(BK C).1.q.nums.length=9:=by
 unfold BK;split
 ·exact⟨rfl,rfl⟩
 ·exact⟨FX C 0,FX C 1⟩
abbrev CE(l p:Nat):Ent:=blk l [.pointer (some ⟨p,0,none⟩)]
theorem XT{Q:Int->List Int->Int->Bool->Int->Int->List Int->Int->Bool->Int->Int->Int->HP}(hs:Sat h0 A h)(ci:At A i (AF p C))(cl:At A j (CE r p))
  (k:∀h',Sat h0 A h'->Q (BK C).1.p.head (BK C).1.p.nums (BK C).1.p.next (BK C).1.p.blank (BK C).1.p.torn (BK C).1.q.head (BK C).1.q.nums (BK C).1.q.next (BK C).1.q.blank (BK C).1.q.torn (BK C).1.n (BK C).2 h'):
  F6 ⟨r,0,none⟩ Q h:=by
 unfold F6 cR
 try simp only[AI,Nat.zero_add]
 have ok:=CW hs ci
 have z9:inf0.nums.length=9:=rfl
 intro n4 _ hn;replace hs:=Sat.new hs hn
 intro n7 _ hn;replace hs:=Sat.new hs hn
 replace hs:Sat h0 (blk n7 (A8 inf0 inf0 0)::blk n4 (A8 inf0 inf0 0)::A) _:=hs
 refine⟨Sat.can hs (i:=0) (by repeat constructor) (by decide),?_⟩
 intro h2 e
 replace hs:=Sat.wra hs (i:=0) (by repeat constructor) e (by rfl)
 clear e
 replace hs:Sat h0 (blk n7 (A8 inf0 inf0 (-1))::blk n4 (A8 inf0 inf0 0)::A) _:=hs
 intro J hJ
 obtain⟨G,hG⟩:∃G:Nat->Inf×Inf,G=fun n=>(if 0<n then pI C 0 else inf0,if 1<n then pI C 1 else inf0):=⟨_,rfl⟩
 have hG0:G 0=(inf0,inf0):=by rw[hG];rfl
 have hG2:G 2=(pI C 0,pI C 1):=by rw[hG];rfl
 have hGl:∀n,(G n).1.nums.length=9/\(G n).2.nums.length=9:=by
  intro n;rw[hG];dsimp only
  exact⟨by split;exact FX C 0;rfl,by split;exact FX C 1;rfl⟩
 have hs1:Sat h0 (blk n7 (A8 (G 0).1 (G 0).2 (-1))::blk n4 (A8 inf0 inf0 0)::A) h2:=by rw[hG0];exact hs
 clear hs
 refine BS 2 (fun n h=>(n≠0->C.out=false)/\Sat h0 (blk n7 (A8 (G n).1 (G n).2 (-1))::blk n4 (A8 inf0 inf0 0)::A) h) ?_ ?_ 0 _ (by omega) ⟨fun y=>absurd rfl y,hs1⟩
 ·rintro n h3 hn ⟨hno,hs⟩ hk
  apply hJ
  rw[AD,if_pos (by simp;omega)]
  refine⟨_,hs.ld cl.s.s rfl,_,rfl,?_⟩
  refine zV hs ci.s.s (n:Int) ?_
  intro h4 hs
  have hll:=AiA C (n:Int)
  intro n24 _ hn24;replace hs:=Sat.new hs hn24;clear hn24
  refine⟨Sat.can hs (by repeat constructor) (by decide),?_⟩
  intro h5 e
  replace hs:=Sat.wra hs (by repeat constructor) e ((HQ hll).trans rfl)
  clear e
  simp only[put]at hs
  by_cases ho:C.out=true
  ·rw[AiB ho]at hs ⊢
   rw[if_pos (by simp)]
   refine⟨Sat.can hs (by repeat constructor) (by decide),?_⟩
   intro h6 e
   replace hs:=Sat.wra hs (i:=2) (by repeat constructor) e (by rfl)
   clear e
   simp only[put]at hs
   replace hs:Sat h0 (blk n24 (D5 inf0)::blk n7 (A8 (G n).1 (G n).2 (-1))::blk n4 (A8 inf0 inf0 0)::A) h6:=hs
   have L:=hs.fnd (i:=2) (by repeat constructor) z9 z9
   refine⟨_,L.a0,_,‹_›,L.a1,_,L.a10,_,L.a11,_,L.a12,_,L.a13,_,‹_›,L.a14,_,L.a23,_,L.a24,_,L.a25,_,L.a26,?_⟩
   have e:BK C=(⟨inf0,inf0,0⟩,8):=by unfold BK;rw[if_pos ho]
   rw[e]at k
   exact k _ hs.drop.drop.drop
  ·have ho':C.out=false:=by simpa using ho
   have el:=AiC ho' ok (k:=n) hn
   rw[el]at hs ⊢
   rw[if_neg (by simp)]
   have hpl:=FX C n
   obtain⟨L0,L1,L10,L11,L12⟩:=hs.infAt (i:=0) (by repeat constructor) hpl
   refine⟨_,L0,_,hpl,L1,_,L10,_,L11,_,L12,by omega,by omega,?_⟩
   rw[Int.toNat_natCast]
   refine⟨Sat.can hs (i:=1) (by repeat constructor) (by rw[FH (hGl n).1 (hGl n).2];omega),?_⟩
   intro h6 e
   replace hs:=Sat.wr hs (i:=1) (by repeat constructor) e
   clear e
   simp only[put]at hs
   rw[A0 (by omega)]
   refine hk _ ⟨fun _=>ho',?_⟩
   have hn2:n=0∨n=1:=by omega
   have e2:AO (A8 (G n).1 (G n).2 (-1)) (n*13) (D5 (pI C n))=A8 (G (n+1)).1 (G (n+1)).2 (-1):=by
    rcases hn2 with rfl | rfl
    ·rw[hG0]
     show AO _ 0 _=_
     rw[Ag1 z9 hpl,hG];rfl
    ·have:G 1=(pI C 0,inf0):=by rw[hG];rfl
     rw[this]
     show AO _ 13 _=_
     rw[Ag2 (FX C 0) z9 hpl,hG];rfl
   rw[e2]at hs
   exact hs.drop
 ·rintro h3 ⟨hno,hs⟩
  have ho:C.out=false:=hno (by decide)
  rw[hG2]at hs
  dsimp only at hs
  apply hJ
  rw[AD,if_neg (by simp)]
  clear hJ J hG0 hG2 hGl hG hs1
  have l0:=FX C 0
  have l1:=FX C 1
  have L:=hs.fnd .z l0 l1
  refine⟨by decide,by decide,_,L.a0,by decide,by decide,_,L.a13,?_⟩
  have e:BK C=(⟨pI C 0,pI C 1,AU C⟩,0):=by unfold BK;rw[if_neg (by simp[ho])]
  rw[e]at k
  dsimp only at k
  have pc:AU C=G5 (pI C 0).head (pI C 1).head:=rfl
  unfold G5 at pc
  have w26:∀(m:Int) (h':H) (A':List Ent),Sat h0 (blk n7 (AO (A8 (pI C 0) (pI C 1) (-1)) 26 [.int .i64 m])::A') h'->Sat h0 (blk n7 (A8 (pI C 0) (pI C 1) m)::A') h':=fun m h' A' y=>by rw[Ag3 l0 l1]at y;exact y
  have c26:∀h',Sat h0 (blk n7 (A8 (pI C 0) (pI C 1) (-1))::blk n4 (A8 inf0 inf0 0)::A) h'->AC h' ⟨n7,26,none⟩ 1:=fun h' y=>Sat.can y .z (by rw[FH l0 l1];omega)
  by_cases g1:0<(pI C 0).head
  ·rw[AD,if_pos (by simpa using g1)]
   by_cases g2:(pI C 1).head≤(pI C 0).head
   ·rw[BQ,if_pos (by simpa using g2)]
    refine⟨c26 _ hs,?_⟩
    intro h4 e4
    replace hs:=Sat.wr hs .z e4
    clear e4
    replace hs:=w26 _ _ _ hs
    (have L:=hs.fnd .z l0 l1;refine⟨_,L.a0,_,‹_›,L.a1,_,L.a10,_,L.a11,_,L.a12,_,L.a13,_,‹_›,L.a14,_,L.a23,_,L.a24,_,L.a25,_,L.a26,?_⟩;refine⟨Sat.can hs (by repeat constructor) (by decide),?_⟩;intro h9 e9;replace hs:=Sat.wra hs (i:=1) (by repeat constructor) e9 (by rw[FH z9 z9];exact (FH (n:=0) l0 l1));clear e9;simp only[put]at hs;replace hs:Sat h0 (blk n7 (A8 (pI C 0) (pI C 1) (0))::blk n4 (A8 (pI C 0) (pI C 1) (0))::A) h9:=hs;have L:=hs.fnd zs1 l0 l1;refine⟨_,L.a0,_,‹_›,L.a1,_,L.a10,_,L.a11,_,L.a12,_,L.a13,_,‹_›,L.a14,_,L.a23,_,L.a24,_,L.a25,_,L.a26,?_⟩;rw[show AU C=0 by rw[pc];simp[*]]at k;exact k _ hs.drop.drop)
   ·rw[BQ,if_neg (by simpa using g2),AD,if_pos (by simp;omega)]
    refine⟨c26 _ hs,?_⟩
    intro h4 e4
    replace hs:=Sat.wr hs .z e4
    clear e4
    replace hs:=w26 _ _ _ hs
    have g3:0<(pI C 1).head:=by omega
    (have L:=hs.fnd .z l0 l1;refine⟨_,L.a0,_,‹_›,L.a1,_,L.a10,_,L.a11,_,L.a12,_,L.a13,_,‹_›,L.a14,_,L.a23,_,L.a24,_,L.a25,_,L.a26,?_⟩;refine⟨Sat.can hs (by repeat constructor) (by decide),?_⟩;intro h9 e9;replace hs:=Sat.wra hs (i:=1) (by repeat constructor) e9 (by rw[FH z9 z9];exact (FH (n:=1) l0 l1));clear e9;simp only[put]at hs;replace hs:Sat h0 (blk n7 (A8 (pI C 0) (pI C 1) (1))::blk n4 (A8 (pI C 0) (pI C 1) (1))::A) h9:=hs;have L:=hs.fnd zs1 l0 l1;refine⟨_,L.a0,_,‹_›,L.a1,_,L.a10,_,L.a11,_,L.a12,_,L.a13,_,‹_›,L.a14,_,L.a23,_,L.a24,_,L.a25,_,L.a26,?_⟩;rw[show AU C=1 by rw[pc];simp[*]]at k;exact k _ hs.drop.drop)
  ·rw[AD,if_neg (by simpa using g1)]
   by_cases g3:0<(pI C 1).head
   ·rw[AD,if_pos (by simpa using g3)]
    refine⟨c26 _ hs,?_⟩
    intro h4 e4
    replace hs:=Sat.wr hs .z e4
    clear e4
    replace hs:=w26 _ _ _ hs
    (have L:=hs.fnd .z l0 l1;refine⟨_,L.a0,_,‹_›,L.a1,_,L.a10,_,L.a11,_,L.a12,_,L.a13,_,‹_›,L.a14,_,L.a23,_,L.a24,_,L.a25,_,L.a26,?_⟩;refine⟨Sat.can hs (by repeat constructor) (by decide),?_⟩;intro h9 e9;replace hs:=Sat.wra hs (i:=1) (by repeat constructor) e9 (by rw[FH z9 z9];exact (FH (n:=1) l0 l1));clear e9;simp only[put]at hs;replace hs:Sat h0 (blk n7 (A8 (pI C 0) (pI C 1) (1))::blk n4 (A8 (pI C 0) (pI C 1) (1))::A) h9:=hs;have L:=hs.fnd zs1 l0 l1;refine⟨_,L.a0,_,‹_›,L.a1,_,L.a10,_,L.a11,_,L.a12,_,L.a13,_,‹_›,L.a14,_,L.a23,_,L.a24,_,L.a25,_,L.a26,?_⟩;rw[show AU C=1 by rw[pc];simp[*]]at k;exact k _ hs.drop.drop)
   ·rw[AD,if_neg (by simpa using g3)]
    (have L:=hs.fnd .z l0 l1;refine⟨_,L.a0,_,‹_›,L.a1,_,L.a10,_,L.a11,_,L.a12,_,L.a13,_,‹_›,L.a14,_,L.a23,_,L.a24,_,L.a25,_,L.a26,?_⟩;refine⟨Sat.can hs (by repeat constructor) (by decide),?_⟩;intro h9 e9;replace hs:=Sat.wra hs (i:=1) (by repeat constructor) e9 (by rw[FH z9 z9];exact (FH (n:=-1) l0 l1));clear e9;simp only[put]at hs;replace hs:Sat h0 (blk n7 (A8 (pI C 0) (pI C 1) (-1))::blk n4 (A8 (pI C 0) (pI C 1) (-1))::A) h9:=hs;have L:=hs.fnd zs1 l0 l1;refine⟨_,L.a0,_,‹_›,L.a1,_,L.a10,_,L.a11,_,L.a12,_,L.a13,_,‹_›,L.a14,_,L.a23,_,L.a24,_,L.a25,_,L.a26,?_⟩;rw[show AU C=-1 by rw[pc];simp[*]]at k;exact k _ hs.drop.drop)
def GC(p q:Inf)(n:Int):Inf:=if n<0 then inf0 else if n=0 then p else q
theorem MK(C:Cm):AS C=GC (pI C 0) (pI C 1) (AU C):=by
 unfold AS GC
 rcases HY C with e | e | e <;> rw[e] <;> simp
theorem MF{Q:Int->List Int->Int->Bool->Int->HP}{P R:Inf}{n:Int}(hp:P.nums.length=9)(hr:R.nums.length=9)(hn:n<2)(hs:Sat h0 A h)
  (k:∀h',Sat h0 A h'->Q (GC P R n).head (GC P R n).nums (GC P R n).next (GC P R n).blank (GC P R n).torn h'):E5 P.head P.nums P.next P.blank P.torn R.head R.nums R.next R.blank R.torn n Q h:=by
 unfold E5 cZ
 try simp only[AI,Nat.zero_add]
 intro n13 _ hn13;replace hs:=Sat.new hs hn13;clear hn13
 intro n16 _ hn16;replace hs:=Sat.new hs hn16;clear hn16
 replace hs:Sat h0 (blk n16 (D5 inf0)::blk n13 (A8 P R n)::A) _:=hs
 have z9:inf0.nums.length=9:=rfl
 have L:=hs.fnd zs1 hp hr
 refine⟨_,L.a26,?_⟩
 by_cases g:n<0
 ·rw[AD,if_pos (by simpa using g)]
  refine⟨Sat.can hs .z (by decide),?_⟩
  intro h4 e
  replace hs:=Sat.wra hs .z e (by rfl)
  clear e
  replace hs:Sat h0 (blk n16 (D5 inf0)::blk n13 (A8 P R n)::A) _:=hs
  obtain⟨L0,L1,L10,L11,L12⟩:=hs.infAt .z z9
  refine⟨_,L0,_,z9,L1,_,L10,_,L11,_,L12,?_⟩
  have e:GC P R n=inf0:=by unfold GC;rw[if_pos g]
  rw[e]at k
  exact k _ hs.drop.drop
 rw[AD,if_neg (by simpa using g)]
 refine⟨_,L.a26,by omega,by omega,?_⟩
 -- either page
 have fin:∀(S:Inf),S.nums.length=9->GC P R n=S->∀h',Sat h0 (blk n16 (D5 inf0)::blk n13 (A8 P R n)::A) h'->AC h' ⟨n16,0,none⟩ 13/\∀h2,h2=hwr h' ⟨n16,0,none⟩ (D5 S)->
   ∃i0,hc h2 ⟨n16,0,none⟩=some (.int .i64 i0)/\∃l1:List Int,l1.length=9/\hrow h2 ⟨n16,1,none⟩ .i64 l1/\∃i10,hc h2 ⟨n16,10,none⟩=some (.int .i64 i10)/\∃b11,hc h2 ⟨n16,11,none⟩=some (.bool b11)/\∃i12,hc h2 ⟨n16,12,none⟩=some (.int .i64 i12)/\Q i0 l1 i10 b11 i12 h2:=by
  intro S hS e h' hs
  refine⟨Sat.can hs .z (by decide),?_⟩
  intro h4 e4
  replace hs:=Sat.wra hs .z e4 ((HQ hS).trans rfl)
  clear e4
  replace hs:Sat h0 (blk n16 (D5 S)::blk n13 (A8 P R n)::A) _:=hs
  obtain⟨L0,L1,L10,L11,L12⟩:=hs.infAt .z hS
  refine⟨_,L0,_,hS,L1,_,L10,_,L11,_,L12,?_⟩
  rw[e]at k
  exact k _ hs.drop.drop
 have h01:n=0∨n=1:=by omega
 rcases h01 with rfl | rfl
 ·simp only[Int.toNat_zero,Nat.zero_mul,Nat.zero_add]
  exact⟨_,L.a0,_,hp,L.a1,_,L.a10,_,L.a11,_,L.a12,fin P hp (by unfold GC;simp) _ hs⟩
 ·simp only[Int.toNat_one,Nat.one_mul,Nat.reduceAdd]
  exact⟨_,L.a13,_,hr,L.a14,_,L.a23,_,L.a24,_,L.a25,fin R hr (by unfold GC;simp) _ hs⟩
def GD(C:Cm):Int:=if C.out=true then 0 else if AU C<0 then 0 else C.cfg.cells-(AS C).next
def FO(C:Cm):Bool:=(!(pI C (BF C)).blank&&decide (C.cfg.erases≤C.er (BF C))) || decide (BA≤(AS C).head)
def VT(C:Cm):Bool:=if C.out=true then false else FO C
theorem l7{Q:Option Addr->Int->HP}(hs:Sat h0 A h)(ci:At A i (AF p C))(k1:C.out=true->Q none 8 h)(k2:C.out=false->∀l h',Sat h0 (CE l p::A) h'->Q (some ⟨l,0,none⟩) 0 h'):JL ⟨p,0,none⟩ Q h:=by
 unfold JL cY
 refine PH hs ci ?_
 by_cases ho:C.out=true
 ·rw[if_pos ho];exact k1 ho
 ·rw[if_neg ho]
  intro l _ hn;replace hs:=Sat.new hs hn
  exact k2 (by simpa using ho) _ _ hs
theorem zB{Q:Int->HP}(hs:Sat h0 A h)(ci:At A i (AF p C))(cl:At A j (CE r p))(k:∀h',Sat h0 A h'->Q (IntKind.i64.wrap (GD C)) h'):N6 ⟨r,0,none⟩ Q h:=by
 unfold N6 cN
 try simp only[AI,Nat.zero_add]
 refine XT hs ci cl ?_
 intro h1 hs
 obtain⟨lp,lq⟩:=XU C
 intro n17 _ hn;replace hs:=Sat.new hs hn
 refine⟨Sat.can hs .z (by decide),?_⟩
 intro h2 e
 replace hs:=Sat.wra hs .z e (by rw[FH lp lq];rfl)
 clear e
 replace hs:Sat h0 (blk n17 (A8 (BK C).1.p (BK C).1.q (BK C).1.n)::A) h2:=hs
 unfold GD at k
 by_cases ho:C.out=true
 ·have e:BK C=(⟨inf0,inf0,0⟩,8):=by unfold BK;rw[if_pos ho]
  rw[if_pos ho]at k
  rw[e,if_pos (by simp)]
  exact k _ hs.drop
 ·have e:BK C=(⟨pI C 0,pI C 1,AU C⟩,0):=by unfold BK;rw[if_neg ho]
  rw[if_neg ho]at k
  rw[e]at hs lp lq ⊢
  dsimp only at hs lp lq ⊢
  have L:=hs.fnd .z lp lq
  rw[if_neg (by simp)]
  refine⟨_,L.a26,?_⟩
  by_cases g:AU C<0
  ·rw[if_pos g]at k
   rw[AD,if_pos (by simpa using g)]
   exact k _ hs.drop
  rw[if_neg g]at k
  rw[AD,if_neg (by simpa using g)]
  refine⟨_,hs.ld cl.s rfl,?_⟩
  refine⟨_,L.a0,_,‹_›,L.a1,_,L.a10,_,L.a11,_,L.a12,_,L.a13,_,‹_›,L.a14,_,L.a23,_,L.a24,_,L.a25,_,L.a26,?_⟩
  refine⟨_,rfl,?_⟩
  refine CO hs ci.s ?_
  intro h3 hs
  refine⟨Sat.whole hs .z,?_⟩
  have hc2:=HY C
  refine MF lp lq (by omega) hs ?_
  intro h4 hs
  rw[←MK]
  exact k _ hs.drop
end
def EJ(t:Int)(nums:List Int):Nat->Nat->Nat->Cm->Cm×Int
 | 0,_,_,C=>(C,0)
 | m+1,x,at_,C=>if nums.getD x 0=0 then EJ t nums m (x+1) at_ C
  else if (CH C t (at_:Int) (D9 (x:Int) (nums.getD x 0)).1).2≠0 then CH C t (at_:Int) (D9 (x:Int) (nums.getD x 0)).1
  else EJ t nums m (x+1) (at_+1) (CH C t (at_:Int) (D9 (x:Int) (nums.getD x 0)).1).1
def E3(g:Int)(t:Int)(nums:List Int)(m:Nat)(C:Cm):Cm×Int:=
 if (EJ t nums m 0 1 C).2≠0 then EJ t nums m 0 1 C else CH (EJ t nums m 0 1 C).1 t 0 (GE (g+1)).1
def I1(C:Cm)(slot:Nat)(n:Int):Cm×Int:=
 if (pI C (BF C)).blank=true then E3 (AS C).head (BF C:Int) ((AS C).nums.set slot n) (C.cfg.slots+1).toNat C
 else if (CP C (BF C:Int)).2≠0 then CP C (BF C:Int)
 else E3 (AS C).head (BF C:Int) ((AS C).nums.set slot n) (C.cfg.slots+1).toNat (CP C (BF C:Int)).1
def EF(C:Cm)(slot n:Int):Cm×Int:=
 if C.out=true then (C,8)
 else if ¬(0≤slot/\slot≤C.cfg.slots/\1≤n/\n≤BA) then (C,2)
 else if n≤(AS C).nums.getD slot.toNat 0 then (C,11)
 else if 0≤AU C/\(AS C).next<C.cfg.cells then CH C (AU C) (AS C).next (D9 slot n).1
 else if FO C=true then (C,9)
 else I1 C slot.toNat n
def HV(C:Cm)(slot:Int):Int×Int:=if C.out=true then (0,8) else if ¬(0≤slot/\slot≤C.cfg.slots) then (0,2) else ((AS C).nums.getD slot.toNat 0,0)
section
variable {h0 h:H} {A:List Ent} {i j p r b:Nat} {C:Cm}
theorem vI{Q:Bool->HP}(hs:Sat h0 A h)(ci:At A i (AF p C))(cl:At A j (CE r p))(n:Int)(k:∀h',Sat h0 A h'->Q (decide (0≤n/\n≤C.cfg.slots)) h'):JJ ⟨r,0,none⟩ n Q h:=by
 unfold JJ cT
 by_cases g:0≤n
 ·rw[BQ,if_pos (by simpa using g)]
  refine⟨_,hs.ld cl rfl,_,rfl,?_⟩
  refine CO hs ci ?_
  intro h1 hs
  have:=k _ hs
  rw[BQ]
  simpa[g]using this
 ·rw[BQ,if_neg (by simpa using g)]
  have:=k _ hs
  simpa[g]using this
theorem kU{Q:Int->HP}{P R:Inf}{n:Int}(hp:P.nums.length=9)(hr:R.nums.length=9)(hs:Sat h0 A h)(k:∀h',Sat h0 A h'->Q (if n=0 then 1 else 0) h'):
  JM P.head P.nums P.next P.blank P.torn R.head R.nums R.next R.blank R.torn n Q h:=by
 unfold JM dA
 try simp only[AI,Nat.zero_add]
 intro n13 _ hn13;replace hs:=Sat.new hs hn13;clear hn13
 replace hs:Sat h0 (blk n13 (A8 P R n)::A) _:=hs
 have L:=hs.fnd .z hp hr
 refine⟨_,L.a26,?_⟩
 by_cases g:n=0
 ·rw[if_pos g]at k;rw[if_pos (by simpa using g)];exact k _ hs.drop
 ·rw[if_neg g]at k;rw[if_neg (by simpa using g)];exact k _ hs.drop
theorem kX(C:Cm):(if AU C=0 then (1:Int) else 0)=(BF C:Int):=by unfold BF;split <;> rfl
theorem pE(hs:Sat h0 A h){P R:Inf}{n:Int}(m:At A i (blk b (A8 P R n)))(hp:P.nums.length=9)(hq:R.nums.length=9){t:Nat}(ht:t<2):hc h ⟨b,t*13+11,none⟩=some (.bool (if t=0 then P.blank else R.blank)):=by
 have L:=hs.fnd m hp hq
 have:t=0∨t=1:=by omega
 rcases this with rfl | rfl
 ·exact L.a11
 ·exact L.a24
theorem tZ(C:Cm):(if BF C=0 then (pI C 0).blank else (pI C 1).blank)=(pI C (BF C)).blank:=by unfold BF;split <;> simp
theorem VR(C:Cm):BF C<2:=by unfold BF;split <;> omega
theorem wP{Q:Bool->HP}(hs:Sat h0 A h)(ci:At A i (AF p C))(cl:At A j (CE r p))(ho:C.out=false)(k:∀h',Sat h0 A h'->Q (FO C) h'):
  JK ⟨r,0,none⟩ (pI C 0).head (pI C 0).nums (pI C 0).next (pI C 0).blank (pI C 0).torn (pI C 1).head (pI C 1).nums (pI C 1).next (pI C 1).blank (pI C 1).torn (AU C) Q h:=by
 unfold JK cW
 try simp only[AI,Nat.zero_add]
 have ok:=CW hs ci
 have l0:=FX C 0
 have l1:=FX C 1
 have hc2:=HY C
 have ht:=VR C
 intro n18 _ hn;replace hs:=Sat.new hs hn
 replace hs:Sat h0 (blk n18 (A8 (pI C 0) (pI C 1) (AU C))::A) _:=hs
 have L:=hs.fnd .z l0 l1
 refine⟨_,hs.ld cl.s rfl,?_⟩
 refine⟨_,L.a0,_,‹_›,L.a1,_,L.a10,_,L.a11,_,L.a12,_,L.a13,_,‹_›,L.a14,_,L.a23,_,L.a24,_,L.a25,_,L.a26,?_⟩
 refine kU l0 l1 hs ?_
 intro h1 hs
 rw[kX]
 refine⟨AH (hs.ld cl.s rfl),_,rfl,?_⟩
 refine ZR hs ci.s (BF C:Int) ?_
 have ee:EO C (BF C:Int)=(C.er (BF C),0):=by
  have:=(ok.fits.pages);have h2:=ok.may.area;have h3:C.cfg.np=2+2*C.cfg.area:=rfl
  unfold EO;rw[DB ho (by omega) (by omega),if_neg (by simp),Int.toNat_natCast];rfl
 rw[ee]
 have L:=hs.fnd .z l0 l1
 refine⟨_,L.a0,_,‹_›,L.a1,_,L.a10,_,L.a11,_,L.a12,_,L.a13,_,‹_›,L.a14,_,L.a23,_,L.a24,_,L.a25,_,L.a26,?_⟩
 refine kU l0 l1 hs ?_
 intro h2 hs
 rw[kX,Int.toNat_natCast]
 refine⟨by omega,by omega,_,pE hs .z l0 l1 ht,?_⟩
 rw[tZ]
 unfold FO at k
 have fin:∀h',Sat h0 (blk n18 (A8 (pI C 0) (pI C 1) (AU C))::A) h'->((!(pI C (BF C)).blank&&decide (C.cfg.erases≤C.er (BF C)))=false)->∃i63,hc h' ⟨n18,0,none⟩=some (.int .i64 i63)/\∃l64:List Int,l64.length=9/\hrow h' ⟨n18,1,none⟩ .i64 l64/\∃i65,hc h' ⟨n18,10,none⟩=some (.int .i64 i65)/\∃b66,hc h' ⟨n18,11,none⟩=some (.bool b66)/\∃i67,hc h' ⟨n18,12,none⟩=some (.int .i64 i67)/\
   ∃i68,hc h' ⟨n18,13,none⟩=some (.int .i64 i68)/\∃l69:List Int,l69.length=9/\hrow h' ⟨n18,14,none⟩ .i64 l69/\∃i70,hc h' ⟨n18,23,none⟩=some (.int .i64 i70)/\∃b71,hc h' ⟨n18,24,none⟩=some (.bool b71)/\∃i72,hc h' ⟨n18,25,none⟩=some (.int .i64 i72)/\∃i73,hc h' ⟨n18,26,none⟩=some (.int .i64 i73)/\
   E5 i63 l64 i65 b66 i67 i68 l69 i70 b71 i72 i73 (fun i74 l75 i76 b77 i78 h79=>∀i80:Int,i80=4611686018427387904->Q (leI i80 i74) h79) h':=by
  intro h' hs e
  have L:=hs.fnd .z l0 l1
  refine⟨_,L.a0,_,‹_›,L.a1,_,L.a10,_,L.a11,_,L.a12,_,L.a13,_,‹_›,L.a14,_,L.a23,_,L.a24,_,L.a25,_,L.a26,?_⟩
  refine MF l0 l1 (by omega) hs ?_
  intro h3 hs i80 hi80
  rw[←MK]
  rw[e,Bool.false_or]at k
  subst hi80
  rw[BQ]
  exact k _ hs.drop
 by_cases g:(pI C (BF C)).blank=true
 ·rw[if_neg (by rw[g];decide)]
  exact fin _ hs (by rw[g];rfl)
 ·have g':(pI C (BF C)).blank=false:=by simpa using g
  rw[if_pos (by rw[g'];decide)]
  refine⟨_,hs.ld cl.s rfl,_,rfl,?_⟩
  refine CO hs ci.s ?_
  intro h3 hs
  by_cases g2:C.cfg.erases≤C.er (BF C)
  ·rw[BQ,if_pos (by simpa using g2)]
   have:=k _ hs.drop
   rw[g',decide_eq_true g2]at this
   exact this
  ·rw[BQ,if_neg (by simpa using g2)]
   exact fin _ hs (by rw[decide_eq_false g2,Bool.and_false])
theorem l9{Q:Int->Int->HP}(hs:Sat h0 A h)(ci:At A i (AF p C))(cl:At A j (CE r p))(slot:Int)(k:∀h',Sat h0 A h'->Q (HV C slot).1 (HV C slot).2 h'):JI ⟨r,0,none⟩ slot Q h:=by
 unfold JI cP
 try simp only[AI,Nat.zero_add]
 have ok:=CW hs ci
 refine XT hs ci cl ?_
 intro h1 hs
 obtain⟨lp,lq⟩:=XU C
 intro n17 _ hn;replace hs:=Sat.new hs hn
 refine⟨Sat.can hs .z (by decide),?_⟩
 intro h2 e
 replace hs:=Sat.wra hs .z e (by rw[FH lp lq];rfl)
 clear e
 replace hs:Sat h0 (blk n17 (A8 (BK C).1.p (BK C).1.q (BK C).1.n)::A) h2:=hs
 unfold HV at k
 by_cases ho:C.out=true
 ·have e:BK C=(⟨inf0,inf0,0⟩,8):=by unfold BK;rw[if_pos ho]
  rw[if_pos ho]at k
  rw[e,if_pos (by simp)]
  exact k _ hs.drop
 have e:BK C=(⟨pI C 0,pI C 1,AU C⟩,0):=by unfold BK;rw[if_neg ho]
 rw[if_neg ho]at k
 rw[e]at hs lp lq ⊢
 dsimp only at hs lp lq ⊢
 rw[if_neg (by simp)]
 refine vI hs ci.s cl.s slot ?_
 intro h3 hs
 by_cases g:0≤slot/\slot≤C.cfg.slots
 case neg=>
  rw[if_pos g]at k
  rw[if_pos (by rw[decide_eq_false g];rfl)]
  exact k _ hs.drop
 rw[if_neg (fun y=>y g)]at k
 rw[if_neg (by rw[decide_eq_true g];decide)]
 have L:=hs.fnd .z lp lq
 refine⟨_,L.a0,_,‹_›,L.a1,_,L.a10,_,L.a11,_,L.a12,_,L.a13,_,‹_›,L.a14,_,L.a23,_,L.a24,_,L.a25,_,L.a26,?_⟩
 have hc2:=HY C
 refine MF lp lq (by omega) hs ?_
 intro h4 hs
 rw[←MK]
 have:=ok.may.slots
 exact⟨by omega,by omega,k _ hs.drop⟩
end
theorem Ak3(x:List Int):0≤(A1 x).2.2/\(A1 x).2.2≤BA:=by
 unfold A1
 (repeat' split) <;> simp only[BA]at * <;> omega
structure InfOk (I:Inf) (l:Nat):Prop where
 head:0≤I.head/\I.head≤BA
 next:0≤I.next/\I.next≤l
 torn:0≤I.torn/\I.torn≤l
 nums:∀k,0≤I.nums.getD k 0/\I.nums.getD k 0≤BA
theorem S8(l:List Int)(j k:Nat)(v:Int):(l.set j v).getD k 0=if j=k/\k<l.length then v else l.getD k 0:=by
 rw[List.getD_eq_getElem?_getD,List.getElem?_set]
 by_cases c:j=k
 ·subst c
  by_cases d:j<l.length
  ·simp[d]
  ·simp[d]
 ·simp[c]
theorem P8(row:List Int)(n:Nat)(hn:n<2^60):InfOk (ofM row n) n:=by
 induction n with
 | zero=>
  refine⟨by show (0:Int)≤0/\(0:Int)≤BA;decide,by show (0:Int)≤0/\(0:Int)≤0;decide,by show (0:Int)≤0/\(0:Int)≤0;decide,fun k=>?_⟩
  show 0≤(AB 9).getD k 0/\(AB 9).getD k 0≤BA
  have:(AB 9).getD k 0=0:=by
   rw[List.getD_eq_getElem?_getD]
   unfold AB
   rw[List.getElem?_replicate];split <;> rfl
  rw[this];decide
 | succ n ih=>
  obtain⟨i1,i2,i3,i4⟩:=ih (by omega)
  obtain⟨r1,r2⟩:=Ak3 (AY row n)
  have hl:=MS row n
  unfold ofM CD
  generalize (A1 (AY row n)).1=kind
  generalize (A1 (AY row n)).2.1=slot
  generalize (A1 (AY row n)).2.2=num at *
  generalize ofM row n=I at *
  have hN:InfOk (C3 I n kind) (n+1)/\(C3 I n kind).torn≤n:=by
   unfold C3
   split
   ·exact⟨⟨i1,by dsimp only;rw[AQ (by omega)];omega,by dsimp only;omega,i4⟩,i3.2⟩
   ·exact⟨⟨i1,by omega,by omega,i4⟩,i3.2⟩
  obtain⟨⟨j1,j2,j3,j4⟩,j5⟩:=hN
  generalize C3 I n kind=J at *
  unfold EG
  split
  ·exact⟨j1,j2,by dsimp only;rw[AQ (by omega)];omega,j4⟩
  ·split
   ·exact⟨⟨r1,r2⟩,j2,j3,j4⟩
   ·split
    ·refine⟨j1,j2,j3,fun k=>?_⟩
     dsimp only
     rw[S8]
     split
     ·have:=j4 slot.toNat
      split <;> omega
     ·exact j4 k
    ·exact⟨j1,j2,j3,j4⟩
theorem AjF(row:List Int)(n:Nat)(hn:n<2^60):InfOk (X5 row n) n:=⟨(P8 row n hn).1,(P8 row n hn).2,(P8 row n hn).3,(P8 row n hn).4⟩
theorem X4{C:Cm}(ok:C.ok)(k:Nat):InfOk (pI C k) C.cfg.cells.toNat:=AjF _ _ (by have:=ok.may.cells;omega)
theorem KA{C:Cm}(ok:C.ok):InfOk (AS C) C.cfg.cells.toNat:=by
 unfold AS
 split
 ·refine⟨by decide,⟨by decide,by show (0:Int)≤_;omega⟩,⟨by decide,by show (0:Int)≤_;omega⟩,fun k=>?_⟩
  have:=(P8 [] 0 (by decide)).nums k
  exact this
 ·exact X4 ok _
section
variable {h0 h:H} {A:List Ent} {i j p r l b:Nat} {C:Cm}
theorem tV{C:Cm}(ok:C.ok):(2:Int)≤C.s.pages.length/\(2:Int)≤C.s.erases.length:=by
 have h1:=ok.fits.pages
 have h4:=ok.fits.erases
 have h2:=ok.may.area
 have h3:C.cfg.np=2+2*C.cfg.area:=rfl
 omega
theorem qO{C:Cm}(ok:C.ok):0≤GD C/\GD C≤256:=by
 have h1:=(KA ok).next
 have h2:=ok.may.cells
 have h3:=ok.may.slots
 unfold GD;(repeat' split) <;> omega
end
theorem wG{x:Nat}{v:Int}(hx:x≤8)(h1:1≤v)(h2:v≤BA):(D9 (x:Int) v).2=0:=by
 unfold D9
 rw[if_neg (by omega),if_neg (by omega),if_neg (by omega),if_neg (by omega)]
theorem Ah0{g:Int}(h1:1≤g)(h2:g≤BA):(GE g).2=0:=by
 unfold GE
 rw[if_neg (by omega),if_neg (by omega)]
theorem P5:BA=4611686018427387904:=rfl
section
variable {h0 h:H} {A:List Ent} {i j p r b:Nat} {C:Cm}
theorem AmB{Q:Int->HP}{nm nx nt nl nf:Nat}{nv fv:List Value}{x at_ t:Nat}{v:Int}(hx:x≤8)(hv1:1≤v)(hv2:v≤BA)(hat:at_<2^60)
  (hs:Sat h0 (blk nm nv::blk nx [.int .i64 (at_:Int)]::blk nt [.int .i64 (t:Int)]::blk nf fv::blk nl [.pointer (some ⟨r,0,none⟩)]::A) h) (ci:At A i (AF p C)) (cl:At A j (CE r p))
  (k:∀h',Sat h0 (blk nm nv::blk nx [.int .i64 ((at_+1:Nat):Int)]::blk nt [.int .i64 (t:Int)]::blk nf fv::blk nl [.pointer (some ⟨r,0,none⟩)]::put A i (AF p (CH C (t:Int) (at_:Int) (D9 (x:Int) v).1).1)) h'->Q (CH C (t:Int) (at_:Int) (D9 (x:Int) v).1).2 h'):
  N9 (x:Int) v ⟨nx,0,none⟩ ⟨nl,0,none⟩ ⟨nt,0,none⟩ Q h:=by
 unfold N9 cV
 simp only[List.append_nil]
 refine oH (x:Int) v hs ?_
 intro h1 hs
 have hl:=wE (x:Int) v
 rw[wG hx hv1 hv2]
 generalize (D9 (x:Int) v).1=rec at *
 intro n12 _ hn;replace hs:=Sat.new hs hn
 refine⟨Sat.can hs .z (by simp[AB]),?_⟩
 intro h2 e2
 replace hs:=Sat.wra hs .z e2 (by simp[AB,hl])
 clear e2
 simp only[put]at hs
 rw[if_neg (by simp)]
 refine⟨_,Sat.ld hs (by repeat constructor) (by rfl),?_⟩
 (refine⟨Sat.can hs (by repeat constructor) (by simp),?_⟩;intro _ e;replace hs:=Sat.wr hs (by repeat constructor) e;clear e;simp only[put,AO,List.set]at hs)
 rw[A0 (by omega)]at hs
 refine⟨_,Sat.ld hs (by repeat constructor) (by rfl),?_⟩
 refine⟨_,rfl,_,hs.ld cl.s.s.s.s.s.s rfl,?_⟩
 refine⟨_,Sat.ld hs (by repeat constructor) (by rfl),?_⟩
 refine⟨_,Sat.ld hs (by repeat constructor) (by rfl),?_⟩
 refine⟨_,hl,hs.row0 .z,_,rfl,?_⟩
 have ea:IntKind.i64.wrap (((at_+1:Nat):Int)-1)=(at_:Int):=by rw[AQ (by omega)];omega
 rw[ea]
 refine V8 hs ci.s.s.s.s.s.s (t:Int) (at_:Int) rec hl ?_
 intro h3 hs
 simp only[AV]at hs
 exact k _ hs.drop
theorem AmC{Q:Int->HP}(hs:Sat h0 A h)(ci:At A i (AF p C))(cl:At A j (CE r p))(hij:j≠i)(slot:Nat)(n:Int)(hsl:(slot:Int)≤C.cfg.slots)(hn1:1≤n)(hn2:n≤BA)(hg:(AS C).head<BA)
  (k:∀h',Sat h0 (put A i (AF p (I1 C slot n).1)) h'->Q (I1 C slot n).2 h'):
  N8 ⟨r,0,none⟩ (pI C 0).head (pI C 0).nums (pI C 0).next (pI C 0).blank (pI C 0).torn (pI C 1).head (pI C 1).nums (pI C 1).next (pI C 1).blank (pI C 1).torn (AU C) (slot:Int) n Q h:=by
 unfold N8 cU
 try simp only[AI,Nat.zero_add,List.append_nil]
 have ok:=CW hs ci
 have hslots:=ok.may.slots
 have l0:=FX C 0
 have l1:=FX C 1
 have hc2:=HY C
 have ht:=VR C
 have iok:=KA ok
 have ilen:=XH C
 intro n23 _ hn;replace hs:=Sat.new hs hn
 intro n26 _ hn;replace hs:=Sat.new hs hn
 replace hs:Sat h0 (blk n26 (A8 (pI C 0) (pI C 1) (AU C))::blk n23 [.pointer (some ⟨r,0,none⟩)]::A) _:=hs
 have L:=hs.fnd .z l0 l1
 refine⟨_,L.a0,_,‹_›,L.a1,_,L.a10,_,L.a11,_,L.a12,_,L.a13,_,‹_›,L.a14,_,L.a23,_,L.a24,_,L.a25,_,L.a26,?_⟩
 refine kU l0 l1 hs ?_
 intro h1 hs
 rw[kX]
 intro n42 _ hn;replace hs:=Sat.new hs hn
 (refine⟨Sat.can hs (by repeat constructor) (by simp),?_⟩;intro _ e;replace hs:=Sat.wr hs (by repeat constructor) e;clear e;simp only[put,AO,List.set]at hs)
 obtain⟨t,htd⟩:∃t,t=BF C:=⟨_,rfl⟩
 obtain⟨nums,hnums⟩:∃nums,nums=(AS C).nums.set slot n:=⟨_,rfl⟩
 have hnb:∀x,0≤nums.getD x 0/\nums.getD x 0≤BA:=by
  intro x
  rw[hnums,S8]
  split
  ·omega
  ·exact iok.nums x
 have hnl:nums.length=9:=by rw[hnums,List.length_set,ilen]
 have kk:I1 C slot n=if (pI C t).blank=true then E3 (AS C).head (t:Int) nums (C.cfg.slots+1).toNat C else if (CP C (t:Int)).2≠0 then CP C (t:Int) else E3 (AS C).head (t:Int) nums (C.cfg.slots+1).toNat (CP C (t:Int)).1:=by rw[htd,hnums];rfl
 rw[kk]at k
 rw[←htd]at hs ht
 clear kk
 intro J47 hJ47
 -- behind the GY
 have way:∀(D:Cm) h',D.cfg=C.cfg->Sat h0 (blk n42 [.int .i64 (t:Int)]::blk n26 (A8 (pI C 0) (pI C 1) (AU C))::blk n23 [.pointer (some ⟨r,0,none⟩)]::put A i (AF p D)) h'->
   (∀h',Sat h0 (put A i (AF p (E3 (AS C).head (t:Int) nums (C.cfg.slots+1).toNat D).1)) h'->Q (E3 (AS C).head (t:Int) nums (C.cfg.slots+1).toNat D).2 h')->J47 [] h':=by
  intro D h2 hcf hs k
  apply hJ47
  clear hJ47 J47
  have ci2:=ci.put (AF p D)
  have cl2:=cl.put_ne hij (AF p D)
  have pp:∀E:Cm,put (put A i (AF p D)) i (AF p E)=put A i (AF p E):=fun E=>DU _ _ _ _
  generalize put A i (AF p D)=A2 at *
  intro n49 _ hn;replace hs:=Sat.new hs hn
  (refine⟨Sat.can hs (by repeat constructor) (by simp),?_⟩;intro _ e;replace hs:=Sat.wr hs (by repeat constructor) e;clear e;simp only[put,AO,List.set]at hs)
  have L:=hs.fnd zs2 l0 l1
  refine⟨_,L.a0,_,‹_›,L.a1,_,L.a10,_,L.a11,_,L.a12,_,L.a13,_,‹_›,L.a14,_,L.a23,_,L.a24,_,L.a25,_,L.a26,?_⟩
  refine MF l0 l1 (by omega) hs ?_
  intro h3 hs
  rw[←MK]
  intro n71 _ hn;replace hs:=Sat.new hs hn
  refine⟨Sat.can hs .z (by simp[AB]),?_⟩
  intro h4 e4
  replace hs:=Sat.wra hs .z e4 (by simp[AB,ilen])
  clear e4
  simp only[put]at hs
  refine⟨by omega,by omega,?_⟩
  rw[Int.toNat_natCast,Nat.mul_one]
  refine⟨Sat.can hs .z (by simp[ilen];omega),?_⟩
  intro h5 e5
  replace hs:=Sat.wr hs .z e5
  clear e5
  have e6:AO (AA .i64 (AS C).nums) slot [.int .i64 n]=AA .i64 nums:=by
   show (AA .i64 (AS C).nums).set slot (.int .i64 n)=_
   rw[G1,hnums]
  rw[e6]at hs
  simp only[put]at hs
  refine⟨_,hs.ld zs4 rfl,_,rfl,_,hs.ld cl2.s.s.s.s.s rfl,_,rfl,?_⟩
  refine CO hs ci2.s.s.s.s.s ?_
  intro h6 hs
  rw[hcf]
  intro J90 hJ90
  obtain⟨m,hm⟩:∃m,m=(C.cfg.slots+1).toNat:=⟨_,rfl⟩
  rw[←hm]at k
  have hm9:m≤9:=by omega
  have em:IntKind.i64.wrap (C.cfg.slots+1)=(m:Int):=by rw[AQ (by omega)];omega
  rw[em]at hJ90
  obtain⟨E,hE⟩:∃E,E=EJ (t:Int) nums m 0 1 D:=⟨_,rfl⟩
  have kE:E3 (AS C).head (t:Int) nums m D=if E.2≠0 then E else CH E.1 (t:Int) 0 (GE ((AS C).head+1)).1:=by unfold E3;rw[←hE]
  rw[kE]at k
  clear kE
  have hs1:∃(F:Cm) (at_:Nat),at_≤0+1/\Sat h0 (blk n71 (AA .i64 nums)::blk n49 [.int .i64 (at_:Int)]::blk n42 [.int .i64 (t:Int)]::blk n26 (A8 (pI C 0) (pI C 1) (AU C))::blk n23 [.pointer (some ⟨r,0,none⟩)]::put A2 i (AF p F)) h6/\EJ (t:Int) nums (m-0) 0 at_ F=E:=
   ⟨D,1,by omega,by rw[ci2.put_self];exact hs,hE.symm⟩
  clear hs
  refine BS m (fun x h=>∃(F:Cm) (at_:Nat),at_≤x+1/\Sat h0 (blk n71 (AA .i64 nums)::blk n49 [.int .i64 (at_:Int)]::blk n42 [.int .i64 (t:Int)]::blk n26 (A8 (pI C 0) (pI C 1) (AU C))::blk n23 [.pointer (some ⟨r,0,none⟩)]::put A2 i (AF p F)) h/\EJ (t:Int) nums (m-x) x at_ F=E) ?_ ?_ 0 _ (by omega) hs1
  ·rintro x h7 hx ⟨F,at_,hat,hs,hT⟩ hk
   apply hJ90
   rw[AD,if_pos (by simp;omega)]
   have g:∀h',Sat h0 (blk n71 (AA .i64 nums)::blk n49 [.int .i64 (at_:Int)]::blk n42 [.int .i64 (t:Int)]::blk n26 (A8 (pI C 0) (pI C 1) (AU C))::blk n23 [.pointer (some ⟨r,0,none⟩)]::put A2 i (AF p F)) h'->hc h' ⟨n71,x,none⟩=some (.int .i64 (nums.getD x 0)):=fun h' hs'=>hs'.ld .z (by
    rw[BR,List.getElem?_eq_getElem (by omega)];simp[List.getD,List.getElem?_eq_getElem (show x<nums.length by omega)])
   obtain⟨m',hm'⟩:∃m',m-x=m'+1:=⟨m-x-1,by omega⟩
   rw[hm']at hT
   unfold EJ at hT
   rw[A0 (by omega),Int.toNat_natCast,Nat.mul_one]
   refine⟨by omega,by omega,_,g _ hs,?_⟩
   by_cases gz:nums.getD x 0=0
   ·rw[if_pos gz]at hT
    rw[if_pos (by rw[gz];rfl)]
    exact hk _ ⟨F,at_,by omega,hs,by rw[show m-(x+1)=m' by omega];exact hT⟩
   rw[if_neg gz]at hT
   rw[if_neg (by rw[beq_iff_eq];exact gz)]
   refine⟨by omega,by omega,_,g _ hs,?_⟩
   have hb:=hnb x
   refine AmB (by omega) (by omega) hb.2 (by omega) hs (ci2.put _) (cl2.put_ne hij _) ?_
   intro h8 hs
   rw[DU]at hs
   generalize CH F (t:Int) (at_:Int) (D9 (x:Int) (nums.getD x 0)).1=X at *
   by_cases ge:X.2=0
   ·rw[if_neg (by simpa using ge)]at hT
    rw[if_neg (by simpa using ge)]
    exact hk _ ⟨X.1,at_+1,by omega,hs,by rw[show m-(x+1)=m' by omega];exact hT⟩
   ·rw[if_pos (by simpa using ge)]at hT
    rw[if_pos (by simpa using ge)]
    rw[←hT,if_pos ge]at k
    refine k _ ?_
    rw[←pp]
    exact hs.drop.drop.drop.drop.drop
  ·rintro h7 ⟨F,at_,hat,hs,hT⟩
   apply hJ90
   rw[AD,if_neg (by simp)]
   rw[Nat.sub_self]at hT
   unfold EJ at hT
   rw[←hT,if_neg (by simp)]at k
   dsimp only at k
   have L:=hs.fnd zs3 l0 l1
   refine⟨_,L.a0,_,‹_›,L.a1,_,L.a10,_,L.a11,_,L.a12,_,L.a13,_,‹_›,L.a14,_,L.a23,_,L.a24,_,L.a25,_,L.a26,?_⟩
   refine MF l0 l1 (by omega) hs ?_
   intro h8 hs
   rw[←MK]
   have ih:=iok.head
   have hmv:=P5
   rw[AQ (by omega)]
   refine zC ((AS C).head+1) hs ?_
   intro h9 hs
   rw[Ah0 (by omega) (by omega)]
   have hhl:=AgW ((AS C).head+1)
   generalize (GE ((AS C).head+1)).1=rec at *
   intro n117 _ hn;replace hs:=Sat.new hs hn
   refine⟨Sat.can hs .z (by simp[AB]),?_⟩
   intro h10 e10
   replace hs:=Sat.wra hs .z e10 (by simp[AB,hhl])
   clear e10
   simp only[put]at hs
   rw[if_neg (by simp)]
   refine⟨_,hs.ld zs5 rfl,_,rfl,_,hs.ld (cl2.put_ne hij (AF p F)).s.s.s.s.s.s rfl,?_⟩
   refine⟨_,Sat.ld hs (by repeat constructor) (by rfl),?_⟩
   refine⟨_,hhl,hs.row0 .z,_,rfl,?_⟩
   refine V8 hs (ci2.put (AF p F)).s.s.s.s.s.s (t:Int) 0 rec hhl ?_
   intro h11 hs
   simp only[AV,DU]at hs
   refine k _ ?_
   rw[←pp]
   exact hs.drop.drop.drop.drop.drop.drop
 have hbl:=pE hs zs1 l0 l1 ht
 rw[htd,tZ,←htd]at hbl
 refine⟨_,hs.ld .z rfl,by omega,by omega,_,hbl,?_⟩
 by_cases g:(pI C t).blank=true
 ·rw[if_pos g]at k
  rw[if_neg (by rw[g];decide)]
  refine way C _ rfl ?_ k
  rw[ci.put_self]
  exact hs
 ·rw[if_neg g]at k
  rw[if_pos (by simpa using g)]
  refine⟨_,hs.ld zs2 rfl,_,rfl,_,hs.ld cl.s.s.s rfl,?_⟩
  refine⟨_,Sat.ld hs (by repeat constructor) (by rfl),?_⟩
  refine⟨_,rfl,?_⟩
  refine lV hs ci.s.s.s (t:Int) ?_
  intro h2 hs
  simp only[AV]at hs
  have hcf:=W0 C (t:Int)
  generalize CP C (t:Int)=X at *
  by_cases ge:X.2=0
  ·rw[if_neg (by simpa using ge)]at k
   rw[if_neg (by simpa using ge)]
   exact way X.1 _ hcf hs k
  ·rw[if_pos (by simpa using ge)]at k
   rw[if_pos (by simpa using ge)]
   exact k _ hs.drop.drop.drop
theorem l6{Q:Int->HP}(hs:Sat h0 A h)(ci:At A i (AF p C))(cl:At A j (CE r p))(hij:j≠i)(slot n:Int)
  (k:∀h',Sat h0 (put A i (AF p (EF C slot n).1)) h'->Q (EF C slot n).2 h'):JH ⟨r,0,none⟩ slot n Q h:=by
 unfold JH cO
 try simp only[AI,Nat.zero_add,List.append_nil]
 have ok:=CW hs ci
 have hslots:=ok.may.slots
 refine XT hs ci cl ?_
 intro h1 hs
 obtain⟨lp,lq⟩:=XU C
 intro n26 _ hn;replace hs:=Sat.new hs hn
 refine⟨Sat.can hs .z (by decide),?_⟩
 intro h2 e
 replace hs:=Sat.wra hs .z e (by rw[FH lp lq];rfl)
 clear e
 replace hs:Sat h0 (blk n26 (A8 (BK C).1.p (BK C).1.q (BK C).1.n)::A) h2:=hs
 unfold EF at k
 by_cases ho:C.out=true
 ·have e:BK C=(⟨inf0,inf0,0⟩,8):=by unfold BK;rw[if_pos ho]
  rw[if_pos ho]at k
  rw[e,if_pos (by simp)]
  exact k _ (by rw[ci.put_self];exact hs.drop)
 have ho':C.out=false:=by simpa using ho
 have e:BK C=(⟨pI C 0,pI C 1,AU C⟩,0):=by unfold BK;rw[if_neg ho]
 rw[if_neg ho]at k
 rw[e]at hs lp lq ⊢
 dsimp only at hs lp lq ⊢
 rw[if_neg (by simp)]
 intro J31 hJ31
 have iok:=KA ok
 have ilen:=XH C
 have hc2:=HY C
 have way:∀bb:Bool,(bb=true↔¬(0≤slot/\slot≤C.cfg.slots/\1≤n/\n≤BA))->∀h3,Sat h0 (blk n26 (A8 (pI C 0) (pI C 1) (AU C))::A) h3->J31 [.dv (.one (.bool bb))] h3:=by
  intro bb hbb h3 hs
  apply hJ31
  clear hJ31 J31
  by_cases gb:bb=true
  ·rw[if_pos (hbb.1 gb)]at k
   rw[if_pos gb]
   exact k _ (by rw[ci.put_self];exact hs.drop)
  have g:0≤slot/\slot≤C.cfg.slots/\1≤n/\n≤BA:=Classical.byContradiction fun y=>gb (hbb.2 y)
  rw[if_neg (fun y=>y g)]at k
  rw[if_neg gb]
  obtain⟨g1,g2,g3,g4⟩:=g
  have L:=hs.fnd .z lp lq
  refine⟨_,L.a0,_,‹_›,L.a1,_,L.a10,_,L.a11,_,L.a12,_,L.a13,_,‹_›,L.a14,_,L.a23,_,L.a24,_,L.a25,_,L.a26,?_⟩
  refine MF lp lq (by omega) hs ?_
  intro h4 hs
  rw[←MK]
  refine⟨by omega,by omega,?_⟩
  by_cases g5:n≤(AS C).nums.getD slot.toNat 0
  ·rw[if_pos g5]at k
   rw[BQ,if_pos (by rw[decide_eq_true g5])]
   exact k _ (by rw[ci.put_self];exact hs.drop)
  rw[if_neg g5]at k
  rw[BQ,if_neg (by rw[decide_eq_false g5];decide)]
  have L:=hs.fnd .z lp lq
  refine⟨_,L.a0,_,‹_›,L.a1,_,L.a10,_,L.a11,_,L.a12,_,L.a13,_,‹_›,L.a14,_,L.a23,_,L.a24,_,L.a25,_,L.a26,?_⟩
  refine MF lp lq (by omega) hs ?_
  intro h5 hs
  rw[←MK]
  intro n68 _ hn;replace hs:=Sat.new hs hn
  refine⟨Sat.can hs .z (by decide),?_⟩
  intro h6 e6
  replace hs:=Sat.wra hs .z e6 ((HQ ilen).trans rfl)
  clear e6
  replace hs:Sat h0 (blk n68 (D5 (AS C))::blk n26 (A8 (pI C 0) (pI C 1) (AU C))::A) h6:=hs
  intro J73 hJ73
  have way2:∀bb:Bool,(bb=true↔(0≤AU C/\(AS C).next<C.cfg.cells))->∀h7,Sat h0 (blk n68 (D5 (AS C))::blk n26 (A8 (pI C 0) (pI C 1) (AU C))::A) h7->J73 [.dv (.one (.bool bb))] h7:=by
   intro bb hbb h7 hs
   apply hJ73
   clear hJ73 J73
   by_cases gb:bb=true
   ·rw[if_pos (hbb.1 gb)]at k
    rw[if_pos gb]
    obtain⟨sl,rfl⟩:=Int.eq_ofNat_of_zero_le g1
    refine oH (sl:Int) n hs ?_
    intro h8 hs
    have hvl:=wE (sl:Int) n
    rw[wG (by omega) g3 g4]
    generalize (D9 (sl:Int) n).1=rec at *
    intro n79 _ hn;replace hs:=Sat.new hs hn
    refine⟨Sat.can hs .z (by simp[AB]),?_⟩
    intro h9 e9
    replace hs:=Sat.wra hs .z e9 (by simp[AB,hvl])
    clear e9
    simp only[put]at hs
    rw[if_neg (by simp)]
    have L:=hs.fnd zs2 lp lq
    obtain⟨L0,L1,L10,L11,L12⟩:=hs.infAt zs1 ilen
    refine⟨_,hs.ld cl.s.s.s rfl,_,L.a26,_,L10,_,hvl,hs.row0 .z,_,rfl,?_⟩
    refine V8 hs ci.s.s.s (AU C) (AS C).next rec hvl ?_
    intro h10 hs
    simp only[AV]at hs
    exact k _ hs.drop.drop.drop
   rw[if_neg (fun y=>gb (hbb.2 y))]at k
   rw[if_neg gb]
   have L:=hs.fnd zs1 lp lq
   refine⟨_,L.a0,_,‹_›,L.a1,_,L.a10,_,L.a11,_,L.a12,_,L.a13,_,‹_›,L.a14,_,L.a23,_,L.a24,_,L.a25,_,L.a26,?_⟩
   refine wP hs ci.s.s cl.s.s ho' ?_
   intro h8 hs
   by_cases gw:FO C=true
   ·rw[if_pos gw]at k
    rw[if_pos gw]
    exact k _ (by rw[ci.put_self];exact hs.drop.drop)
   rw[if_neg gw]at k
   rw[if_neg gw]
   have hgm:(AS C).head<BA:=by
    have:¬BA≤(AS C).head:=fun y=>gw (by unfold FO;rw[decide_eq_true y,Bool.or_true])
    omega
   have L:=hs.fnd zs1 lp lq
   refine⟨_,L.a0,_,‹_›,L.a1,_,L.a10,_,L.a11,_,L.a12,_,L.a13,_,‹_›,L.a14,_,L.a23,_,L.a24,_,L.a25,_,L.a26,?_⟩
   obtain⟨sl,rfl⟩:=Int.eq_ofNat_of_zero_le g1
   refine AmC hs ci.s.s cl.s.s (by omega) sl n g2 g3 g4 hgm ?_
   intro h9 hs
   simp only[AV]at hs
   exact k _ hs.drop.drop
  have L:=hs.fnd zs1 lp lq
  refine⟨_,L.a26,?_⟩
  by_cases gp:0≤AU C
  ·rw[BQ,if_pos (by simpa using gp)]
   obtain⟨L0,L1,L10,L11,L12⟩:=hs.infAt .z ilen
   refine⟨_,L10,_,hs.ld cl.s.s rfl,_,rfl,?_⟩
   refine CO hs ci.s.s ?_
   intro h7 hs
   obtain⟨M0,M1,M10,M11,M12⟩:=hs.infAt .z ilen
   refine⟨AH M10,?_⟩
   rw[AD]
   exact way2 _ (by simp[gp]) _ hs
  ·rw[BQ,if_neg (by simpa using gp)]
   exact way2 false (by simp[gp]) _ hs
 refine vI hs ci.s cl.s slot ?_
 intro h3 hs
 by_cases gs:0≤slot/\slot≤C.cfg.slots
 case neg=>
  rw[if_pos (by rw[decide_eq_false gs];rfl)]
  exact way true (by constructor;intro _ y;exact gs ⟨y.1,y.2.1⟩;intro _;rfl) _ hs
 rw[if_neg (by rw[decide_eq_true gs];decide)]
 by_cases gn:n<1
 ·rw[AD,if_pos (by simpa using gn)]
  exact way true (by constructor;intro _ y;omega;intro _;rfl) _ hs
 rw[AD,if_neg (by simpa using gn)]
 intro i135 hi
 subst hi
 rw[AD]
 have hmv:=P5
 refine way _ ?_ _ hs
 rw[decide_eq_true_iff]
 constructor
 ·intro y z;omega
 ·intro y
  exact Classical.byContradiction fun z=>y ⟨gs.1,gs.2,by omega,by omega⟩
end
def ED(B cells:Nat)(D:Cm)(x:Nat):List Int:=AY (D.pg (B+x / cells)) (x % cells)
theorem AeH{B cells i:Nat}{C D:Cm}{c:List Int}(hc:0<cells)(h1:∀x,x≠B+i / cells->D.pg x=C.pg x)(h2:D.pg (B+i / cells)=CK (C.pg (B+i / cells)) (i % cells) c)(hl:(C.pg (B+i / cells)).length=cells*32)(hcl:c.length=32):
  ED B cells D i=c/\(∀x,x≠i->ED B cells D x=ED B cells C x)/\(D.pg (B+i / cells)).length=cells*32:=by
 have hm:i % cells<cells:=Nat.mod_lt _ hc
 have hb:(i % cells+1)*32≤(C.pg (B+i / cells)).length:=by rw[hl];exact Nat.mul_le_mul_right 32 hm
 refine⟨?_,?_,?_⟩
 ·unfold ED
  rw[h2,VK hb hcl]
 ·intro x hx
  unfold ED
  by_cases e:x / cells=i / cells
  ·rw[e,h2]
   have hmx:x % cells<cells:=Nat.mod_lt _ hc
   refine VJ hb (by rw[hl];exact Nat.mul_le_mul_right 32 hmx) hcl ?_
   intro e2
   have a1:=Nat.div_add_mod x cells
   have a2:=Nat.div_add_mod i cells
   rw[e,e2]at a1
   omega
  ·rw[h1 _ (by omega)]
 ·rw[h2,VI hb hcl,hl]
theorem uA{X:List Int}(hX:X.length=32)(hb:AW X):CS blankCell X (fun _=>255)=X:=by
 have hcl:(CS blankCell X fun _=>255).length=32:=VD _ _ _ (by simp[blankCell])
 refine ME (hcl.trans hX.symm) fun i hi=>?_
 rw[hcl]at hi
 rw[j7 _ _ _ hi]
 exact t9 _ (MG hb _)
theorem AeF{bs:List Int}(hb:AW bs)(n:Nat):AW (DC bs n):=by
 unfold DC
 refine Y4 fun k=>?_
 split
 ·exact MG hb _
 ·exact⟨by decide,by decide⟩
def EN(n k x:Nat):Prop:=(1≤x/\x≤k/\x<n)∨(k=n/\x=0/\0<n)
instance (n k x:Nat):Decidable (EN n k x):=by unfold EN;infer_instance
theorem AfD{n k:Nat}(hk:k<n)(x:Nat):EN n (k+1) x↔(EN n k x∨x=(k+1) % n):=by
 unfold EN
 by_cases c:k+1=n
 ·rw[c,Nat.mod_self];omega
 ·rw[Nat.mod_eq_of_lt (by omega)];omega
theorem AiW{n k:Nat}(hk:k<n):¬EN n k ((k+1) % n):=by
 unfold EN
 by_cases c:k+1=n
 ·rw[c,Nat.mod_self];omega
 ·rw[Nat.mod_eq_of_lt (by omega)];omega
structure Pr (B area cells n k:Nat) (bs:List Int) (C D:Cm) (e:Int):Prop where
 cfg:D.cfg=C.cfg
 bl:D.s.blown=C.s.blown
 np:D.s.pages.length=C.s.pages.length
 es:D.s.erases=C.s.erases
 pg:∀x,x<B∨B+area≤x->D.pg x=C.pg x
 good:e=0->D.acts=C.acts+(n-k:Nat)/\∀x,x<area*cells->ED B cells D x=if EN n n x then DC bs x else ffs
 bad:e≠0->e=8/\∃t,k<t/\t≤n/\D.acts=C.acts+(t-k:Nat)/\∀x,x<area*cells->x≠t % n->ED B cells D x=if EN n (t-1) x then DC bs x else ffs
theorem qZ(l:List Int)(m:Nat):∀k,(∀i,i<k->l.getD i 0=((m / 2^(8*i) % 256:Nat):Int))->b64 (D4 l k)=BitVec.ofNat 64 (m % 2^(8*k))
 | 0,_=>by
  show b64 0=_
  rw[show m % 2^(8*0)=0 by simp[Nat.mod_one]];rfl
 | k+1,h=>by
  have ih:=qZ l m k fun i hi=>h i (by omega)
  unfold D4
  have hb:m / 2^(8*k) % 256<256:=Nat.mod_lt _ (by decide)
  rw[tW,ih,lA,h k (by omega),AQ (by omega)]
  generalize hx:m / 2^(8*k) % 256=x at *
  have e1:b64 ((x:Int)*2^(8*k))=BitVec.ofNat 64 (x*2^(8*k)):=by
   have:((x:Int)*2^(8*k))=((x*2^(8*k):Nat):Int):=by push_cast;rfl
   rw[this]
   exact BitVec.ofInt_natCast _ _
  have e2:m % 2^(8*(k+1))=2^(8*k)*x+m % 2^(8*k):=by
   rw[show 8*(k+1)=8*k+8 by omega,Nat.pow_add,Nat.mod_mul,←hx,Nat.add_comm]
  have hlt:m % 2^(8*k)<2^(8*k):=Nat.mod_lt _ (Nat.pow_pos (by decide))
  rw[e1,e2,Nat.two_pow_add_eq_or_of_lt hlt,BitVec.ofNat_or,BitVec.or_comm,Nat.mul_comm x]
theorem AgK{l:List Int}{n:Int}(h0:0≤n)(h1:n≤BA)(h:∀i,i<8->l.getD i 0=GV (IntKind.u64.wrap n) i):D4 l 8=n:=by
 have hm:=P5
 obtain⟨m,rfl⟩:=Int.eq_ofNat_of_zero_le h0
 have hw:IntKind.u64.wrap (m:Int)=(m:Int):=by rw[wrap_u64'];omega
 have hb:=qZ l m 8 fun i hi=>by
  rw[h i hi,hw]
  unfold GV
  have e1:((m:Int)).fdiv (2^(8*i))=((m / 2^(8*i):Nat):Int):=by
   rw[Int.fdiv_eq_ediv_of_nonneg _ (Int.le_of_lt (Int.pow_pos (by decide)))]
   push_cast;rfl
  rw[e1,IntKind.wrap_u8]
  omega
 rw[Nat.mod_eq_of_lt (show m<2^(8*8) by simp only[Nat.reduceMul,Nat.reducePow];omega)]at hb
 have:b64 (D4 l 8)=b64 (m:Int):=hb.trans (BitVec.ofInt_natCast _ _).symm
 have:=wS this
 rw[q9,AQ (by omega)]at this
 exact this
theorem s7(kind slot:Int){n:Int}(h0:0≤n)(h1:n≤BA):D4 (((BD kind slot n).drop 4).take 8) 8=n:=by
 refine AgK h0 h1 fun i hi=>?_
 have e1:(((BD kind slot n).drop 4).take 8).getD i 0=(BD kind slot n).getD (4+i) 0:=by
  simp only[List.getD,List.getElem?_take_of_lt hi,List.getElem?_drop]
 rw[e1,(U2 kind slot n (4+i) (by omega)).1]
 unfold EB
 rw[if_neg (by omega)]
 unfold EL
 rw[if_neg (by omega),if_neg (by omega),if_neg (by omega),if_pos (by omega),show 4+i-4=i by omega]
theorem XN(kind slot n:Int):(BD kind slot n).getD 0 0=kind:=by
 rw[(U2 kind slot n 0 (by decide)).1];rfl
theorem AhS(kind slot n:Int):(BD kind slot n).getD 1 0=IntKind.u8.wrap slot:=by
 rw[(U2 kind slot n 1 (by decide)).1];rfl
theorem qF:ffs.getD 0 0=255:=by decide
theorem uP{slot n:Int}(s0:0≤slot)(s1:slot≤8)(h0:1≤n)(h1:n≤BA):A1 (BD 2 slot n)=(2,slot,n):=by
 unfold A1
 have e:=s7 2 slot (by omega) h1
 have e0:=XN 2 slot n
 have e1:=AhS 2 slot n
 rw[lC (by omega)]at e1
 rw[e,e0,e1]
 rw[if_neg (by intro y;have:=XN 2 slot n;rw[y,qF]at this;exact absurd this (by decide)),if_neg (by omega),if_neg (by omega),if_neg (by intro y;exact absurd y.1 (by decide)),if_pos ⟨rfl,s1,rfl⟩]
theorem Ak6{n:Int}(h0:1≤n)(h1:n≤BA):A1 (BD 1 0 n)=(1,0,n):=by
 unfold A1
 have e:=s7 1 0 (by omega) h1
 have e0:=XN 1 0 n
 rw[e,e0]
 rw[if_neg (by intro y;have:=XN 1 0 n;rw[y,qF]at this;exact absurd this (by decide)),if_neg (by omega),if_neg (by omega),if_pos ⟨rfl,rfl⟩]
theorem ffs_blank:ffs=blankCell:=by decide
theorem Ak5:A1 blankCell=(0,0,0):=by unfold A1;rw[if_pos ffs_blank.symm]
theorem Ak7{x:List Int}(h:(A1 x).1=0):x=blankCell:=by
 rw[←ffs_blank]
 unfold A1 at h
 by_cases e:x=ffs
 ·exact e
 ·rw[if_neg e]at h
  (repeat' split at h) <;> exact absurd h (by simp)
abbrev rk(row:List Int)(k:Nat):Int×Int×Int:=A1 (AY row k)
theorem tR{r z:List Int}:∀{n:Nat},(∀k,k<n->rk r k=rk z k)->ofM r n=ofM z n
 | 0,_=>rfl
 | n+1,h=>by
  have:=h n (by omega)
  unfold rk at this
  unfold ofM
  rw[tR (n:=n) fun k hk=>h k (by omega),this]
theorem Ai0(I:Inf)(n slot num:Int):CD I n 0 slot num=I:=by
 unfold CD C3 EG
 rw[if_neg (by simp),if_neg (by simp),if_neg (by simp),if_neg (by simp)]
theorem X2{r:List Int}{m:Nat}:∀{n:Nat},m≤n->(∀k,m≤k->k<n->(rk r k).1=0)->ofM r n=ofM r m
 | 0,h,_=>by rw[show m=0 by omega]
 | n+1,h,hz=>by
  by_cases e:m=n+1
  ·rw[e]
  ·have:=hz n (by omega) (by omega)
   unfold rk at this
   show CD _ _ _ _ _=_
   rw[this,Ai0,X2 (n:=n) (by omega) fun k h1 h2=>hz k h1 (by omega)]
theorem jX{r:List Int}:∀{n:Nat},n<2^60->∀k:Nat,(ofM r n).next≤(k:Int)->k<n->(rk r k).1=0
 | 0,_,k,_,h=>by omega
 | n+1,hn,k,h,hk=>by
  have hb:=(P8 r n (by omega)).next
  unfold ofM at h
  unfold CD at h
  rw[jI]at h
  unfold C3 at h
  by_cases c:(A1 (AY r n)).1=0
  ·rw[if_neg (by simpa using c)]at h
   by_cases e:k=n
   ·rw[e];exact c
   ·exact jX (n:=n) (by omega) k h (by omega)
  ·rw[if_pos c]at h
   dsimp only at h
   rw[AQ (by omega)]at h
   omega
theorem Aj2{r z:List Int}{l q:Nat}(hq:q<l)(he:∀k,k<l->k≠q->rk z k=rk r k)(hz:∀k,q≤k->k<l->(rk r k).1=0):
  ofM z l=CD (ofM r l) q (rk z q).1 (rk z q).2.1 (rk z q).2.2:=by
 have e1:ofM z l=ofM z (q+1):=X2 (by omega) fun k h1 h2=>by rw[he k h2 (by omega)];exact hz k (by omega) h2
 have e2:ofM r l=ofM r q:=X2 (by omega) hz
 rw[e1,e2]
 show CD (ofM z q) _ _ _ _=_
 rw[tR (n:=q) fun k hk=>he k (by omega) (by omega)]
theorem tS{r:List Int}:∀{n:Nat},1≤n->(ofM r n).head=if (rk r 0).1=1 then (rk r 0).2.2 else 0
 | 0,h=>by omega
 | 1,_=>by
  show (CD inf0 0 (rk r 0).1 (rk r 0).2.1 (rk r 0).2.2).head=_
  generalize rk r 0=x
  unfold CD
  have e2:(C3 inf0 0 x.1).head=0:=by unfold C3;split <;> rfl
  generalize C3 inf0 0 x.1=J at *
  unfold EG
  by_cases c:x.1=3
  ·rw[if_pos c,if_neg (by omega)];exact e2
  rw[if_neg c]
  by_cases d:x.1=1
  ·rw[if_pos ⟨d,rfl⟩,if_pos d]
  ·rw[if_neg (fun y=>d y.1),if_neg (fun y=>absurd y.2 (by decide)),if_neg d]
   exact e2
 | n+2,_=>by
  rw[←tS (n:=n+1) (by omega)]
  show (CD (ofM r (n+1)) ((n+1:Nat):Int) _ _ _).head=_
  exact s8 _ _ _ _ _ (by omega)
theorem Ai2(I J:Inf)(h:I.nums=J.nums)(n kind slot num:Int):(CD I n kind slot num).nums=(CD J n kind slot num).nums:=by
 unfold CD
 have h2:(C3 I n kind).nums=(C3 J n kind).nums:=by rw[P6,P6,h]
 generalize C3 I n kind=I at *
 generalize C3 J n kind=J at *
 unfold EG
 by_cases c:kind=3
 ·rw[if_pos c,if_pos c];exact h2
 rw[if_neg c,if_neg c]
 by_cases d:kind=1/\n=0
 ·rw[if_pos d,if_pos d];exact h2
 rw[if_neg d,if_neg d]
 by_cases e:kind=2/\0<n
 ·rw[if_pos e,if_pos e,h2]
 ·rw[if_neg e,if_neg e];exact h2
theorem tB(I:Inf)(kind slot num:Int):(CD I 0 kind slot num).nums=I.nums:=by
 unfold CD
 have h2:=P6 I 0 kind
 generalize C3 I 0 kind=J at *
 unfold EG
 rw[←h2]
 by_cases c:kind=3
 ·rw[if_pos c]
 rw[if_neg c]
 by_cases d:kind=1
 ·rw[if_pos ⟨d,rfl⟩]
 ·rw[if_neg (fun y=>d y.1),if_neg (fun y=>absurd y.2 (by decide))]
theorem tT{r z:List Int}:∀{n:Nat},(∀k,1≤k->k<n->rk r k=rk z k)->(ofM r n).nums=(ofM z n).nums
 | 0,_=>rfl
 | n+1,h=>by
  have ih:=tT (n:=n) fun k h1 h2=>h k h1 (by omega)
  show (CD (ofM r n) _ (rk r n).1 (rk r n).2.1 (rk r n).2.2).nums=(CD (ofM z n) _ (rk z n).1 (rk z n).2.1 (rk z n).2.2).nums
  by_cases e:n=0
  ·subst e
   rw[show ((0:Nat):Int)=0 from rfl,tB,tB,ih]
  ·rw[h n (by omega) (by omega)]
   exact Ai2 _ _ ih _ _ _ _
theorem Ai4(I:Inf){q:Int}(hq:0<q)(slot num:Int):(CD I q 2 slot num).nums=I.nums.set slot.toNat (if num > I.nums.getD slot.toNat 0 then num else I.nums.getD slot.toNat 0):=by
 unfold CD
 have h2:=P6 I q 2
 generalize C3 I q 2=J at *
 unfold EG
 rw[if_neg (by decide),if_neg (fun y=>absurd y.1 (by decide)),if_pos ⟨rfl,hq⟩,h2]
def CU(u:Bool)(C:Cm):Prop:=
 match u with
 | true=>C.left<0
 | false=>∀x,x<2->FB (C.pg x) C.cfg.cells.toNat
theorem WE{C:Cm}(h:C.left<0):C.act.left<0:=by
 unfold Cm.act
 rw[if_pos (by omega)]
 show (if C.left-1 > -1 then C.left-1 else (-1:Int))<0
 rw[if_neg (by omega)]
 decide
theorem AjR{u:Bool}{C:Cm}(ok:C.ok)(ho:C.out=false){t q:Nat}(ht:t<2)(hq:q<C.cfg.cells.toNat){kind slot n:Int}(hk:A4 kind)(snd:CU u C)(hbl:(rk (C.pg t) q).1=0):
  ∃D:Cm,CH C (t:Int) (q:Int) (BD kind slot n)=(D,CL C)/\D.ok/\D.cfg=C.cfg/\D.s.erases=C.s.erases/\D.acts=w64 (C.acts+1)/\(∀x,x≠t->D.pg x=C.pg x)/\CU u D/\
   (∀k,k<C.cfg.cells.toNat->k≠q->rk (D.pg t) k=rk (C.pg t) k)/\((rk (D.pg t) q).1=0∨(rk (D.pg t) q).1=3∨rk (D.pg t) q=A1 (BD kind slot n))/\
   (C.left≠0->D.out=false/\rk (D.pg t) q=A1 (BD kind slot n))/\(C.left=0->D.out=true):=by
 obtain⟨hp2,he2⟩:=tV ok
 have hj:t<C.s.pages.length:=by omega
 have epg:C.pg t=C.s.pages[t]:=by unfold Cm.pg;simp[List.getD,List.getElem?_eq_getElem hj]
 have hmem:C.pg t∈C.s.pages:=by rw[epg];exact List.getElem_mem hj
 have hcells:=ok.may.cells
 have hlen:(C.pg t).length=C.cfg.cells.toNat*32:=by have:=ok.fits.cells _ hmem;omega
 have hbytes:=ok.typed.bytes _ hmem
 have hXl:=XO kind slot n
 have hcb:=Ak7 hbl
 have ec:DP C (t:Int) (q:Int)=0:=by
  unfold DP
  rw[DB ho (by omega) (by omega),if_neg (by simp),DB ho (by omega) (by omega)]
 have hro:EZ C (t:Int)=C.pg t:=by unfold EZ Cm.pg;rw[Int.toNat_natCast]
 unfold CH
 rw[ec,if_neg (by simp),Int.toNat_natCast,Int.toNat_natCast,hro]
 have half:=fun sd:FB (C.pg t) C.cfg.cells.toNat=>AgP (slot:=slot) (n:=n) (BT C) hk hlen hbytes sd hq hcb
 have full1:C.left≠0->BT C=fun _=>255:=fun hl=>by funext i;unfold BT;rw[if_pos hl]
 have hplq:(q+1)*32≤(C.pg t).length:=by rw[hlen];exact Nat.mul_le_mul_right 32 hq
 have hXb:AW (BD kind slot n):=Y4 fun k=>by
  split
  ·exact iI hk _
  ·exact EV _ _ _
 have hpc:∀f,(CS (AY (C.pg t) q) (BD kind slot n) f).length=32:=fun f=>VD _ _ _ (by rw[hcb];simp[blankCell])
 have hfull:rk (CK (C.pg t) q (CS (AY (C.pg t) q) (BD kind slot n) fun _=>255)) q=A1 (BD kind slot n):=by
  unfold rk
  rw[VK hplq (hpc _),hcb,uA hXl hXb]
 have hpg:∀r,(C.act.setPage t r).pg t=r:=fun r=>MH _ _ _ _ (by rw[B3];exact hj)
 have hpgo:∀r x,x≠t->(C.act.setPage t r).pg x=C.pg x:=by
  intro r x hx
  show (C.act.s.pages.set t _).getD x []=C.s.pages.getD x []
  simp only[List.getD,List.getElem?_set_ne (Ne.symm hx),B3]
 have hrl:=VI hplq (hpc (BT C))
 have hother:∀f k,k<C.cfg.cells.toNat->k≠q->rk (CK (C.pg t) q (CS (AY (C.pg t) q) (BD kind slot n) f)) k=rk (C.pg t) k:=by
  intro f k hk' hne
  unfold rk
  rw[VJ hplq (by rw[hlen];exact Nat.mul_le_mul_right 32 hk') (hpc _) hne]
 refine⟨_,rfl,?_,DA C,?_,?_,hpgo _,?_,?_,?_,?_,?_⟩
 ·refine Cm.ok.setPage ok.act ?_ ?_
  ·rw[DA,hrl,hlen];omega
  ·intro v hv
   rcases uW hv with h | h
   ·exact hbytes v h
   ·unfold CS at h
    exact XY (P:=A4) (fun v h=>hbytes v (PS h)) (fun _ _ _=>EV _ _ _) v h
 ·show C.act.s.erases=_;rw[B3]
 ·show C.act.acts=_
  unfold Cm.act;split <;> rfl
 ·cases u with
  | true=>exact WE (C:=C) snd
  | false=>
   have hc:(C.act.setPage t (CK (C.pg t) q (CS (AY (C.pg t) q) (BD kind slot n) (BT C)))).cfg=C.cfg:=DA C
   show ∀x,x<2->FB _ _
   rw[hc]
   intro x hx
   by_cases e:x=t
   ·rw[e,hpg];exact (half (snd t ht)).1
   ·rw[hpgo _ _ e];exact snd x hx
 ·intro k h5 h6
  rw[hpg];exact hother _ k h5 h6
 ·rw[hpg]
  cases u with
  | true=>
   have hl:C.left<0:=snd
   rw[full1 (by omega)]
   exact Or.inr (Or.inr hfull)
  | false=>
   rcases ((half (snd t ht)).2 q hq).2 with h | h | h
   ·exact Or.inl h
   ·exact Or.inr (Or.inl h)
   ·refine Or.inr (Or.inr ?_)
    unfold rk
    rw[h];exact hfull
 ·intro hl
  refine⟨JX ho hl,?_⟩
  rw[hpg,full1 hl];exact hfull
 ·intro hl
  show C.act.out=true
  unfold Cm.act
  rw[if_neg (by simpa using hl)]
theorem AfP{u:Bool}{C:Cm}(ok:C.ok)(ho:C.out=false){t:Nat}(ht:t<2)(hw:C.er t<C.cfg.erases)(snd:CU u C):
  ∃D:Cm,CP C (t:Int)=(D,CL C)/\D.ok/\D.cfg=C.cfg/\D.er t=C.er t+1/\(∀x,x≠t->D.er x=C.er x)/\D.acts=w64 (C.acts+1)/\(∀x,x≠t->D.pg x=C.pg x)/\CU u D/\
   (∀k,k<C.cfg.cells.toNat->(rk (D.pg t) k).1=0∨(rk (D.pg t) k).1=3∨rk (D.pg t) k=rk (C.pg t) k)/\
   (C.left≠0->D.out=false/\∀k,k<C.cfg.cells.toNat->(rk (D.pg t) k).1=0)/\(C.left=0->D.out=true):=by
 obtain⟨hp2,he2⟩:=tV ok
 have hj:t<C.s.pages.length:=by omega
 have hje:t<C.s.erases.length:=by omega
 have epg:C.pg t=C.s.pages[t]:=by unfold Cm.pg;simp[List.getD,List.getElem?_eq_getElem hj]
 have hmem:C.pg t∈C.s.pages:=by rw[epg];exact List.getElem_mem hj
 have hcells:=ok.may.cells
 have hlen:(C.pg t).length=C.cfg.cells.toNat*32:=by have:=ok.fits.cells _ hmem;omega
 have hbytes:=ok.typed.bytes _ hmem
 have hro:EZ C (t:Int)=C.pg t:=by unfold EZ Cm.pg;rw[Int.toNat_natCast]
 have hme:=ok.may.erases
 have hms:=ok.may.slots
 unfold CP
 rw[DB ho (by omega) (by omega),if_neg (by simp),Int.toNat_natCast,hro]
 unfold Cm.er at hw
 rw[if_neg (by omega)]
 have full1:C.left≠0->BT C=fun _=>255:=fun hl=>by funext i;unfold BT;rw[if_pos hl]
 have hblank:∀k,k<C.cfg.cells.toNat->(rk (CB (C.pg t) fun _=>255) k).1=0:=by
  intro k hk
  have e:AY (CB (C.pg t) fun _=>255) k=ffs:=by
   have hl2:(CB (C.pg t) fun _=>255).length=C.cfg.cells.toNat*32:=by unfold CB B5;rw[List.length_mapIdx,hlen]
   have hk32:(k+1)*32≤(CB (C.pg t) fun _=>255).length:=by rw[hl2];exact Nat.mul_le_mul_right 32 hk
   refine ME (by rw[FT hk32];rfl) fun i hi=>?_
   rw[FT hk32]at hi
   rw[GW _ _ _ hi]
   unfold CB
   rw[MQ _ _ _ _ (by omega) (by omega),qQ]
   unfold ffs
   rw[TD _ hi]
  unfold rk
  rw[e,ffs_blank,Ak5]
 have half:=fun sd:FB (C.pg t) C.cfg.cells.toNat=>AgO (BT C) hlen hbytes sd
 have hrange:=ok.typed.erases (C.s.erases.getD t 0) (by
  have:C.s.erases.getD t 0=C.s.erases[t]:=by simp[List.getD,List.getElem?_eq_getElem hje]
  rw[this];exact List.getElem_mem hje)
 have hpg:∀n r,((C.act.setErase t n).setPage t r).pg t=r:=fun n r=>MH _ _ _ _ (by show t<C.act.s.pages.length;rw[B3];exact hj)
 have hpgo:∀n r x,x≠t->((C.act.setErase t n).setPage t r).pg x=C.pg x:=by
  intro n r x hx
  show (C.act.s.pages.set t _).getD x []=C.s.pages.getD x []
  simp only[List.getD,List.getElem?_set_ne (Ne.symm hx),B3]
 refine⟨_,rfl,?_,DA C,?_,?_,?_,hpgo _ _,?_,?_,?_,?_⟩
 ·refine Cm.ok.setPage (ok.act.setErase (by omega)) ?_ ?_
  ·show _=32*C.act.cfg.cells
   rw[DA]
   unfold CB B5
   rw[List.length_mapIdx,hlen];omega
  ·intro v hv
   unfold CB at hv
   exact XY (P:=A4) (fun v h=>hbytes v h) (fun _ _ _=>EV _ _ _) v hv
 ·show (C.act.s.erases.set t _).getD t 0=_
  exact MH _ _ _ _ (by rw[B3];exact hje)
 ·intro x hx
  show (C.act.s.erases.set t _).getD x 0=C.s.erases.getD x 0
  simp only[List.getD,List.getElem?_set_ne (Ne.symm hx),B3]
 ·show C.act.acts=_
  unfold Cm.act;split <;> rfl
 ·cases u with
  | true=>exact WE (C:=C) snd
  | false=>
   have hc:((C.act.setErase t (C.s.erases.getD t 0+1)).setPage t (CB (C.pg t) (BT C))).cfg=C.cfg:=DA C
   show ∀x,x<2->FB _ _
   rw[hc]
   intro x hx
   by_cases e:x=t
   ·rw[e,hpg];exact (half (snd t ht)).1
   ·rw[hpgo _ _ _ e];exact snd x hx
 ·intro k h5
  rw[hpg]
  cases u with
  | true=>
   have hl:C.left<0:=snd
   rw[full1 (by omega)]
   exact Or.inl (hblank k h5)
  | false=>exact (half (snd t ht)).2 k h5
 ·intro hl
  refine⟨JX ho hl,fun k hk=>?_⟩
  rw[hpg,full1 hl]
  exact hblank k hk
 ·intro hl
  show C.act.out=true
  unfold Cm.act
  rw[if_neg (by simpa using hl)]
abbrev nof(C:Cm)(t k:Nat):Int:=(pI C t).nums.getD k 0
abbrev BI(C:Cm)(k:Nat):Int:=(AS C).nums.getD k 0
abbrev lOf(C:Cm):Nat:=C.cfg.cells.toNat
def AlN(C:Cm):Prop:=∀x,x<2->FB (C.pg x) C.cfg.cells.toNat
section
variable {u:Bool}
theorem wI{n:Int}(h0:0≤n)(h1:n<2^61):w64 n=n:=by unfold w64;rw[IntKind.wrap_i64];omega
theorem J5(C:Cm):(CL C=0/\C.left≠0)∨(CL C=8/\C.left=0):=by
 unfold CL
 by_cases c:C.left≠0
 ·rw[if_pos c];exact Or.inl ⟨rfl,c⟩
 ·rw[if_neg c];exact Or.inr ⟨rfl,by simpa using c⟩
structure Part (u:Bool) (C D:Cm) (t m:Nat) (e:Int):Prop where
 ok:D.ok
 cfg:D.cfg=C.cfg
 pgs:∀y,y≠t->D.pg y=C.pg y
 snd:CU u D
 ec:e=0∨e=8
 out0:e=0->D.out=false
 out8:e=8->D.out=true
 acts:0≤C.acts->C.acts+m<2^60->C.acts≤D.acts/\D.acts≤C.acts+m
 un:u=true->e=0
theorem Part.trans{C D E:Cm}{t m n:Nat}{e:Int}(a:Part u C D t m 0)(b:Part u D E t n e):Part u C E t (m+n) e:=
 ⟨b.ok,b.cfg.trans a.cfg,fun y h=>(b.pgs y h).trans (a.pgs y h),b.snd,b.ec,b.out0,b.out8,fun h1 h2=>by
  have:=a.acts h1 (by omega)
  have:=b.acts (by omega) (by omega)
  omega,b.un⟩
theorem Part.more{C D:Cm}{t m n:Nat}{e:Int}(a:Part u C D t m e)(h:m≤n):Part u C D t n e:=
 ⟨a.ok,a.cfg,a.pgs,a.snd,a.ec,a.out0,a.out8,fun h1 h2=>by have:=a.acts h1 (by omega);omega,a.un⟩
theorem Part.refl{C:Cm}(ok:C.ok)(ho:C.out=false)(snd:CU u C)(t:Nat):Part u C C t 0 0:=
 ⟨ok,rfl,fun _ _=>rfl,snd,Or.inl rfl,fun _=>ho,fun h=>absurd h (by decide),fun _ _=>by omega,fun _=>rfl⟩
theorem qB{C:Cm}(snd:CU u C):u=true->CL C=0:=by
 intro hu
 subst hu
 have:C.left<0:=snd
 unfold CL
 rw[if_pos (by omega)]
theorem j8{C:Cm}(ok:C.ok)(ho:C.out=false){t q:Nat}(ht:t<2)(hq:q<lOf C){kind slot n:Int}(hk:A4 kind)(snd:CU u C)(hbl:(rk (C.pg t) q).1=0):
  ∃D e,CH C (t:Int) (q:Int) (BD kind slot n)=(D,e)/\Part u C D t 1 e/\(∀x,D.er x=C.er x)/\(∀k,k<lOf C->k≠q->rk (D.pg t) k=rk (C.pg t) k)/\
   ((rk (D.pg t) q).1=0∨(rk (D.pg t) q).1=3∨rk (D.pg t) q=A1 (BD kind slot n))/\(e=0->rk (D.pg t) q=A1 (BD kind slot n))/\(0≤C.acts->C.acts<2^60->D.acts=C.acts+1):=by
 obtain⟨D,h1,h2,h3,h4,h5,h6,h7,h8,h9,h10,h11⟩:=AjR ok ho ht hq (slot:=slot) (n:=n) hk snd hbl
 have ha:0≤C.acts->C.acts<2^60->D.acts=C.acts+1:=fun a b=>by rw[h5,wI (by omega) (by omega)]
 refine⟨D,_,h1,⟨h2,h3,h6,h7,?_,?_,?_,?_,qB snd⟩,fun x=>by unfold Cm.er;rw[h4],h8,h9,?_,ha⟩
 ·rcases J5 C with⟨e,_⟩ | ⟨e,_⟩
  ·exact Or.inl e
  ·exact Or.inr e
 ·intro e
  rcases J5 C with⟨_,c⟩ | ⟨e',_⟩
  ·exact (h10 c).1
  ·rw[e']at e;exact absurd e (by decide)
 ·intro e
  rcases J5 C with⟨e',_⟩ | ⟨_,c⟩
  ·rw[e']at e;exact absurd e (by decide)
  ·exact h11 c
 ·intro a b
  rw[ha a (by omega)];omega
 ·intro e
  rcases J5 C with⟨_,c⟩ | ⟨e',_⟩
  ·exact (h10 c).2
  ·rw[e']at e;exact absurd e (by decide)
theorem wF{x:Nat}{v:Int}(hx:x≤8)(h1:1≤v)(h2:v≤BA):(D9 (x:Int) v).1=BD 2 (x:Int) v:=by
 unfold D9
 rw[if_neg (by omega),if_neg (by omega),if_neg (by omega),if_neg (by omega)]
theorem AgY{g:Int}(h1:1≤g)(h2:g≤BA):(GE g).1=BD 1 0 g:=by
 unfold GE
 rw[if_neg (by omega),if_neg (by omega)]
theorem uE{r z:List Int}{l q x:Nat}{v:Int}(hq:q<l)(hq1:1≤q)(he:∀k,k<l->k≠q->rk z k=rk r k)(hz:∀k,q≤k->k<l->(rk r k).1=0)(hx:x≤8)(h1:1≤v)(h2:v≤BA)
  (hv:(ofM r l).nums.getD x 0<v) (hr:(rk z q).1=0∨(rk z q).1=3∨rk z q=A1 (BD 2 (x:Int) v)):
  ((ofM z l).nums=(ofM r l).nums∨(ofM z l).nums=(ofM r l).nums.set x v)/\(rk z q=A1 (BD 2 (x:Int) v)->(ofM z l).nums=(ofM r l).nums.set x v)/\(ofM z l).head=(ofM r l).head:=by
 have e:=Aj2 hq he hz
 have full:rk z q=A1 (BD 2 (x:Int) v)->(ofM z l).nums=(ofM r l).nums.set x v:=by
  intro c
  rw[e,c,uP (by omega) (by omega) h1 h2]
  rw[Ai4 _ (by omega),Int.toNat_natCast,if_pos hv]
 refine⟨?_,full,?_⟩
 ·rcases hr with h | h | h
  ·left;rw[e];exact (s9 _ _ _ _ _ (Or.inl h)).1
  ·left;rw[e];exact (s9 _ _ _ _ _ (Or.inr h)).1
  ·exact Or.inr (full h)
 ·rw[e];exact s8 _ _ _ _ _ (by omega)
theorem kY{t:Nat}(ht:t<2){nums:List Int}(hnl:nums.length=9)(hnb:∀k,0≤nums.getD k 0/\nums.getD k 0≤BA):∀(m x at_:Nat) (C:Cm),C.ok->C.out=false->CU u C->1≤at_->at_+m≤lOf C->x+m≤9->
  (rk (C.pg t) 0).1=0->(∀k,at_≤k->k<lOf C->(rk (C.pg t) k).1=0)->(∀k,k<x->nof C t k=nums.getD k 0)->(∀k,x≤k->nof C t k=0)->
  ∃D e,EJ (t:Int) nums m x at_ C=(D,e)/\Part u C D t m e/\(∀y,D.er y=C.er y)/\(rk (D.pg t) 0).1=0/\(∃at2,1≤at2/\at2≤at_+m/\∀k,at2≤k->k<lOf C->(rk (D.pg t) k).1=0)/\
   (e=0->∀k,k<x+m->nof D t k=nums.getD k 0)
 | 0,x,at_,C,ok,ho,snd,h1,h2,h3,h4,h5,h6,h7=>⟨C,0,rfl,Part.refl ok ho snd t,fun _=>rfl,h4,⟨at_,h1,by omega,h5⟩,fun _=>by simpa using h6⟩
 | m+1,x,at_,C,ok,ho,snd,h1,h2,h3,h4,h5,h6,h7=>by
  unfold EJ
  by_cases gz:nums.getD x 0=0
  ·rw[if_pos gz]
   obtain⟨D,e,d1,d2,d3,d4,⟨a2,d5,d6,d7⟩,d8⟩:=kY ht hnl hnb m (x+1) at_ C ok ho snd h1 (by omega) (by omega) h4 h5 (by
    intro k hk
    by_cases c:k<x
    ·exact h6 k c
    ·rw[show k=x by omega,gz];exact h7 x (by omega)) (fun k hk=>h7 k (by omega))
   exact⟨D,e,d1,d2.more (by omega),d3,d4,⟨a2,d5,by omega,d7⟩,fun he k hk=>d8 he k (by omega)⟩
  rw[if_neg gz]
  have hb:=hnb x
  rw[wF (by omega) (by omega) hb.2]
  have hat:at_<lOf C:=by omega
  obtain⟨D,e,p1,p2,p3,p4,p5,p6,_⟩:=j8 ok ho ht hat (kind:=2) (slot:=(x:Int)) (n:=nums.getD x 0) ⟨by decide,by decide⟩ snd (h5 at_ (by omega) hat)
  rw[p1]
  have hlo:lOf D=lOf C:=by show D.cfg.cells.toNat=_;rw[p2.cfg]
  have hz0:(rk (D.pg t) 0).1=0:=by rw[p4 0 (by omega) (by omega)];exact h4
  by_cases he:e=0
  ·subst he
   rw[if_neg (by simp)]
   obtain⟨q1,q2,q3⟩:=uE (r:=C.pg t) (z:=D.pg t) hat h1 p4 h5 (x:=x) (by omega) (by omega) hb.2 (by have:=h7 x (by omega);have:(ofM (C.pg t) (lOf C)).nums.getD x 0=0:=this;omega) p5
   have q4:=q2 (p6 rfl)
   have hnof:∀k,nof D t k=if x=k/\k<9 then nums.getD x 0 else nof C t k:=by
    intro k
    show (ofM (D.pg t) (lOf D)).nums.getD k 0=_
    rw[hlo,q4,S8,MS]
    rfl
   obtain⟨E,e2,d1,d2,d3,d4,⟨a2,d5,d6,d7⟩,d8⟩:=kY ht hnl hnb m (x+1) (at_+1) D p2.ok (p2.out0 rfl) p2.snd (by omega) (by omega) (by omega) hz0
    (fun k k1 k2=>by rw[hlo]at k2;rw[p4 k k2 (by omega)];exact h5 k (by omega) k2)
    (by
     intro k hk
     rw[hnof]
     by_cases c:x=k
     ·rw[if_pos ⟨c,by omega⟩,c]
     ·rw[if_neg (fun y=>c y.1)];exact h6 k (by omega))
    (by
     intro k hk
     rw[hnof,if_neg (by omega)];exact h7 k (by omega))
   exact⟨E,e2,d1,(p2.trans d2).more (by omega),fun y=>(d3 y).trans (p3 y),d4,⟨a2,d5,by omega,by rw[←hlo];exact d7⟩,fun he k hk=>d8 he k (by omega)⟩
  ·rw[if_pos he]
   exact⟨D,e,rfl,p2.more (by omega),p3,hz0,⟨at_+1,by omega,by omega,fun k k1 k2=>by rw[p4 k k2 (by omega)];exact h5 k (by omega) k2⟩,fun y=>absurd y he⟩
theorem PZ(C:Cm)(t:Nat)(hl:1≤lOf C):(pI C t).head=if (rk (C.pg t) 0).1=1 then (rk (C.pg t) 0).2.2 else 0:=tS hl
theorem AdS{r:List Int}{n:Nat}(h:∀k,k<n->(rk r k).1=0):ofM r n=inf0:=by
 have:=X2 (r:=r) (m:=0) (n:=n) (by omega) fun k _ hk=>h k hk
 exact this
theorem v8{t:Nat}(ht:t<2){nums:List Int}(hnl:nums.length=9)(hnb:∀k,0≤nums.getD k 0/\nums.getD k 0≤BA){m:Nat}{C:Cm}{g:Int}(ok:C.ok)(ho:C.out=false)(snd:CU u C)(hm:1+m≤lOf C)(hm9:m≤9)(g0:0≤g)(g1:g<BA)
  (hbl:∀k,k<lOf C->(rk (C.pg t) k).1=0):
  ∃D e,E3 g (t:Int) nums m C=(D,e)/\Part u C D t (m+1) e/\(∀y,D.er y=C.er y)/\((pI D t).head=0∨((pI D t).head=g+1/\∀k,k<m->nof D t k=nums.getD k 0))/\(e=0->(pI D t).head=g+1)/\
   (∀k,1+m≤k->k<lOf C->(rk (D.pg t) k).1=0):=by
 have hz:∀k,nof C t k=0:=by
  intro k
  show (ofM (C.pg t) (lOf C)).nums.getD k 0=0
  rw[AdS hbl]
  show (AB 9).getD k 0=0
  rw[List.getD_eq_getElem?_getD]
  unfold AB
  rw[List.getElem?_replicate];split <;> rfl
 obtain⟨D,e,d1,d2,d3,d4,⟨a2,d5,d6,d7⟩,d8⟩:=kY ht hnl hnb m 0 1 C ok ho snd (by omega) (by omega) (by omega) (hbl 0 (by omega)) (fun k _ h=>hbl k h) (fun k h=>absurd h (by omega)) (fun k _=>hz k)
 have hlo:lOf D=lOf C:=by show D.cfg.cells.toNat=_;rw[d2.cfg]
 unfold E3
 rw[d1]
 by_cases he:e=0
 ·subst he
  rw[if_neg (by simp),AgY (by omega) (by omega)]
  obtain⟨E,e2,p1,p2,p3,p4,p5,p6,_⟩:=j8 d2.ok (d2.out0 rfl) ht (q:=0) (by omega) (kind:=1) (slot:=0) (n:=g+1) ⟨by decide,by decide⟩ d2.snd d4
  have hlo2:lOf E=lOf C:=by show E.cfg.cells.toNat=_;rw[p2.cfg];exact hlo
  have hrec:=Ak6 (n:=g+1) (by omega) (by omega)
  have hnum:∀k,nof E t k=nof D t k:=by
   intro k
   show (ofM (E.pg t) (lOf E)).nums.getD k 0=(ofM (D.pg t) (lOf D)).nums.getD k 0
   rw[hlo2,hlo,tT (r:=E.pg t) (z:=D.pg t) fun k h1 h2=>p4 k (by omega) (by omega)]
  have hfull:rk (E.pg t) 0=A1 (BD 1 0 (g+1))->(pI E t).head=g+1:=by
   intro c
   rw[PZ E t (by omega),c,hrec,if_pos rfl]
  refine⟨E,e2,p1,d2.trans p2,fun y=>(p3 y).trans (d3 y),?_,fun h=>hfull (p6 h),?_⟩
  ·rcases p5 with c | c | c
   ·left;rw[PZ E t (by omega),if_neg (by omega)]
   ·left;rw[PZ E t (by omega),if_neg (by omega)]
   ·right;exact⟨hfull c,fun k hk=>by rw[hnum];exact d8 rfl k (by omega)⟩
  ·intro k k1 k2
   rw[p4 k (by omega) (by omega)]
   exact d7 k (by omega) k2
 ·rw[if_pos he]
  refine⟨D,e,rfl,d2.more (by omega),d3,Or.inl ?_,fun y=>absurd y he,fun k k1 k2=>d7 k (by omega) k2⟩
  rw[PZ D t (by omega),if_neg (by omega)]
structure Turned (u:Bool) (C D:Cm) (t:Nat) (nums:List Int) (e:Int):Prop where
 part:Part u C D t (C.cfg.slots.toNat+3) e
 ero:∀y,y≠t->D.er y=C.er y
 ert:D.er t=C.er t∨(D.er t=C.er t+1/\C.er t<C.cfg.erases)
 erb:(pI C t).blank=true->D.er t=C.er t
 ern:(pI C t).blank=false->D.er t=C.er t+1
 head:(pI D t).head=0∨(pI D t).head=(pI C t).head∨((pI D t).head=(AS C).head+1/\∀k:Nat,(k:Int)≤C.cfg.slots->nof D t k=nums.getD k 0)
 headf:e=0->(pI D t).head=(AS C).head+1/\∀k:Nat,(k:Int)≤C.cfg.slots->nof D t k=nums.getD k 0
 free:e=0->∀k:Nat,C.cfg.slots.toNat+2≤k->k<lOf C->(rk (D.pg t) k).1=0
theorem v9{C:Cm}{slot:Nat}{n:Int}(ok:C.ok)(ho:C.out=false)(snd:CU u C)(hs:(slot:Int)≤C.cfg.slots)(hn1:1≤n)(hn2:n≤BA)(hw:FO C=false):
  ∃D e,I1 C slot n=(D,e)/\Turned u C D (BF C) ((AS C).nums.set slot n) e:=by
 have ht:=VR C
 have iok:=KA ok
 have ilen:=XH C
 have hmay:=ok.may.slots
 have hcells:=ok.may.cells
 unfold FO at hw
 rw[Bool.or_eq_false_iff,decide_eq_false_iff_not]at hw
 obtain⟨w1,w2⟩:=hw
 unfold I1
 obtain⟨t,htd⟩:∃t,t=BF C:=⟨_,rfl⟩
 rw[←htd]at ht w1 ⊢
 have hnl:((AS C).nums.set slot n).length=9:=by rw[List.length_set,ilen]
 have hnb:∀x,0≤((AS C).nums.set slot n).getD x 0/\((AS C).nums.set slot n).getD x 0≤BA:=by
  intro x
  rw[S8]
  split
  ·omega
  ·exact iok.nums x
 generalize (AS C).nums.set slot n=nums at *
 obtain⟨m,hm⟩:∃m,m=(C.cfg.slots+1).toNat:=⟨_,rfl⟩
 have hl:lOf C=C.cfg.cells.toNat:=rfl
 rw[←hm]
 by_cases g:(pI C t).blank=true
 ·rw[if_pos g]
  have gz:(ofM (C.pg t) (lOf C)).next=0:=by
   have:decide ((ofM (C.pg t) (lOf C)).next=0)=true:=g
   exact of_decide_eq_true this
  obtain⟨D,e,d1,d2,d3,d4,d5,d6⟩:=v8 ht hnl hnb ok ho snd (m:=m) (g:=(AS C).head) (by omega) (by omega) iok.head.1 (by omega) (fun k hk=>jX (by omega) k (by omega) hk)
  refine⟨D,e,d1,d2.more (by omega),fun y _=>d3 y,Or.inl (d3 t),fun _=>d3 t,fun y=>absurd (y.symm.trans g) (by decide),?_,?_,fun _ k k1 k2=>d6 k (by omega) k2⟩
  ·rcases d4 with c | ⟨c,c2⟩
   ·exact Or.inl c
   ·exact Or.inr (Or.inr ⟨c,fun k hk=>c2 k (by omega)⟩)
  ·intro h
   have:=d5 h
   rcases d4 with c | ⟨c,c2⟩
   ·have:=iok.head.1;omega
   ·exact⟨c,fun k hk=>c2 k (by omega)⟩
 ·have g':(pI C t).blank=false:=by simpa using g
  rw[if_neg g]
  have hwe:C.er t<C.cfg.erases:=by
   rw[g']at w1
   simpa using w1
  obtain⟨D,h1,h2,h3,h4,h5,h6,h7,h8,h9,h10,h11⟩:=AfP ok ho ht hwe snd
  have hpart:Part u C D t 1 (CL C):=by
   refine⟨h2,h3,h7,h8,?_,?_,?_,?_,qB snd⟩
   ·rcases J5 C with⟨e,_⟩ | ⟨e,_⟩
    ·exact Or.inl e
    ·exact Or.inr e
   ·intro e
    rcases J5 C with⟨_,c⟩ | ⟨e',_⟩
    ·exact (h10 c).1
    ·rw[e']at e;exact absurd e (by decide)
   ·intro e
    rcases J5 C with⟨e',_⟩ | ⟨_,c⟩
    ·rw[e']at e;exact absurd e (by decide)
    ·exact h11 c
   ·intro a b
    rw[h6,wI (by omega) (by omega)];omega
  have hlo:lOf D=lOf C:=by show D.cfg.cells.toNat=_;rw[h3]
  rw[h1]
  rcases J5 C with⟨e',hl0⟩ | ⟨e',hl0⟩
  ·rw[e']at hpart ⊢
   rw[if_neg (by simp)]
   obtain⟨E,e,d1,d2,d3,d4,d5,d6⟩:=v8 ht hnl hnb h2 (hpart.out0 rfl) hpart.snd (m:=m) (g:=(AS C).head) (by omega) (by omega) iok.head.1 (by omega) (fun k hk=>(h10 hl0).2 k (by rw[hlo]at hk;exact hk))
   refine⟨E,e,d1,(hpart.trans d2).more (by omega),fun y hy=>(d3 y).trans (h5 y hy),Or.inr ⟨(d3 t).trans h4,hwe⟩,fun y=>absurd y g,fun _=>(d3 t).trans h4,?_,?_,fun _ k k1 k2=>d6 k (by omega) (by omega)⟩
   ·rcases d4 with c | ⟨c,c2⟩
    ·exact Or.inl c
    ·exact Or.inr (Or.inr ⟨c,fun k hk=>c2 k (by omega)⟩)
   ·intro h
    have:=d5 h
    rcases d4 with c | ⟨c,c2⟩
    ·have:=iok.head.1;omega
    ·exact⟨c,fun k hk=>c2 k (by omega)⟩
  ·rw[e']at hpart ⊢
   rw[if_pos (by simp)]
   refine⟨D,8,rfl,hpart.more (by omega),h5,Or.inr ⟨h4,hwe⟩,fun y=>absurd y g,fun _=>h4,?_,fun y=>absurd y (by decide),fun y=>absurd y (by decide)⟩
   rw[PZ D t (by omega),PZ C t (by omega)]
   rcases h9 0 (by omega) with c | c | c
   ·left;rw[if_neg (by omega)]
   ·left;rw[if_neg (by omega)]
   ·right;left;rw[c]
end
section
variable {u:Bool}
theorem G4{C D:Cm}(hc:D.cfg=C.cfg){y:Nat}(h:D.pg y=C.pg y):pI D y=pI C y:=by unfold pI;rw[hc,h]
theorem kW(C:Cm):(BF C=1/\AU C=0)∨(BF C=0/\AU C=1)∨(BF C=0/\AU C=-1):=by
 unfold BF
 rcases HY C with h | h | h <;> simp[h]
theorem Al5{C D:Cm}(hc:D.cfg=C.cfg)(hp:∀y,y≠BF C->D.pg y=C.pg y)(hh:(pI D (BF C)).head=0∨(pI D (BF C)).head=(pI C (BF C)).head)(h0:0≤(pI C 0).head)(h1:0≤(pI C 1).head):
  AU D=AU C/\AS D=AS C:=by
 have key:AU D=AU C:=by
  rcases kW C with⟨t,p⟩ | ⟨t,p⟩ | ⟨t,p⟩
  ·rw[t]at hp hh
   have e:=G4 hc (hp 0 (by omega))
   rw[p]
   unfold AU G5 at p ⊢
   rw[e]
   generalize (pI D 1).head=x at *
   generalize (pI C 1).head=y at *
   generalize (pI C 0).head=z at *
   split at p
   ·rw[if_pos (by omega)]
   ·split at p <;> exact absurd p (by decide)
  ·rw[t]at hp hh
   have e:=G4 hc (hp 1 (by omega))
   rw[p]
   unfold AU G5 at p ⊢
   rw[e]
   generalize (pI D 0).head=x at *
   generalize (pI C 1).head=y at *
   generalize (pI C 0).head=z at *
   split at p
   ·exact absurd p (by decide)
   ·split at p
    ·rw[if_neg (by omega),if_pos (by omega)]
    ·exact absurd p (by decide)
  ·rw[t]at hp hh
   have e:=G4 hc (hp 1 (by omega))
   rw[p]
   unfold AU G5 at p ⊢
   rw[e]
   generalize (pI D 0).head=x at *
   generalize (pI C 1).head=y at *
   generalize (pI C 0).head=z at *
   split at p
   ·exact absurd p (by decide)
   ·split at p
    ·exact absurd p (by decide)
    ·rw[if_neg (by omega),if_neg (by omega)]
 refine⟨key,?_⟩
 unfold AS
 rw[key]
 rcases kW C with⟨t,p⟩ | ⟨t,p⟩ | ⟨t,p⟩
 ·rw[p,if_neg (by decide),if_neg (by decide)]
  exact G4 hc (hp 0 (by omega))
 ·rw[p,if_neg (by decide),if_neg (by decide)]
  exact G4 hc (hp 1 (by omega))
 ·rw[p,if_pos (by decide),if_pos (by decide)]
theorem AmD{C D:Cm}(hc:D.cfg=C.cfg)(hp:∀y,y≠BF C->D.pg y=C.pg y)(hh:(pI D (BF C)).head=(AS C).head+1)(h0:0≤(pI C 0).head)(h1:0≤(pI C 1).head)(h2:0≤(AS C).head):
  AU D=(BF C:Int)/\AS D=pI D (BF C):=by
 have key:AU D=(BF C:Int):=by
  rcases kW C with⟨t,p⟩ | ⟨t,p⟩ | ⟨t,p⟩
  ·rw[t]at hp hh ⊢
   have e:=G4 hc (hp 0 (by omega))
   have ei:AS C=pI C 0:=by unfold AS;rw[p];rfl
   rw[ei]at hh h2
   unfold AU G5
   rw[e,if_neg (by omega),if_pos (by omega)];rfl
  ·rw[t]at hp hh ⊢
   have e:=G4 hc (hp 1 (by omega))
   have ei:AS C=pI C 1:=by unfold AS;rw[p];rfl
   rw[ei]at hh h2
   unfold AU G5
   rw[e,if_pos (by omega)];rfl
  ·rw[t]at hp hh ⊢
   have e:=G4 hc (hp 1 (by omega))
   unfold AU G5 at p ⊢
   rw[e]
   split at p
   ·exact absurd p (by decide)
   ·split at p
    ·exact absurd p (by decide)
    ·rw[if_pos (by omega)];rfl
 refine⟨key,?_⟩
 unfold AS
 rw[key,if_neg (by omega),Int.toNat_natCast]
theorem iZ(C:Cm)(t:Nat):(pI C t).head=(ofM (C.pg t) (lOf C)).head:=rfl
structure Laid (u:Bool) (C D:Cm) (slot:Nat) (n e:Int):Prop where
 ok:D.ok
 cfg:D.cfg=C.cfg
 snd:CU u D
 ec:e=0∨e=8∨e=9
 e9:e=9->D=C
 out0:e=0->D.out=false
 other:∀k:Nat,(k:Int)≤C.cfg.slots->k≠slot->BI D k=BI C k
 me:BI D slot=BI C slot∨BI D slot=n
 done:e=0->BI D slot=n
theorem t8{C:Cm}{slot:Nat}{n:Int}(ok:C.ok)(ho:C.out=false)(snd:CU u C)(hs:(slot:Int)≤C.cfg.slots)(hn1:1≤n)(hn2:n≤BA)(hv:BI C slot<n)(hp:0≤AU C)(hx:(AS C).next<C.cfg.cells):
  ∃D e,CH C (AU C) (AS C).next (D9 (slot:Int) n).1=(D,e)/\Laid u C D slot n e/\Part u C D (AU C).toNat 1 e/\(∀x,D.er x=C.er x)/\(0≤C.acts->C.acts<2^60->D.acts=C.acts+1)/\AU D=AU C/\
   (∀k:Nat,(AS C).next+1≤(k:Int)->k<lOf C->(rk (D.pg (AU C).toNat) k).1=0)/\(AS D).head=(AS C).head/\(∀k:Nat,(k:Int)=(AS C).next->e=0->(rk (D.pg (AU C).toNat) k).1≠0):=by
 have hms:=ok.may.slots
 have hcells:=ok.may.cells
 obtain⟨t,ht⟩:∃t:Nat,AU C=(t:Int):=Int.eq_ofNat_of_zero_le hp
 have ht2:t<2:=by have:=HY C;omega
 have ei:AS C=pI C t:=by unfold AS;rw[if_neg (by omega),ht,Int.toNat_natCast]
 have iok:=X4 ok t
 have hh:0<(pI C t).head:=by
  have:AU C=t:=ht
  unfold AU G5 at this
  have h2:t=0∨t=1:=by omega
  rcases h2 with rfl | rfl
  ·split at this
   ·omega
   ·split at this <;> exact absurd this (by decide)
  ·split at this
   ·exact absurd this (by decide)
   ·split at this
    ·omega
    ·exact absurd this (by decide)
 have hnx1:1≤(pI C t).next:=by
  have hb:=tQ (C.pg t) (lOf C) (by show C.cfg.cells.toNat<_;omega)
  rcases Int.lt_or_le 0 (pI C t).next with h | h
  ·omega
  ·have:=iok.next.1
   have e:(ofM (C.pg t) (lOf C)).next=0:=by show (pI C t).next=0;omega
   have:ofM (C.pg t) (lOf C)=inf0:=hb.1 e
   rw[iZ,this]at hh
   exact absurd hh (by decide)
 rw[ei,ht]
 rw[ei]at hx
 obtain⟨q,hq⟩:∃q:Nat,(pI C t).next=(q:Int):=Int.eq_ofNat_of_zero_le (by omega)
 rw[hq]at hx hnx1 ⊢
 have hql:q<lOf C:=by show q<C.cfg.cells.toNat;omega
 have hbl:∀k:Nat,q≤k->k<lOf C->(rk (C.pg t) k).1=0:=fun k k1 k2=>jX (r:=C.pg t) (n:=lOf C) (by show C.cfg.cells.toNat<_;omega) k (by show (pI C t).next≤_;omega) k2
 rw[wF (by omega) hn1 hn2,Int.toNat_natCast]
 obtain⟨D,e,p1,p2,p3,p4,p5,p6,p7⟩:=j8 ok ho ht2 hql (kind:=2) (slot:=(slot:Int)) (n:=n) ⟨by decide,by decide⟩ snd (hbl q (by omega) hql)
 have hlo:lOf D=lOf C:=by show D.cfg.cells.toNat=_;rw[p2.cfg]
 have hv':(ofM (C.pg t) (lOf C)).nums.getD slot 0<n:=by
  have:BI C slot=(ofM (C.pg t) (lOf C)).nums.getD slot 0:=by show (AS C).nums.getD slot 0=_;rw[ei];rfl
  omega
 obtain⟨q1,q2,q3⟩:=uE (r:=C.pg t) (z:=D.pg t) hql (by omega) p4 hbl (x:=slot) (by omega) hn1 hn2 hv' p5
 have hhd:(pI D t).head=(pI C t).head:=by rw[iZ,iZ,hlo];exact q3
 have hpr:AU D=AU C:=by
  unfold AU
  have h2:t=0∨t=1:=by omega
  rcases h2 with rfl | rfl
  ·rw[hhd,G4 p2.cfg (p2.pgs 1 (by omega))]
  ·rw[hhd,G4 p2.cfg (p2.pgs 0 (by omega))]
 have eiD:AS D=pI D t:=by unfold AS;rw[hpr,if_neg (by omega),ht,Int.toNat_natCast]
 have nC:∀k,BI C k=(ofM (C.pg t) (lOf C)).nums.getD k 0:=fun k=>by show (AS C).nums.getD k 0=_;rw[ei];rfl
 have nD:∀k,BI D k=(ofM (D.pg t) (lOf C)).nums.getD k 0:=fun k=>by show (AS D).nums.getD k 0=_;rw[eiD,←hlo];rfl
 have hset:∀k,((ofM (C.pg t) (lOf C)).nums.set slot n).getD k 0=if slot=k/\k<9 then n else (ofM (C.pg t) (lOf C)).nums.getD k 0:=fun k=>by rw[S8,MS]
 refine⟨D,e,p1,⟨p2.ok,p2.cfg,p2.snd,?_,?_,p2.out0,?_,?_,?_⟩,p2,p3,p7,hpr.trans ht,?_,by rw[eiD];exact hhd,?_⟩
 ·rcases p2.ec with h | h
  ·exact Or.inl h
  ·exact Or.inr (Or.inl h)
 ·intro h
  have:=p2.ec
  omega
 ·intro k hk hne
  rw[nC,nD]
  rcases q1 with h | h
  ·rw[h]
  ·rw[h,hset,if_neg (fun y=>hne y.1.symm)]
 ·rw[nC,nD]
  rcases q1 with h | h
  ·left;rw[h]
  ·right;rw[h,hset,if_pos ⟨rfl,by omega⟩]
 ·intro h
  rw[nD,q2 (p6 h),hset,if_pos ⟨rfl,by omega⟩]
 ·intro k k1 k2
  rw[p4 k k2 (by omega)]
  exact hbl k (by omega) k2
 ·intro k k1 he
  have:k=q:=by omega
  rw[this,p6 he,uP (by omega) (by omega) hn1 hn2]
  exact fun y=>absurd (show (2:Int)=0 from y) (by decide)
theorem tA{C:Cm}{slot:Nat}{n:Int}(ok:C.ok)(ho:C.out=false)(snd:CU u C)(hs:(slot:Int)≤C.cfg.slots)(hn1:1≤n)(hn2:n≤BA)(hv:BI C slot<n):
  ∃D e,EF C (slot:Int) n=(D,e)/\Laid u C D slot n e:=by
 unfold EF
 rw[if_neg (by simp[ho]),if_neg (fun y=>y ⟨by omega,hs,hn1,hn2⟩),Int.toNat_natCast,if_neg (by unfold BI at hv;omega)]
 by_cases g:0≤AU C/\(AS C).next<C.cfg.cells
 ·rw[if_pos g]
  obtain⟨D,e,d1,d2,_⟩:=t8 ok ho snd hs hn1 hn2 hv g.1 g.2
  exact⟨D,e,d1,d2⟩
 rw[if_neg g]
 by_cases gw:FO C=true
 ·rw[if_pos gw]
  exact⟨C,9,rfl,ok,rfl,snd,Or.inr (Or.inr rfl),fun _=>rfl,fun y=>absurd y (by decide),fun _ _ _=>rfl,Or.inl rfl,fun y=>absurd y (by decide)⟩
 rw[if_neg gw]
 obtain⟨D,e,d1,d2⟩:=v9 ok ho snd hs hn1 hn2 (by simpa using gw)
 have hms:=ok.may.slots
 have h0:=(X4 ok 0).head.1
 have h1:=(X4 ok 1).head.1
 have h2:=(KA ok).head.1
 have ilen:=XH C
 have set9:∀k,((AS C).nums.set slot n).getD k 0=if slot=k/\k<9 then n else BI C k:=fun k=>by rw[S8,ilen]
 have turned:((pI D (BF C)).head=(AS C).head+1/\∀k:Nat,(k:Int)≤C.cfg.slots->nof D (BF C) k=((AS C).nums.set slot n).getD k 0)->(∀k:Nat,(k:Int)≤C.cfg.slots->k≠slot->BI D k=BI C k)/\BI D slot=n:=by
  rintro⟨y1,y2⟩
  obtain⟨_,ei⟩:=AmD d2.part.cfg d2.part.pgs y1 h0 h1 h2
  have nD:∀k,BI D k=nof D (BF C) k:=fun k=>by show (AS D).nums.getD k 0=_;rw[ei]
  refine⟨fun k hk hne=>?_,?_⟩
  ·rw[nD,y2 k hk,set9,if_neg (fun y=>hne y.1.symm)]
  ·rw[nD,y2 slot hs,set9,if_pos ⟨rfl,by omega⟩]
 have keep:((pI D (BF C)).head=0∨(pI D (BF C)).head=(pI C (BF C)).head)->∀k,BI D k=BI C k:=by
  intro y k
  obtain⟨_,ei⟩:=Al5 d2.part.cfg d2.part.pgs y h0 h1
  show (AS D).nums.getD k 0=_
  rw[ei]
 refine⟨D,e,d1,d2.part.ok,d2.part.cfg,d2.part.snd,?_,?_,d2.part.out0,?_,?_,fun y=>(turned (d2.headf y)).2⟩
 ·rcases d2.part.ec with h | h
  ·exact Or.inl h
  ·exact Or.inr (Or.inl h)
 ·intro h
  have:=d2.part.ec
  omega
 ·intro k hk hne
  rcases d2.head with h | h | h
  ·exact keep (Or.inl h) k
  ·exact keep (Or.inr h) k
  ·exact (turned h).1 k hk hne
 ·rcases d2.head with h | h | h
  ·exact Or.inl (keep (Or.inl h) slot)
  ·exact Or.inl (keep (Or.inr h) slot)
  ·exact Or.inr (turned h).2
end
end Go.Proofs.YteedolonhdbieaaGreatDoor
end
