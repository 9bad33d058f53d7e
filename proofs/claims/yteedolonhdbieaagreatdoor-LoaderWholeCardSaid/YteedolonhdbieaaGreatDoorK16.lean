/- LoaderWhole and its parts, laid together by a program of ours: Lh2 Lh3 To2 Lh4 Ld8 Lw4 Lx3 Lh5 Lh6 RwLoaderWhole -/
import Derived.JoinedCond
import Derived.Test.YteedolonhdbieaaGreatDoorK15
set_option autoImplicit false
set_option linter.all false
section
namespace Go.Proofs.YteedolonhdbieaaGreatDoor
open Go Go.Vc
set_option maxRecDepth 100000
attribute [local irreducible] BC AN
/-! ### What does not touch the areas -/
structure FrA (b:Bool) (C0 C:Cm):Prop where
 cfg:C.cfg=C0.cfg
 pg:∀x,2≤x->C.pg x=C0.pg x
 bl:b=true->C.s.blown=C0.s.blown
section
variable {b:Bool} {C0 C:Cm}
theorem FrA.rfl'(b:Bool)(C:Cm):FrA b C C:=⟨rfl,fun _ _=>rfl,fun _=>rfl⟩
theorem oO(h:FrA b C0 C):FrA b C0 C.act:=⟨(DA C).trans h.cfg,fun x hx=>by unfold Cm.pg;rw[B3];exact h.pg x hx,fun y=>by rw[B3];exact h.bl y⟩
theorem t6{C:Cm}{t:Nat}{row:List Int}{x:Nat}(h:x≠t):(C.setPage t row).pg x=C.pg x:=by
 show (C.s.pages.set t row).getD x []=C.s.pages.getD x []
 simp only[List.getD,List.getElem?_set_ne (Ne.symm h)]
theorem X9(h:FrA b C0 C){t:Int}(ht:t.toNat<2)(q:Int)(x:List Int):FrA b C0 (CH C t q x).1:=by
 have a:=oO h
 unfold CH
 split
 ·exact h
 ·exact⟨a.cfg,fun y hy=>by dsimp only;rw[t6 (by omega)];exact a.pg y hy,a.bl⟩
theorem pZ(h:FrA b C0 C){t:Int}(ht:t.toNat<2):FrA b C0 (CP C t).1:=by
 have a:=oO h
 unfold CP
 split
 ·exact h
 ·split
  ·exact h
  ·exact⟨a.cfg,fun y hy=>by dsimp only;rw[t6 (by omega)];exact a.pg y hy,a.bl⟩
theorem pF(h:FrA false C0 C)(k:Int):FrA false C0 (B9 C k).1:=by
 have e:=iH C k
 exact⟨e.2.2.trans h.cfg,fun x hx=>by unfold Cm.pg;rw[e.1];exact h.pg x hx,fun y=>by cases y⟩
theorem AkB(h:FrA false C0 C)(key:Int):FrA false C0 (FA C key).1:=by
 unfold FA
 split
 ·exact h
 ·split
  ·exact h
  ·exact pF h _
theorem XQ(h:FrA b C0 C)(slot n:Int):FrA b C0 (EF C slot n).1:=by
 have ep:∀(t:Int) (nums:List Int) (m x a:Nat) (D:Cm),t.toNat<2->FrA b C0 D->FrA b C0 (EJ t nums m x a D).1:=by
  intro t nums m
  induction m with
  | zero=>intro x a D _ h;exact h
  | succ m ih=>
   intro x a D ht h
   unfold EJ
   split
   ·exact ih _ _ _ ht h
   ·split
    ·exact X9 h ht _ _
    ·exact ih _ _ _ ht (X9 h ht _ _)
 have ea:∀(g t:Int) (nums:List Int) (m:Nat) (D:Cm),t.toNat<2->FrA b C0 D->FrA b C0 (E3 g t nums m D).1:=by
  intro g t nums m D ht h
  unfold E3
  split
  ·exact ep _ _ _ _ _ _ ht h
  ·exact X9 (ep _ _ _ _ _ _ ht h) ht _ _
 have tt:((BF C:Nat):Int).toNat<2:=by have:=VR C;omega
 have tp:(AU C).toNat<2:=by rcases HY C with y | y | y <;> rw[y] <;> decide
 unfold EF
 (repeat' split) <;> first | exact h | exact X9 h tp _ _ | skip
 unfold I1
 split
 ·exact ea _ _ _ _ _ tt h
 ·split
  ·exact pZ h tt
  ·exact ea _ _ _ _ _ tt (pZ h tt)
theorem uH(a f:Nat)(n:Int):∀(m:Nat) (C:Cm),FrA false C0 C->FrA false C0 (D8 a f n m C).1
 | 0,C,h=>h
 | m+1,C,h=>by
  unfold D8
  split
  ·exact h
  ·split
   ·exact h
   ·rename_i k _
    have b:=pF h k
    split
    ·exact b
    ·exact uH a f n m _ b
theorem AdY(h:FrA false C0 C)(slot v:Int):FrA false C0 (G6 C slot v).1:=by
 unfold G6
 (repeat' split) <;> first | exact h | exact XQ h _ _ | skip
 unfold QA
 (repeat' split) <;> first | exact XQ h _ _ | exact uH _ _ _ _ _ (XQ h _ _)
end
theorem FrA.ct{b:Bool}{C D:Cm}(h:FrA b C D)(ok:C.ok){a:Int}(a01:a=0∨a=1)(x:Nat):ctA D a x=ctA C a x:=by
 have h1:=ok.may.area
 have eb:DM D a=DM C a:=by unfold DM;rw[h.cfg]
 rw[MA,MA,h.cfg,eb]
 generalize x / 32 / C.cfg.cells.toNat=q
 have hb:2≤DM C a:=by unfold DM;rcases a01 with rfl | rfl <;> omega
 rw[h.pg _ (by omega)]
theorem UT{S S':List (List Int)}{C D:Cm}(ok:C.ok){a:Int}(hc:D.cfg=C.cfg)(hS:∀s,s∈S->s∈S')(h:∀x,x<32*DY C->ctA D a x=ctA C a x)(H:DG S C a):DG S' D a:=by
 have hs:=I0 ok
 unfold DG at H ⊢
 rw[hc]
 by_cases c:CN C.cfg<48
 ·exact Or.inl c
 rcases H with H | H | ⟨s,s1,s2,s3,s4,s5⟩
 ·exact Or.inl H
 ·right;left;rw[h 0 (by omega)];exact H
 ·right;right;exact⟨s,hS s s1,s2,s3,s4,fun x hx=>by rw[h x (by omega)];exact s5 x hx⟩
theorem Ah3{S S':List (List Int)}{C D:Cm}{a:Int}(okC:C.ok)(hoC:C.out=false)(okD:D.ok)(hoD:D.out=false)(a01:a=0∨a=1)(hc:D.cfg=C.cfg)(hS:∀s,s∈S->s∈S')(h:∀x,leB (ctA C a x) (ctA D a x))(H:DG S C a):DG S' D a:=by
 have hs:=I0 okD
 unfold DG at H ⊢
 rw[hc]
 by_cases c:CN C.cfg<48
 ·exact Or.inl c
 rcases H with H | H | ⟨s,s1,s2,s3,s4,s5⟩
 ·exact Or.inl H
 ·right;left
  have hb:=UI okD hoD a01 (x:=0) (by rw[hc]at hs;omega)
  have:=h 0
  rw[H]at this
  exact jK hb ⟨by decide,by decide⟩ (tD _) this
 ·right;right;exact⟨s,hS s s1,s2,s3,s4,fun x hx=>jL (s5 x hx) (h x)⟩
/-! ### What the gate looks at -/
structure SameG (C D:Cm):Prop where
 cfg:D.cfg=C.cfg
 oC:C.out=false
 oD:D.out=false
 bl:D.s.blown=C.s.blown
 num:∀k:Nat,(k:Int)<C.cfg.slots->BI D k=BI C k
theorem SameG.asked{C D:Cm}(h:SameG C D)(i n:Int):AT D i n=AT C i n:=by unfold AT;rw[h.oC,h.oD]
theorem SameG.gate{C D:Cm}(h:SameG C D)(L:List Sec)(bs:List Int):AN D L bs=AN C L bs:=by
 have e1:∀k,(CJ D k).1=(CJ C k).1:=by intro k;unfold CJ;rw[h.asked,h.cfg,h.bl]
 have e2:∀k,(DN D k).1=(DN C k).1:=by
  intro k
  unfold DN
  rw[h.asked,h.cfg]
  by_cases c:AT C k C.cfg.slots=0
  ·obtain⟨_,c1,c2⟩:=EA c
   rw[if_neg (by simpa using c),if_neg (by simpa using c)]
   unfold M6
   have ec:D0 D k=D0 C k:=by unfold D0;rw[h.asked,h.cfg,h.bl]
   rw[ec,h.cfg,h.num k.toNat (by omega)]
  ·rw[if_pos c,if_pos c]
 unfold AN
 rw[h.oC,h.oD,h.cfg]
 simp only[e1,e2]
theorem AdE{C D:Cm}(okC:C.ok)(okD:D.ok)(hoC:C.out=false)(hoD:D.out=false)(hc:D.cfg=C.cfg){a:Int}(a01:a=0∨a=1)(h:∀x,x<32*DY C->ctA D a x=ctA C a x):AJ D a=AJ C a:=by
 have ecap:DY D=DY C:=by unfold DY;rw[hc]
 have ea:BG D a=BG C a:=by
  refine ME (by rw[PO okC,PO okD,ecap]) fun x hx=>?_
  rw[PO okD,ecap]at hx
  rw[GR okD hoD a01 (by rw[ecap];exact hx),GR okC hoC a01 hx]
  exact h x hx
 unfold AJ
 have ek:AT D a 2=AT C a 2:=by unfold AT;rw[hoC,hoD]
 rw[ek,hc,ea]
theorem t4{C D:Cm}{t m:Nat}{e:Int}(p:Part false C D t m e):(e=0/\D.out=false)∨(e=8/\D.out=true):=by
 rcases p.ec with y | y
 ·exact Or.inl ⟨y,p.out0 y⟩
 ·exact Or.inr ⟨y,p.out8 y⟩
theorem Ai1{C:Cm}{slot:Nat}{n:Int}(ok:C.ok)(ho:C.out=false)(snd:CU false C)(hs:(slot:Int)≤C.cfg.slots)(hn1:1≤n)(hn2:n≤BA)(hv:BI C slot<n)(h:FO C=false∨(0≤AU C/\(AS C).next<C.cfg.cells)):
  ∃D e,EF C (slot:Int) n=(D,e)/\((e=0/\D.out=false)∨(e=8/\D.out=true)):=by
 unfold EF
 rw[if_neg (by simp[ho]),if_neg (fun y=>y ⟨by omega,hs,hn1,hn2⟩),Int.toNat_natCast,if_neg (by unfold BI at hv;omega)]
 by_cases g:0≤AU C/\(AS C).next<C.cfg.cells
 ·rw[if_pos g]
  obtain⟨D,e,d1,d2,d3,_⟩:=t8 ok ho snd hs hn1 hn2 hv g.1 g.2
  exact⟨D,e,d1,t4 d3⟩
 rw[if_neg g]
 rcases h with h | h
 ·rw[if_neg (by rw[h];decide)]
  obtain⟨D,e,d1,d2⟩:=v9 ok ho snd hs hn1 hn2 h
  exact⟨D,e,d1,t4 d2.part⟩
 ·exact absurd h g
theorem sH{C D:Cm}(hc:D.cfg=C.cfg)(hp:∀x,x<2->D.pg x=C.pg x):AS D=AS C/\AU D=AU C/\∀x,x<2->pI D x=pI C x:=by
 have e:∀x,x<2->pI D x=pI C x:=fun x hx=>G4 hc (hp x hx)
 have ep:AU D=AU C:=by unfold AU;rw[e 0 (by decide),e 1 (by decide)]
 refine⟨?_,ep,e⟩
 unfold AS
 rw[ep]
 rcases HY C with y | y | y <;> rw[y]
 ·rw[if_pos (by decide),if_pos (by decide)]
 ·rw[if_neg (by decide),if_neg (by decide)]
  exact e 0 (by decide)
 ·rw[if_neg (by decide),if_neg (by decide)]
  exact e 1 (by decide)
end Go.Proofs.YteedolonhdbieaaGreatDoor
end
section
namespace Go.Proofs.YteedolonhdbieaaGreatDoor
open Go Go.Vc
set_option maxRecDepth 100000
attribute [local irreducible] BC AN
def upC(C:Cm):Cm:={ C with out:=false }
theorem M4{C:Cm}(h:C.out=false):upC C=C:=by
 cases C;unfold upC;simp only at h;subst h;rfl
theorem kZ{C:Cm}(h:C.ok):(upC C).ok:=⟨h.may,h.fits,h.typed,h.left,h.left2,h.mask,h.acts,h.mlen⟩
theorem wB(C:Cm)(a:Int)(x:Nat):ctA (upC C) a x=ctA C a x:=rfl
theorem VS(C:Cm)(k:Nat):BI (upC C) k=BI C k:=jU rfl rfl k
theorem T3{C:Cm}(ok:C.ok)(ho:C.out=false):C4 C=(BI C C.cfg.slots.toNat,0):=by
 have:=ok.may.slots
 unfold C4 HV
 rw[if_neg (by rw[ho];decide),if_neg (fun y=>y ⟨by omega,Int.le_refl _⟩)]
theorem AgH{C:Cm}{L:List Sec}{bs:List Int}(ho:C.out=false)(h:AN C L bs=0):BW bs=(0,0):=by
 by_cases c:(BW bs).1=0
 ·exact j6 c
 ·exact absurd ((qU (L:=L) ho c).symm.trans h) c
structure InvA (S:List (List Int)) (C:Cm):Prop where
 snd:CU false C
 h0:DG S C 0
 h1:DG S C 1
theorem InvA.at_{S:List (List Int)}{C:Cm}(I:InvA S C){a:Int}(h:a=0∨a=1):DG S C a:=by
 rcases h with rfl | rfl
 ·exact I.h0
 ·exact I.h1
theorem InvA.of{S:List (List Int)}{C:Cm}{t:Int}(ht:t=0∨t=1)(snd:CU false C)(a:DG S C t)(b:DG S C (1-t)):InvA S C:=by
 rcases ht with rfl | rfl
 ·exact⟨snd,a,b⟩
 ·exact⟨snd,b,a⟩
theorem kN{C:Cm}(h:CU false C):CU false (upC C):=h
theorem AlW(C:Cm)(L:List Sec):(A5 C L=some (AR C)/\B6 C L (AR C)=true/\BZ C L=1-AR C) ∨
  (A5 C L=some (1-AR C)/\B6 C L (AR C)=false/\B6 C L (1-AR C)=true/\BZ C L=AR C) ∨
  (A5 C L=none/\B6 C L (AR C)=false/\B6 C L (1-AR C)=false/\BZ C L=1-AR C):=by
 unfold BZ
 by_cases a:B6 C L (AR C)=true
 ·have e:A5 C L=some (AR C):=by unfold A5;rw[if_pos a]
  rw[e];exact Or.inl ⟨rfl,a,rfl⟩
 by_cases b:B6 C L (1-AR C)=true
 ·have e:A5 C L=some (1-AR C):=by unfold A5;rw[if_neg a,if_pos b]
  rw[e];exact Or.inr (Or.inl ⟨rfl,by simpa using a,b,by dsimp only;omega⟩)
 ·have e:A5 C L=none:=by unfold A5;rw[if_neg a,if_neg b]
  rw[e];exact Or.inr (Or.inr ⟨rfl,by simpa using a,by simpa using b,rfl⟩)
theorem holds_iff{C:Cm}{L:List Sec}{a:Int}:B6 C L a=true↔(AJ C a).2=0/\AN C L (AJ C a).1=0:=by
 unfold B6
 rw[Bool.and_eq_true,beq_iff_eq,beq_iff_eq]
theorem jA{C D:Cm}{L:List Sec}(okC:C.ok)(okD:D.ok)(G:SameG C D){a:Int}(a01:a=0∨a=1)(h:∀x,x<32*DY C->ctA D a x=ctA C a x):AJ D a=AJ C a/\B6 D L a=B6 C L a:=by
 have e:=AdE okC okD G.oC G.oD G.cfg a01 h
 refine⟨e,?_⟩
 unfold B6
 rw[e,G.gate]
def Stay(C D:Cm)(L:List Sec):Prop:=A5 D L=A5 C L/\∀a,A5 C L=some a->AJ D a=AJ C a
def PK(D:Cm)(L:List Sec)(bs:List Int):Prop:=∃a,A5 D L=some a/\AJ D a=(bs,0)
def oF(S:List (List Int))(D:Cm)(L:List Sec):Prop:=∃a,A5 D L=some a/\Oth S (AJ D a).1
theorem Stay.rfl'(C:Cm)(L:List Sec):Stay C C L:=⟨rfl,fun _ _=>rfl⟩
theorem Af5{S:List (List Int)}{C D:Cm}{L:List Sec}{t:Int}{bs:List Int}(okC:C.ok)(hoC:C.out=false)(okD:D.ok)(hoD:D.out=false)(G:SameG C D)(t01:t=0∨t=1)(hb:AW bs)(hp:BW bs=(0,0))(hs:(bs.length:Int)≤CN C.cfg)
  (H:DG S C t) (w:(∀x,leB (ctA C t x) (ctA D t x))∨ctA D t 0=255∨∀x,x<bs.length->leB (bs.getD x 0) (ctA D t x)) (hold:B6 D L t=true):
  Oth (S++[bs]) (AJ D t).1∨AJ D t=(bs,0)∨B6 C L t=true:=by
 obtain⟨r0,g0⟩:=holds_iff.1 hold
 obtain⟨h1,h2,h3,h4,h5⟩:=o5 okD hoD t01 r0
 have hbt:=WK okD t
 have hpl:=VB hbt h2
 have no255:ctA D t 0≠255:=by
  intro y
  have:=t3 h2
  rw[h5 0 (by omega),y]at this
  exact absurd this (by decide)
 rcases w with w | w | w
 ·rcases H with H | H | ⟨s,s1,s2,s3,s4,s5⟩
  ·rw[G.cfg]at h1;omega
  ·exfalso
   have h0:=w 0
   rw[H]at h0
   have sc:=I0 okD
   exact no255 (jK (UI okD hoD t01 (by omega)) ⟨by decide,by decide⟩ (tD _) h0)
  ·have HD:DG [s] D t:=Or.inr (Or.inr ⟨s,List.mem_singleton.2 rfl,s2,s3,by rw[G.cfg];exact s4,fun x hx=>jL (s5 x hx) (w x)⟩)
   obtain⟨s',m',sub⟩:=i9 okD hoD t01 HD r0
   rw[List.mem_singleton.1 m']at sub
   by_cases e:s=(AJ D t).1
   ·right;right
    have sc:=I0 okC
    have ec:AJ C t=(s,0):=o6 okC hoC t01 s2 s3 s4 fun x hx=>by
     have a1:=s5 x hx
     have a2:=w x
     rw[←h5 x (by rw[←e];exact hx),←e]at a2
     exact jK (UI okC hoC t01 (by omega)) (iY s2 x) a2 a1
    rw[holds_iff,ec]
    refine⟨rfl,?_⟩
    rw[←G.gate,e];exact g0
   ·left
    exact⟨s,List.mem_append_left _ s1,e,sub⟩
 ·exact absurd w no255
 ·have HD:DG [bs] D t:=Or.inr (Or.inr ⟨bs,List.mem_singleton.2 rfl,hb,hp,by rw[G.cfg];exact hs,w⟩)
  obtain⟨s',m',sub⟩:=i9 okD hoD t01 HD r0
  rw[List.mem_singleton.1 m']at sub
  by_cases e:bs=(AJ D t).1
  ·right;left
   exact Prod.ext e.symm r0
  ·left;exact⟨bs,List.mem_append_right _ (List.mem_singleton.2 rfl),e,sub⟩
theorem AmS{C D:Cm}(hc:D.cfg=C.cfg)(hp:∀x,x<2->D.pg x=C.pg x)(he:∀x,x<2->D.er x=C.er x):FO D=FO C:=by
 obtain⟨i1,i2,i3⟩:=sH hc hp
 have et:BF D=BF C:=by unfold BF;rw[i2]
 have ht:=VR C
 unfold FO
 rw[et,i1,i3 _ ht,he _ ht,hc]
structure Whole (S:List (List Int)) (C D:Cm) (L:List Sec) (bs:List Int) (f:Int):Prop where
 inv:InvA (S++[bs]) (upC D)
 ok:f=0->PK (upC D) L bs
 pw:f=8->oF (S++[bs]) (upC D) L∨PK (upC D) L bs∨Stay C (upC D) L
 no:f≠0->f≠8->upC D=C/\D.acts=C.acts
theorem rL{S:List (List Int)}{C:Cm}{a:Int}(bs:List Int)(H:DG S C a):DG (S++[bs]) C a:=by
 rcases H with H | H | ⟨s,s1,s2⟩
 ·exact Or.inl H
 ·exact Or.inr (Or.inl H)
 ·exact Or.inr (Or.inr ⟨s,List.mem_append_left _ s1,s2⟩)
theorem InvA.app{S:List (List Int)}{C:Cm}(bs:List Int)(I:InvA S C):InvA (S++[bs]) C:=⟨I.snd,rL bs I.h0,rL bs I.h1⟩
theorem AlV{S:List (List Int)}{C:Cm}{L:List Sec}{bs:List Int}(okC:C.ok)(hoC:C.out=false)(I:InvA S C)(hb:AW bs):Whole S C (DO C L bs).1 L bs (DO C L bs).2:=by
 have uC:=M4 hoC
 have idle:∀f,f≠0->Whole S C C L bs f:=fun f hf=>
  ⟨by rw[uC];exact I.app bs,fun y=>absurd y hf,fun _=>Or.inr (Or.inr (by rw[uC];exact Stay.rfl' C L)),fun _ _=>⟨uC,rfl⟩⟩
 unfold DO
 rw[if_neg (by rw[hoC];decide)]
 by_cases g1:AN C L bs=0
 case neg=>rw[if_pos g1];exact idle _ g1
 rw[if_neg (fun y=>y g1)]
 by_cases g2:CN C.cfg<bs.length
 ·rw[if_pos g2];exact idle 4 (by decide)
 rw[if_neg g2]
 by_cases g3:(DX C (BZ C L)).1=true∨BZ C L≠AR C/\FU C=false
 ·rw[if_pos g3];exact idle 9 (by decide)
 rw[if_neg g3]
 have hp:=AgH hoC g1
 have F01:=UN C
 have cs:=AlW C L
 have t01:BZ C L=0∨BZ C L=1:=by rcases cs with⟨_,_,e⟩ | ⟨_,_,_,e⟩ | ⟨_,_,_,e⟩ <;> rw[e] <;> omega
 have hpl:=VB hb hp
 have W:=AmX okC hoC t01 hb hpl.1 g2 (fun y=>g3 (Or.inl y))
 have hact:=T3 okC hoC
 generalize ht:BZ C L=t at *
 generalize hF:AR C=F at *
 rcases hX:FD C t bs with⟨D,e⟩
 rw[hX]at W
 dsimp only at W ⊢
 have info:=sH W.cfg W.pg
 have numD:∀k,BI D k=BI C k:=fun k=>by unfold BI;rw[info.1]
 have okU:=kZ W.ok
 have G:SameG C (upC D):=⟨W.cfg,hoC,rfl,W.bl,fun k _=>by rw[VS];exact numD k⟩
 have sndD:CU false D:=fun x hx=>by rw[W.pg x hx,W.cfg];exact I.snd x hx
 have fU:AR (upC D)=F:=by
  rw[←hF]
  unfold AR
  rw[T3 okU rfl,hact,VS,numD]
  show (BI C D.cfg.slots.toNat,(0:Int)).1 % 2=_
  rw[W.cfg]
 have t1:1-t=0∨1-t=1:=by omega
 have hoth:=jA (L:=L) okC okU G t1 (fun x hx=>W.other x hx)
 have holdO:DG (S++[bs]) (upC D) (1-t):=UT okC W.cfg (fun s m=>List.mem_append_left _ m) (fun x hx=>W.other x hx) (I.at_ t1)
 rcases W.ec with⟨e0,o0,w0⟩ | ⟨e8,o8,w8⟩
 case inr=>
  rw[if_pos (Or.inl (by rw[e8];decide))]
  have holdT:DG (S++[bs]) (upC D) t:=by
   rcases w8 with w | w | w
   ·exact Ah3 okC hoC okU rfl t01 W.cfg (fun s m=>List.mem_append_left _ m) w (I.at_ t01)
   ·exact Or.inr (Or.inl w)
   ·exact Or.inr (Or.inr ⟨bs,List.mem_append_right _ (List.mem_singleton.2 rfl),hb,hp,by rw[show (upC D).cfg=C.cfg from W.cfg];omega,w⟩)
  refine⟨InvA.of t01 (kN sndD) holdT holdO,fun y=>absurd (e8.symm.trans y) (by decide),fun _=>?_,fun _ y=>absurd e8 y⟩
  have cut:=Af5 (L:=L) okC hoC okU rfl G t01 hb hp (by omega) (I.at_ t01) w8
  rcases cs with⟨c1,c2,c3⟩ | ⟨c1,c2,c3,c4⟩ | ⟨c1,c2,c3,c4⟩
  ·-- the first area is started
   have eF:1-t=F:=by omega
   rw[eF]at hoth
   have e1:A5 (upC D) L=some F:=by unfold A5;rw[fU,if_pos (hoth.2.trans c2)]
   right;right
   exact⟨e1.trans c1.symm,fun a ha=>by rw[c1]at ha;injection ha with ha;rw[←ha];exact hoth.1⟩
  ·subst c4
   by_cases hh:B6 (upC D) L t=true
   ·have e1:A5 (upC D) L=some t:=by unfold A5;rw[fU,if_pos hh]
    rcases cut hh with z | z | z
    ·exact Or.inl ⟨t,e1,z⟩
    ·exact Or.inr (Or.inl ⟨t,e1,z⟩)
    ·rw[c2]at z;cases z
   ·have e1:A5 (upC D) L=some (1-t):=by unfold A5;rw[fU,if_neg hh,if_pos (hoth.2.trans c3)]
    right;right
    exact⟨e1.trans c1.symm,fun a ha=>by rw[c1]at ha;injection ha with ha;rw[←ha];exact hoth.1⟩
  ·have eF:1-t=F:=by omega
   have eT:1-F=t:=by omega
   rw[eF]at hoth
   rw[eT]at c3
   have n1:¬B6 (upC D) L F=true:=by rw[hoth.2,c2];decide
   by_cases hh:B6 (upC D) L t=true
   ·have e1:A5 (upC D) L=some t:=by unfold A5;rw[fU,if_neg n1,eT,if_pos hh]
    rcases cut hh with z | z | z
    ·exact Or.inl ⟨t,e1,z⟩
    ·exact Or.inr (Or.inl ⟨t,e1,z⟩)
    ·rw[c3]at z;cases z
   ·have e1:A5 (upC D) L=none:=by unfold A5;rw[fU,if_neg n1,eT,if_neg hh]
    right;right
    exact⟨e1.trans c1.symm,fun a ha=>by rw[c1]at ha;cases ha⟩
 -- the image lies there, whole
 have uD:=M4 o0
 rw[uD]at G okU fU hoth holdO
 have rT:AJ D t=(bs,0):=o6 okU o0 t01 hb hp (by rw[W.cfg];omega) w0
 have hT:B6 D L t=true:=by rw[holds_iff,rT];exact⟨rfl,by rw[G.gate];exact g1⟩
 have holdT:DG (S++[bs]) D t:=Or.inr (Or.inr ⟨bs,List.mem_append_right _ (List.mem_singleton.2 rfl),hb,hp,by rw[W.cfg];omega,fun x hx=>by rw[w0 x hx];exact XS _⟩)
 subst e0
 by_cases tF:t=F
 ·rw[if_pos (Or.inr tF)]
  have e1:A5 D L=some t:=by unfold A5;rw[fU,←tF,if_pos hT]
  refine⟨by rw[uD];exact InvA.of t01 sndD holdT holdO,fun _=>by rw[uD];exact⟨t,e1,rT⟩,fun y=>absurd (show (0:Int)=8 from y) (by decide),fun y=>absurd rfl y⟩
 rw[if_neg (fun y=>y.elim (fun z=>z rfl) tF)]
 have eF:1-t=F:=by omega
 have eT:1-F=t:=by omega
 rw[eF]at hoth
 -- the log lays a number more
 have lays:FU C=true:=by
  cases hl:FU C with
  | true=>rfl
  | false=>exact absurd (Or.inr ⟨tF,hl⟩) g3
 unfold FU at lays
 rw[Bool.and_eq_true,decide_eq_true_iff,Bool.or_eq_true,decide_eq_true_iff,hact]at lays
 obtain⟨l1,l2⟩:=lays
 dsimp only at l2
 have hm:=P5
 have hsl:=okU.may.slots
 have hslC:D.cfg.slots=C.cfg.slots:=by rw[W.cfg]
 have hactD:=T3 okU o0
 have hnum:BI D D.cfg.slots.toNat=BI C C.cfg.slots.toNat:=by rw[numD,W.cfg]
 have nn:0≤BI C C.cfg.slots.toNat:=((KA okC).nums C.cfg.slots.toNat).1
 generalize hn:BI C C.cfg.slots.toNat=n at *
 rw[hact]
 dsimp only
 unfold QD
 rw[hactD,hnum]
 dsimp only
 rw[if_neg (fun y=>y rfl),if_neg (by omega),if_neg (by omega)]
 have free:FO D=false∨(0≤AU D/\(AS D).next<D.cfg.cells):=by
  rcases l1 with l1 | l1
  ·right
   have hr:=qO okC
   unfold GD at l1 hr
   rw[if_neg (by rw[hoC];decide)]at l1 hr
   rw[info.1,info.2.1,W.cfg]
   by_cases z:AU C<0
   ·rw[if_pos z]at l1;exact absurd rfl l1
   ·rw[if_neg z]at l1 hr;omega
  ·left
   rw[AmS W.cfg W.pg W.er]
   unfold VT at l1
   rw[if_neg (by rw[hoC];decide)]at l1
   simpa using l1
 have hcast:((D.cfg.slots.toNat:Nat):Int)=D.cfg.slots:=by omega
 obtain⟨D2,e2,hl2,hec⟩:=Ai1 (slot:=D.cfg.slots.toNat) (n:=n+1) okU o0 sndD (by omega) (by omega) (by omega) (by rw[hnum];omega) free
 obtain⟨D3,e3,hl3,LL⟩:=tA (u:=false) (slot:=D.cfg.slots.toNat) (n:=n+1) okU o0 sndD (by omega) (by omega) (by omega) (by rw[hnum];omega)
 have fr:=XQ (FrA.rfl' true D) ((D.cfg.slots.toNat:Nat):Int) (n+1)
 rw[hl2]at fr hl3
 cases hl3
 rw[hcast]at hl2
 rw[hl2]
 dsimp only at fr ⊢
 have ok2:=kZ LL.ok
 have G2:SameG D (upC D2):=⟨LL.cfg,o0,rfl,fr.bl rfl,fun k hk=>by rw[VS];exact LL.other k (by omega) (by omega)⟩
 have s1:=jA (L:=L) okU ok2 G2 (a:=F) F01 (fun x _=>by rw[wB];exact fr.ct okU F01 x)
 have s2:=jA (L:=L) okU ok2 G2 (a:=t) t01 (fun x _=>by rw[wB];exact fr.ct okU t01 x)
 have rT2:AJ (upC D2) t=(bs,0):=s2.1.trans rT
 have hT2:B6 (upC D2) L t=true:=s2.2.trans hT
 have inv2:InvA (S++[bs]) (upC D2):=by
  rw[eF]at holdO
  have x1:DG (S++[bs]) (upC D2) t:=UT okU LL.cfg (fun _ m=>m) (fun x _=>fr.ct okU t01 x) holdT
  have x2:DG (S++[bs]) (upC D2) (1-t):=by rw[eF];exact UT okU LL.cfg (fun _ m=>m) (fun x _=>fr.ct okU F01 x) holdO
  exact InvA.of t01 (kN LL.snd) x1 x2
 have fOld:BI D2 D.cfg.slots.toNat=n->AR (upC D2)=F:=fun y=>by
  rw[←hF]
  unfold AR
  rw[T3 ok2 rfl,hact,VS,show (upC D2).cfg=D.cfg from LL.cfg,y]
 have fNew:BI D2 D.cfg.slots.toNat=n+1->AR (upC D2)=t:=fun y=>by
  have:F=n % 2:=by rw[←hF];unfold AR;rw[hact]
  unfold AR
  rw[T3 ok2 rfl,VS,show (upC D2).cfg=D.cfg from LL.cfg,y]
  dsimp only
  omega
 have told:BI D2 D.cfg.slots.toNat=n+1->PK (upC D2) L bs:=fun y=>⟨t,by unfold A5;rw[fNew y,if_pos hT2],rT2⟩
 refine⟨inv2,fun y=>told (LL.done y),fun y=>?_,fun y1 y2=>by rcases hec with⟨z,_⟩ | ⟨z,_⟩;exact absurd z y1;exact absurd z y2⟩
 rcases LL.me with z | z
 ·have f2:=fOld (z.trans hnum)
  rcases cs with⟨c1,c2,c3⟩ | ⟨c1,c2,c3,c4⟩ | ⟨c1,c2,c3,c4⟩
  ·right;right
   have e1:A5 (upC D2) L=some F:=by unfold A5;rw[f2,if_pos (s1.2.trans (hoth.2.trans c2))]
   exact⟨e1.trans c1.symm,fun a ha=>by rw[c1]at ha;injection ha with ha;rw[←ha];exact s1.1.trans hoth.1⟩
  ·exact absurd c4 tF
  ·right;left
   have e1:A5 (upC D2) L=some t:=by unfold A5;rw[f2,if_neg (by rw[s1.2,hoth.2,c2];decide),eT,if_pos hT2]
   exact⟨t,e1,rT2⟩
 ·exact Or.inr (Or.inl (told z))
end Go.Proofs.YteedolonhdbieaaGreatDoor
end
section
namespace Go.Proofs.YteedolonhdbieaaGreatDoor
open Go Go.Vc
set_option maxRecDepth 100000
attribute [local irreducible] BC
theorem vZ(bs:ByteArray):∀(n i:Nat) (r:List UInt8),bs.size-i=n->ByteArray.toList.loop bs i r=r.reverse++bs.data.toList.drop i
 | 0,i,r,h=>by
  unfold ByteArray.toList.loop
  rw[if_neg (by omega),List.drop_of_length_le (by rw[Array.length_toList];have:bs.size=bs.data.size:=rfl;omega),List.append_nil]
 | n+1,i,r,h=>by
  have hi:i<bs.size:=by omega
  unfold ByteArray.toList.loop
  rw[if_pos hi,vZ bs n (i+1) _ (by omega)]
  have hi3:i<bs.data.size:=hi
  have hi2:i<bs.data.toList.length:=by rw[Array.length_toList];exact hi3
  rw[List.drop_eq_getElem_cons hi2,List.reverse_cons,List.append_assoc]
  have:bs.get! i=bs.data.toList[i]:=by
   show bs.data[i]! = _
   rw[getElem!_pos bs.data i hi3]
   exact (Array.getElem_toList hi3).symm
  rw[this];rfl
theorem vY(bs:ByteArray):bs.toList=bs.data.toList:=by
 unfold ByteArray.toList
 rw[vZ bs _ 0 [] rfl]
 rfl
theorem Ae2{a b:List Int}(ha:BX a)(hb:BX b)(h:(bytesOf a).toList=(bytesOf b).toList):a=b:=by
 rw[vY,vY]at h
 replace h:(a.map fun n=>UInt8.ofNat n.toNat)=b.map fun n=>UInt8.ofNat n.toNat:=h
 have hl:a.length=b.length:=by have:=congrArg List.length h;simpa using this
 apply List.ext_getElem hl
 intro i h1 h2
 have e:(a.map fun n=>UInt8.ofNat n.toNat)[i]?=(b.map fun n=>UInt8.ofNat n.toNat)[i]?:=by rw[h]
 rw[List.getElem?_map,List.getElem?_map,List.getElem?_eq_getElem h1,List.getElem?_eq_getElem h2]at e
 simp only[Option.map_some,Option.some.injEq]at e
 have x:=ha _ (List.getElem_mem h1)
 have y:=hb _ (List.getElem_mem h2)
 have e2:=congrArg UInt8.toNat e
 rw[UInt8.toNat_ofNat',UInt8.toNat_ofNat',Nat.mod_eq_of_lt (by omega),Nat.mod_eq_of_lt (by omega)]at e2
 omega
theorem pL{a b:List Int}(ha:BX a)(hb:BX b)(h:a≠b):((bytesOf a).toList == (bytesOf b).toList)=false:=by
 rw[beq_eq_false_iff_ne]
 exact fun y=>h (Ae2 ha hb y)
section
variable {h0 h:H} {A:List Ent} {i j d r m:Nat}
end
end Go.Proofs.YteedolonhdbieaaGreatDoor
end
section
namespace Go.Proofs.YteedolonhdbieaaGreatDoor
open Go Go.Vc
set_option maxRecDepth 100000
attribute [local irreducible] BC AN
def VW(a b:List Int):Prop:=a.length≤b.length/\∀x,x<a.length->leB (a.getD x 0) (b.getD x 0)
section
variable {h0 h:H} {A:List Ent} {i j p r b s m:Nat} {C:Cm}
theorem Ad9{a b:Int}(h:bits .andNot .u8 a b=0):leB a b:=by
 rw[UA]at h
 unfold leB
 have:(b8 a &&& ~~~ b8 b).toNat=0:=by omega
 exact BitVec.eq_of_toNat_eq this
theorem AdN{Q:Bool->HP}{xs ys:List Int}{ap bp:Option Addr}{al ac bl bc:Nat}(ra:hsv h ap 1 al (AA .u8 xs))(rb:hsv h bp 1 bl (AA .u8 ys))(hl:al<2^60)
  (k:∀q,(q=false->¬VW xs ys)->Q q h):OL ap al ac bp bl bc Q h:=by
 unfold OL dN
 have ha:xs.length=al:=by have:=ra.1;simpa using this
 have hb:ys.length=bl:=by have:=rb.1;simpa using this
 by_cases g:bl<al
 ·rw[AD,if_pos (by rw[decide_eq_true_iff];omega)]
  exact k false fun _ y=>by have:=y.1;omega
 rw[AD,if_neg (by rw[decide_eq_true_iff];omega)]
 intro J hJ
 refine BS al (fun t h'=>h'=h/\∀x,x<t->leB (xs.getD x 0) (ys.getD x 0)) ?_ ?_ 0 _ (by omega) ⟨rfl,fun x hx=>by omega⟩
 ·rintro t h1 ht ⟨rfl,inv⟩ hk
  apply hJ
  rw[AD,if_pos (by rw[decide_eq_true_iff];omega)]
  obtain⟨q1,hq1,g1⟩:=E7 ra (x:=t) (by omega)
  obtain⟨q2,hq2,g2⟩:=E7 rb (x:=t) (by omega)
  simp only[Int.toNat_natCast,Nat.mul_one]
  refine⟨q1,hq1,by omega,by omega,_,g1,q2,hq2,by omega,by omega,_,g2,?_⟩
  by_cases z:bits .andNot .u8 (xs.getD t 0) (ys.getD t 0)=0
  ·rw[if_neg (by simpa using z),A0 (by omega)]
   refine hk _ ⟨rfl,fun x hx=>?_⟩
   by_cases e:x=t
   ·subst e;exact Ad9 z
   ·exact inv x (by omega)
  ·rw[if_pos (by simpa using z)]
   exact k false fun _ y=>z (Ai7 (y.2 t (by omega)))
 ·rintro h1 ⟨rfl,inv⟩
  apply hJ
  rw[AD,if_neg (by rw[decide_eq_true_iff];omega)]
  exact k true fun y=>by cases y
theorem Al3{Q:Bool->HP}{a b v a2 b2 v2:Int}{pay pay2 tag tag2:List Int}{p1 p2:Option Addr}{l1 c1 l2 c2:Nat}(hs:Sat h0 A h)(ht:tag.length=32)(ht2:tag2.length=32)(r1:∀h',Sat h0 A h'->hsv h' p1 1 l1 (AA .u8 pay))(r2:∀h',Sat h0 A h'->hsv h' p2 1 l2 (AA .u8 pay2))
  (k:∀q h',(a=a2->b=b2->v=v2->pay=pay2->tag=tag2->q=true)->Sat h0 A h'->Q q h'):O2 a b v p1 l1 c1 tag a2 b2 v2 p2 l2 c2 tag2 Q h:=by
 unfold O2 eW
 try simp only[AI,Nat.zero_add,List.append_nil]
 intro n16 _ hn;replace hs:=Sat.new hs hn
 intro n19 _ hn;replace hs:=Sat.new hs hn
 replace hs:Sat h0 (blk n19 (AX a2 b2 v2 (p2,l2,c2) tag2)::blk n16 (AX a b v (p1,l1,c1) tag)::A) _:=hs
 refine⟨_,hs.ld zs1 rfl,_,hs.ld .z rfl,?_⟩
 by_cases e1:a=a2
 case neg=>rw[if_neg (by simpa using e1)];exact k false _ (fun y=>absurd y e1) hs.drop.drop
 rw[if_pos (by simpa using e1)]
 refine⟨_,hs.ld zs1 rfl,_,hs.ld .z rfl,?_⟩
 by_cases e2:b=b2
 case neg=>rw[if_neg (by simpa using e2)];exact k false _ (fun _ y=>absurd y e2) hs.drop.drop
 rw[if_pos (by simpa using e2)]
 refine⟨_,hs.ld zs1 rfl,_,hs.ld .z rfl,?_⟩
 by_cases e3:v=v2
 case neg=>rw[if_neg (by simpa using e3)];exact k false _ (fun _ _ y=>absurd y e3) hs.drop.drop
 rw[if_pos (by simpa using e3)]
 refine⟨_,_,_,hs.ld zs1 rfl,_,r1 _ hs.drop.drop,_,_,_,hs.ld .z rfl,_,r2 _ hs.drop.drop,?_⟩
 by_cases e4:(bytesOf pay).toList=(bytesOf pay2).toList
 case neg=>rw[if_neg (by simpa using e4)];exact k false _ (fun _ _ _ y=>absurd (by rw[y]) e4) hs.drop.drop
 rw[if_pos (by simpa using e4)]
 refine⟨tag,ht,CM hs zs1 ht,tag2,ht2,CM hs .z ht2,?_⟩
 exact k _ _ (fun _ _ _ _ y=>by simpa using y) hs.drop.drop
structure Met (h0:H) (P:List Pg):Prop where
 rd:∀x,x∈P->x.rd h0 1
 by_:∀x,x∈P->AW x.bytes
 sm:∀x,x∈P->x.sl.2.1<2^60
theorem tN{P:List Pg}{t:Nat}(ht:t<P.length):(CG P)[t]?=some P[t].sl.v:=by unfold CG;rw[List.getElem?_map,List.getElem?_eq_getElem ht];rfl
theorem AgR{Q:Bool->HP}{slot key ver:Int}{pay tag bs:List Int}{pp mp:Option Addr}{pl pc n ml mc x y:Nat}{P:List Pg}(M:Met h0 P)(hs:Sat h0 A h)(an:At A x (blk n [.slice mp ml mc]))(am:At A y (slE mp ml mc 1 (CG P)))
  (ht:tag.length=32) (hp:pl<2^44) (rd:∀h',Sat h0 A h'->hsv h' pp 1 pl (AA .u8 pay)) (back:CA slot key ver pay++tag=bs) (hb:AW bs) (hml:ml<2^60)
  (k:∀q h',(q=false->∀x,x∈P->x.bytes≠bs)->Sat h0 A h'->Q q h'):OM ⟨n,0,none⟩ slot key ver pp pl pc tag Q h:=by
 unfold OM dP
 try simp only[AI,Nat.zero_add,List.append_nil]
 have hl:P.length=ml:=by have:=hs.sl_len am;unfold CG at this;simpa using this
 intro n11 _ hn;replace hs:=Sat.new hs hn
 replace hs:Sat h0 (blk n11 (AX slot key ver (pp,pl,pc) tag)::A) _:=hs
 refine⟨_,hs.ld .z rfl,_,hs.ld .z rfl,_,hs.ld .z rfl,_,_,_,hs.ld .z rfl,tag,ht,CM hs .z ht,?_⟩
 refine YI (pay:=pay) hs ht hp (fun h' hs'=>rd _ hs'.drop) ?_
 intro p1 c1 h1 hs hc1
 rw[back]at hs
 intro J hJ
 refine BS ml (fun t h=>(∀x (hx:x<P.length),x<t->P[x].bytes≠bs)/\Sat h0 (slE p1 (48+pl) c1 1 (AA .u8 bs)::blk n11 (AX slot key ver (pp,pl,pc) tag)::A) h) ?_ ?_ 0 _ (by omega) ⟨fun x _ hx=>by omega,hs⟩
 ·clear hs
  rintro t h2 ht2 ⟨inv,hs⟩ hk
  apply hJ
  clear hJ
  have htP:t<P.length:=by omega
  obtain⟨ob,hob⟩:=hs.sl_some am.s.s (by omega)
  subst hob
  refine⟨_,_,_,hs.ld an.s.s rfl,?_⟩
  rw[AD,if_pos (by rw[decide_eq_true_iff];omega)]
  refine⟨_,_,_,hs.ld an.s.s rfl,_,rfl,by omega,by omega,?_⟩
  simp only[Int.toNat_natCast,Nat.mul_one,AI,Nat.zero_add]
  have lde:=hs.sld am.s.s (tN htP)
  have rdt:=hs.base (M.rd _ (List.getElem_mem htP))
  refine⟨_,_,_,lde,?_⟩
  by_cases e:P[t].bytes=bs
  ·refine⟨⟨_,rdt,_,hs.sv .z,?_⟩,_,hs.sv .z,AH lde,AH (hs.ld an.s.s rfl),_,rdt,?_⟩ <;>
   ·rw[e,beq_self_eq_true,if_pos rfl]
    exact k true _ (fun y=>by cases y) hs.drop.drop
  ·have ne:=pL (M.by_ _ (List.getElem_mem htP)) hb e
   have nxt:J [si (t+1)] h2:=hk _ ⟨fun x hx hx2=>by
    by_cases e2:x=t
    ·subst e2;exact e
    ·exact inv x hx (by omega),hs⟩
   refine⟨⟨_,rdt,_,hs.sv .z,?_⟩,_,hs.sv .z,AH lde,AH (hs.ld an.s.s rfl),_,rdt,?_⟩ <;>
   ·rw[ne,if_neg (by decide),A0 (by omega)]
    exact nxt
 ·clear hs
  rintro h2 ⟨inv,hs⟩
  apply hJ
  refine⟨_,_,_,hs.ld an.s.s rfl,?_⟩
  rw[AD,if_neg (by rw[decide_eq_true_iff];omega)]
  refine k false _ (fun _ x hx e=>?_) hs.drop.drop
  obtain⟨t,ht3,rfl⟩:=List.getElem_of_mem hx
  exact inv t ht3 (by omega) e
theorem AjC{Q:Bool->HP}{slot key ver:Int}{pay tag bs:List Int}{pp mp:Option Addr}{pl pc n ml mc x y:Nat}{P:List Pg}(M:Met h0 P)(hs:Sat h0 A h)(an:At A x (blk n [.slice mp ml mc]))(am:At A y (slE mp ml mc 1 (CG P)))
  (ht:tag.length=32) (hp:pl<2^44) (rd:∀h',Sat h0 A h'->hsv h' pp 1 pl (AA .u8 pay)) (back:CA slot key ver pay++tag=bs) (hb:AW bs) (hml:ml<2^60)
  (k:∀q h',(q=false->∀x,x∈P->48≤x.bytes.length->x.bytes≠bs->¬VW x.bytes bs)->Sat h0 A h'->Q q h'):ON ⟨n,0,none⟩ slot key ver pp pl pc tag Q h:=by
 unfold ON dQ
 try simp only[AI,Nat.zero_add,List.append_nil]
 have hl:P.length=ml:=by have:=hs.sl_len am;unfold CG at this;simpa using this
 intro n11 _ hn;replace hs:=Sat.new hs hn
 replace hs:Sat h0 (blk n11 (AX slot key ver (pp,pl,pc) tag)::A) _:=hs
 refine⟨_,hs.ld .z rfl,_,hs.ld .z rfl,_,hs.ld .z rfl,_,_,_,hs.ld .z rfl,tag,ht,CM hs .z ht,?_⟩
 refine YI (pay:=pay) hs ht hp (fun h' hs'=>rd _ hs'.drop) ?_
 intro p1 c1 h1 hs hc1
 rw[back]at hs
 intro J hJ
 refine BS ml (fun t h=>(∀x (hx:x<P.length),x<t->48≤P[x].bytes.length->P[x].bytes≠bs->¬VW P[x].bytes bs)/\Sat h0 (slE p1 (48+pl) c1 1 (AA .u8 bs)::blk n11 (AX slot key ver (pp,pl,pc) tag)::A) h) ?_ ?_ 0 _ (by omega) ⟨fun x _ hx=>by omega,hs⟩
 ·clear hs
  rintro t h2 ht2 ⟨inv,hs⟩ hk
  apply hJ
  clear hJ
  have htP:t<P.length:=by omega
  obtain⟨ob,hob⟩:=hs.sl_some am.s.s (by omega)
  subst hob
  have nxt:(48≤P[t].bytes.length->P[t].bytes≠bs->¬VW P[t].bytes bs)->J [si (t+1)] h2:=fun z=>hk _ ⟨fun x hx hx2=>by
   by_cases e2:x=t
   ·subst e2;exact z
   ·exact inv x hx (by omega),hs⟩
  have lde:=hs.sld am.s.s (tN htP)
  have rdt:=hs.base (M.rd _ (List.getElem_mem htP))
  have lent:P[t].bytes.length=P[t].sl.2.1:=by have:=rdt.1;simpa using this
  have smt:=M.sm _ (List.getElem_mem htP)
  have hcs1:=AH (hs.ld an.s.s (o:=0) rfl)
  refine⟨_,_,_,hs.ld an.s.s rfl,?_⟩
  rw[AD,if_pos (by rw[decide_eq_true_iff];omega)]
  refine⟨_,_,_,hs.ld an.s.s rfl,_,rfl,by omega,by omega,?_⟩
  simp only[Int.toNat_natCast,Nat.mul_one,AI,Nat.zero_add]
  refine⟨_,_,_,lde,?_⟩
  rw[A0 (by omega)]
  by_cases g:48≤P[t].sl.2.1
  case neg=>
   rw[BQ,if_neg (by rw[decide_eq_true_iff];omega)]
   have:=nxt fun y=>by omega
   exact⟨this,this⟩
  rw[BQ,if_pos (by rw[decide_eq_true_iff];omega)]
  refine⟨_,_,_,hs.ld an.s.s rfl,_,rfl,by omega,by omega,?_⟩
  simp only[Int.toNat_natCast,Nat.mul_one,AI,Nat.zero_add]
  refine⟨_,_,_,lde,?_⟩
  by_cases e:P[t].bytes=bs
  ·have J1:=nxt fun _ y=>absurd e y
   refine⟨⟨_,rdt,_,hs.sv .z,?_⟩,_,hs.sv .z,AH lde,hcs1,_,rdt,?_⟩ <;>
   ·rw[e,beq_self_eq_true,if_neg (by decide)]
    exact J1
  ·have ne:=pL (M.by_ _ (List.getElem_mem htP)) hb e
   refine⟨⟨_,rdt,_,hs.sv .z,?_⟩,_,hs.sv .z,AH lde,hcs1,_,rdt,?_⟩ <;>
   ·rw[ne,if_pos (by decide)]
    refine⟨_,_,_,hs.ld an.s.s rfl,_,rfl,by omega,by omega,?_⟩
    simp only[Int.toNat_natCast,Nat.mul_one,AI,Nat.zero_add]
    refine⟨_,_,_,lde,?_⟩
    refine AdN rdt (hs.sv .z) smt ?_
    intro q hq
    cases q with
    | true=>rw[if_pos rfl];exact k true _ (fun y=>by cases y) hs.drop.drop
    | false=>rw[if_neg (by decide)];exact nxt fun _ _=>hq rfl
 ·clear hs
  rintro h2 ⟨inv,hs⟩
  apply hJ
  refine⟨_,_,_,hs.ld an.s.s rfl,?_⟩
  rw[AD,if_neg (by rw[decide_eq_true_iff];omega)]
  refine k false _ (fun _ x hx=>?_) hs.drop.drop
  obtain⟨t,ht3,rfl⟩:=List.getElem_of_mem hx
  exact inv t ht3 (by omega)
end
end Go.Proofs.YteedolonhdbieaaGreatDoor
end
section
namespace Go.Proofs.YteedolonhdbieaaGreatDoor
open Go Go.Vc
set_option maxRecDepth 100000
attribute [local irreducible] BC AN BN BM BJ AL A6 B6 sG BO DF BY DO
section
variable {h0 h:H} {A B:List Ent} {i j p r b s m:Nat} {C:Cm}
theorem AdJ{Q:Bool->HP}(hg:hc h0 ⟨0,0,none⟩=some GB)(hs:Sat h0 A h)(k:∀h',Sat h0 A h'->Q true h'):OJ Q h:=by
 unfold OJ dL
 try simp only[AI,Nat.zero_add,List.append_nil]
 obtain⟨f1,f2,f3,f4,f5,f6⟩:=AgF
 refine Aa0 cfg15 hs (fun y=>absurd AeL y) ?_
 intro _ pc h1 hs
 unfold TP dO
 intro n2 _ hn;replace hs:=Sat.new hs hn
 intro n5 _ hn;replace hs:=Sat.new hs hn
 have rdX:∀h',Sat h0 (blk n5 [.int .i64 0,.slice (some ⟨n2,0,none⟩) 1 1]::blk n2 [.int .u8 7]::AF pc (BP cfg15)::A) h'->SecsAt h' (some ⟨n5,0,none⟩) 1 [⟨0,[7],some ⟨n2,0,none⟩,1⟩]:=by
  intro h' hs'
  refine⟨rfl,?_⟩
  intro x hx
  have:x=0:=by simp at hx;exact hx
  subst this
  refine⟨_,rfl,?_,?_,hs'.bv (i:=1) (l:=1) zs1 rfl (A9 .u8 [7]),?_,by show 1<2^47;decide⟩
  ·exact hs'.ld .z rfl
  ·exact hs'.ld .z rfl
  ·intro n hn
   simp only[List.getElem_cons_zero,List.mem_cons,List.not_mem_nil,or_false]at hn
   subst hn;decide
 refine sZ (X:=[⟨0,[7],some ⟨n2,0,none⟩,1⟩]) (L:=L15) hs rfl rdX (by decide) ?_
 intro o2 e2 i2 h2 B2 hs hB2
 rcases hB2 with⟨z1,z2⟩ | ⟨z1,z2,rp,mp,R,z3,eR,gR,z4⟩
 ·rw[n15]at z1;cases z1
 subst z2 z3 z4
 intro J21 hJ21
 rw[if_neg (by simp),if_neg (by simp),if_neg (by decide),if_neg (by decide)]
 apply hJ21
 clear hJ21 J21
 have perm0:∀(c x y:Ent) (P A:List Ent),(P++(x::y::c::A)).Perm (c::(P++(x::y::A))):=by
  intro c x y P A
  have:=List.perm_middle (l₁:=P++[x,y]) (a:=c) (l₂:=A)
  simpa using this
 replace hs:=hs.perm (perm0 _ _ _ _ _)
 obtain⟨TT,hTT⟩:∃TT:List Ent,TT=KK rp mp R++(blk n5 [.int .i64 0,.slice (some ⟨n2,0,none⟩) 1 1]::blk n2 [.int .u8 7]::A):=⟨_,rfl⟩
 rw[←hTT]at hs
 have subA:A.Sublist TT:=by rw[hTT];exact ((List.sublist_cons_self _ _).trans (List.sublist_cons_self _ _)).trans (List.sublist_append_right _ _)
 obtain⟨y3,a3⟩:∃x,At TT x (blk rp [.map (some mp)]):=At.mem (by rw[hTT];simp)
 obtain⟨y4,a4⟩:∃x,At TT x (EQ mp (R.map SR.ent)):=At.mem (by rw[hTT];simp)
 have rR:∀x,x∈R->∃y,At TT y x.sl:=fun x hx=>At.mem (by rw[hTT];exact List.mem_append_left _ (List.mem_cons_of_mem _ (List.mem_cons_of_mem _ (List.mem_map_of_mem hx))))
 clear hTT
 refine⟨_,rfl,?_⟩
 refine kJ hs .z (fun y=>by cases y) ?_
 intro _ st lg h3 hs
 intro J27 hJ27
 rw[if_neg (by simp),if_neg (by decide)]
 apply hJ27
 clear hJ27 J27
 refine⟨_,rfl,_,rfl,_,rfl,?_⟩
 unfold IQ TX
 intro lo _ hn;replace hs:=Sat.new hs hn
 rw[if_neg (by simp)]
 intro n34 _ hn;replace hs:=Sat.new hs hn
 intro n37 _ hn;replace hs:=Sat.new hs hn
 refine AkK (sec:=[7]) (pay:=[1,2,3]) (slot:=0) (key:=0) (ver:=5) (pl:=3) hs (DL 32) (by decide) (by intro n hn;simp at hn;subst hn;decide) (by decide) (by intro n hn;simp only[List.mem_cons,List.not_mem_nil,or_false]at hn;rcases hn with rfl | rfl | rfl <;> decide)
  (fun h' hs'=>hs'.bv (i:=1) (l:=1) zs1 rfl (A9 .u8 [7])) (fun h' hs'=>hs'.bv (i:=0) (l:=3) .z rfl (A9 .u8 [1,2,3])) ?_
 intro pb cb h4 hs hcb
 replace hs:Sat h0 (slE pb 51 cb 1 (AA .u8 b15)::blk n37 [.int .u8 1,.int .u8 2,.int .u8 3]::blk n34 [.int .u8 7]::KE lo pc st rp::C8 st pc lg::CE lg pc::AF pc (BP cfg15)::TT) h4:=hs
 have g:∀D,Gx (slE pb 51 cb 1 (AA .u8 b15)::blk n37 [.int .u8 1,.int .u8 2,.int .u8 3]::blk n34 [.int .u8 7]::KE lo pc st rp::C8 st pc lg::CE lg pc::AF pc D::TT) 6 pc D lg st rp R L15:=by
  intro D
  refine⟨.s zs5,⟨5,by decide,.s zs4⟩,⟨4,by decide,.s zs3⟩,⟨mp,⟨y3+7,by omega,a3.s.s.s.s.s.s.s⟩,⟨y4+7,by omega,a4.s.s.s.s.s.s.s⟩⟩,?_,eR,gR⟩
  intro x hx
  obtain⟨y,a⟩:=rR x hx
  exact⟨y+7,by omega,a.s.s.s.s.s.s.s⟩
 have ok:=CW hs (g (BP cfg15)).ci
 refine⟨_,rfl,?_⟩
 refine T2 (L:=L15) hg hs ok (g _) zs3 ?_
 intro P1 h5 _ _ hs
 replace hs:=hs.drop
 rw[f1]
 refine⟨_,rfl,?_⟩
 refine oA (L:=L15) (bs:=b15) hg hs ok (g _) (z:=3) (by decide) zs3 (fun D X h' hs'=>(hs'.sub (List.sublist_append_right X _)).sv .z) AdL AdK hcb (by decide) ?_
 intro h6 hs
 simp only[AV,AG]at hs
 rw[f2]
 obtain⟨D,hD⟩:∃D,D=(DO (BP cfg15) L15 b15).1:=⟨_,rfl⟩
 rw[←hD]at hs
 have hD2:D15=D:=by rw[hD];rfl
 rw[hD2]at f3 f4 f5 f6
 clear hD hD2
 have ok:=CW hs (g D).ci
 refine⟨_,rfl,?_⟩
 refine T2 (L:=L15) hg hs ok (g _) zs3 ?_
 intro P2 h7 tl _ hs
 rw[f3]at tl hs ⊢
 rw[f4,f5]
 rw[f6]at hs ⊢
 intro n70 _ hn;replace hs:=Sat.new hs hn
 refine⟨Sat.can hs .z (by simp[AB]),?_⟩
 intro h8 e8
 replace hs:=Sat.wra (xs:=AX (BN 0 (BY D L15)) (BM 0 (BY D L15)) 5 (P2,3,3) (A6 0 (BY D L15))) hs .z e8 (by rw[DS tl];rfl)
 clear e8;simp only[AG]at hs
 rw[if_pos (by decide),if_pos (by decide),if_pos (by decide),if_pos (by decide)]
 refine⟨_,hs.ld .z rfl,?_⟩
 rw[if_pos (by decide)]
 refine⟨_,_,_,hs.ld .z rfl,?_⟩
 have:=k h8 (hs.sub ((((((((((subA.cons _).cons _).cons _).cons _).cons _).cons _).cons _).cons _).cons _)))
 exact this
end
end Go.Proofs.YteedolonhdbieaaGreatDoor
end
section
namespace Go.Proofs.YteedolonhdbieaaGreatDoor
open Go Go.Vc
set_option maxRecDepth 100000
def bet(C:Cm)(t:Nat):Int:=if (pI C t).blank=true then 1 else 0
def kap(C:Cm):Int:=if AU C=0 then 1 else 0
structure Wear (C:Cm) (cuts:Int):Prop where
 inv:∃x y:Int,0≤x/\0≤y/\x+y≤cuts/\C.er 0-C.er 1=kap C+(bet C 0-bet C 1)+(x-y)
 e0:0≤C.er 0/\C.er 0≤C.cfg.erases
 e1:0≤C.er 1/\C.er 1≤C.cfg.erases
theorem AgA(c:Cfg):E6 c=List.replicate (c.cells.toNat*32) 255:=by
 unfold E6 blankCell
 rw[List.flatten_replicate_replicate]
theorem Ag9{c:Cfg}(hm:c.may){t:Nat}(ht:t<2):(BP c).pg t=E6 c:=by
 have h:=hm.area
 have hnp:c.np=2+2*c.area:=rfl
 show (List.replicate c.np.toNat (E6 c)).getD t []=_
 rw[List.getD_eq_getElem?_getD,List.getElem?_replicate,if_pos (by omega)];rfl
theorem uR(n j:Nat)(h:j<n):(List.replicate n (255:Int)).getD j 0=255:=by
 rw[List.getD_eq_getElem?_getD,List.getElem?_replicate,if_pos h];rfl
theorem AgB{c:Cfg}(hm:c.may):AlN (BP c):=by
 intro x hx
 rw[Ag9 hm hx,AgA]
 intro i hi k hk
 have hi':i<c.cells.toNat:=hi
 rw[uR _ _ (by omega),uR _ _ (by omega)]
 decide
end Go.Proofs.YteedolonhdbieaaGreatDoor
end
section
namespace Go.Proofs.YteedolonhdbieaaGreatDoor
open Go Go.Vc
set_option maxRecDepth 100000
attribute [local irreducible] BC AN BN BM BJ AL A6 B6 sG
abbrev WL(w pc st lg lo rp pr rr:Nat)(C C0:Cm)(B:List Ent):List Ent:=
 blk w (FZ pc rp pr rr (.pointer (some ⟨st,0,none⟩)) (.pointer (some ⟨lo,0,none⟩)))::KE lo pc st rp::C8 st pc lg::CE lg pc::AF pc C::CT pr C0::B
theorem gxL{w pc st lg lo rp mp pr rr:Nat}{C C0:Cm}{B:List Ent}{lp:Option Addr}{lc:Nat}{R R2:List SR}{L:List Sec}(K:Ring26 B rp mp rr lp lc R R2 L):Gx (WL w pc st lg lo rp pr rr C C0 B) 4 pc C lg st rp R L:=by
 obtain⟨j1,a1⟩:=K.cr
 obtain⟨j2,a2⟩:=K.cm
 refine⟨.s zs3,⟨3,by decide,.s zs2⟩,⟨2,by decide,.s zs1⟩,⟨mp,⟨j1+6,by omega,a1.s.s.s.s.s.s⟩,⟨j2+6,by omega,a2.s.s.s.s.s.s⟩⟩,?_,K.eR,K.gR⟩
 intro x hx
 obtain⟨y,a⟩:=K.rR x hx
 exact⟨y+6,by omega,a.s.s.s.s.s.s⟩
section
variable {h0 h:H} {A B:List Ent} {i j p r b s m:Nat} {C C0:Cm}
theorem Ak8(hs:Sat h0 A h)(cj:At A j (CT r C))(ho:C.out=false):AC h ⟨r,11,none⟩ 1/\∀h',h'=hwr h ⟨r,11,none⟩ [.bool false]->Sat h0 A h':=by
 obtain⟨⟨w,ms⟩,hw,hs'⟩:=(hs.front cj).open_
 have hs2:=hs'
 dsimp only[MX,List.cons_append,List.nil_append]at hs2
 refine⟨Sat.can hs2 .z (show 11+1≤(C.cells w.a w.b w.c w.m).length from Nat.le_of_ble_eq_true rfl),?_⟩
 intro h' e
 have hs3:=Sat.wr hs2 .z e
 simp only[AG]at hs3
 have es:AO (C.cells w.a w.b w.c w.m) 11 [.bool false]=C.cells w.a w.b w.c w.m:=by unfold Cm.cells;rw[ho];rfl
 rw[es]at hs3
 have:Sat h0 (put A j (CT r C)) h':=Sat.back cj (Sat.close (n:=4) (φ:=RefW C) (F:=MX r C) (w,ms) hw hs3)
 rw[cj.put_self]at this
 exact this
theorem AiS{Q:Bool->HP}{w pc rp pr rr:Nat}{so lv:Value}(hs:Sat h0 (blk w (FZ pc rp pr rr so lv)::AF pc C::CT pr C0::B) h)(ho:C.out=false)(ho0:C0.out=false)(k:∀st lg lo h',Sat h0 (WL w pc st lg lo rp pr rr C C0 B) h'->Q true h'):GP ⟨w,0,none⟩ Q h:=by
 unfold GP V7
 try simp only[AI,Nat.zero_add]
 refine⟨_,hs.ld .z rfl,_,rfl,?_⟩
 refine kJ hs zs1 (fun y=>absurd (ho.symm.trans y) (by decide)) ?_
 intro ho st lg h1 hs
 refine⟨Sat.can hs zs2 (show 1+1≤6 by decide),?_⟩
 intro h2 e2
 replace hs:=Sat.wr hs zs2 e2
 clear e2
 refine⟨Sat.can hs zs2 (show 3+1≤6 by decide),?_⟩
 intro h3 e3
 replace hs:=Sat.wr hs zs2 e3
 clear e3
 replace hs:Sat h0 (C8 st pc lg::CE lg pc::blk w (FZ pc rp pr rr (.pointer (some ⟨st,0,none⟩)) (.pointer none))::AF pc C::CT pr C0::B) h3:=hs
 refine⟨_,hs.ld zs2 rfl,_,rfl,_,(kB hs zs4).2,?_⟩
 rw[if_neg (by simp[ho0]),if_neg (by simp),if_neg (by decide)]
 refine⟨_,hs.ld zs2 rfl,_,hs.ld zs2 rfl,_,rfl,_,rfl,_,rfl,?_⟩
 unfold IQ TX
 intro lo _ hn;replace hs:=Sat.new hs hn
 refine⟨Sat.can hs zs3 (show 3+1≤6 by decide),?_⟩
 intro h4 e4
 replace hs:=Sat.wr hs zs3 e4
 clear e4
 replace hs:Sat h0 (KE lo pc st rp::C8 st pc lg::CE lg pc::blk w (FZ pc rp pr rr (.pointer (some ⟨st,0,none⟩)) (.pointer (some ⟨lo,0,none⟩)))::AF pc C::CT pr C0::B) h4:=hs
 refine⟨_,hs.ld zs3 rfl,?_⟩
 exact k _ _ _ _ (hs.perm (List.perm_middle (l₁:=[KE lo pc st rp,C8 st pc lg,CE lg pc])))
end
/-! ### What Start tells of a chip that keeps images -/
theorem v4{C:Cm}{L:List Sec}(ok:C.ok)(ho:C.out=false){a:Int}(h:A5 C L=some a):BO C L=0/\DF C L=a/\BY C L=(AJ C a).1/\AN C L (AJ C a).1=0/\(AJ C a).2=0/\AW (AJ C a).1/\
  CA (BN 0 (AJ C a).1) (BM 0 (AJ C a).1) (BJ 0 (AJ C a).1) (AL 0 (AJ C a).1)++A6 0 (AJ C a).1=(AJ C a).1:=by
 have hh:B6 C L a=true:=by
  unfold A5 at h
  split at h
  ·rename_i y;injection h with h;rw[←h];exact y
  split at h
  ·rename_i y;injection h with h;rw[←h];exact y
  ·cases h
 obtain⟨r0,g0⟩:=holds_iff.1 hh
 have hb:=WK ok a
 refine⟨by unfold BO;rw[if_neg (by rw[ho];decide),h],by unfold DF;rw[if_neg (by rw[ho];decide),h],by unfold BY;rw[h],g0,r0,hb,?_⟩
 obtain⟨n,hpz,hnn⟩:=AgI ho hb g0
 generalize (AJ C a).1=bs at *
 have e1:BN 0 bs=bs.getD 5 0:=by unfold BN;rw[if_pos rfl]
 have e2:BM 0 bs=bs.getD 6 0:=by unfold BM;rw[if_pos rfl]
 have e3:BJ 0 bs=AP bs 8:=by unfold BJ;rw[if_pos rfl]
 have en:(AP bs 12).toNat=n:=by omega
 have e4:AL 0 bs=(bs.drop 16).take n:=by unfold AL;rw[if_pos rfl,en]
 have e5:A6 0 bs=(bs.drop (16+n)).take 32:=by unfold A6;rw[if_pos rfl,en]
 rw[e1,e2,e3,e4,e5]
 exact AeW hb hpz hnn
theorem Am9{C:Cm}{L:List Sec}(ho:C.out=false)(h:A5 C L=none):BO C L=17/\DF C L=0/\AL 17 (BY C L)=[]:=by
 refine⟨by unfold BO;rw[if_neg (by rw[ho];decide),h],by unfold DF;rw[if_neg (by rw[ho];decide),h],by unfold AL;rw[if_neg (by decide)]⟩
theorem kQ{C D:Cm}{L:List Sec}(hC:C.out=false)(hD:D.out=false)(h:Stay C D L):BO C L=BO D L/\DF C L=DF D L/\BY C L=BY D L:=by
 unfold BO DF BY
 rw[if_neg (by rw[hC];decide),if_neg (by rw[hD];decide),if_neg (by rw[hC];decide),if_neg (by rw[hD];decide),h.1]
 cases e:A5 C L with
 | none=>exact⟨rfl,rfl,rfl⟩
 | some a=>exact⟨rfl,rfl,by dsimp only;rw[h.2 a e]⟩
theorem Am7{S:List (List Int)}{C:Cm}{L:List Sec}(ok:C.ok)(ho:C.out=false)(I:InvA S C){a:Int}(h:A5 C L=some a):Oth S (AJ C a).1∨(AJ C a).1∈S:=by
 obtain⟨_,_,_,_,r0,_⟩:=v4 ok ho h
 have a01:=kP h
 obtain⟨s,m,sub⟩:=i9 ok ho a01 (I.at_ a01) r0
 by_cases e:s=(AJ C a).1
 ·right;rw[←e];exact m
 ·left;exact⟨s,m,e,sub⟩
theorem sI{S:List (List Int)}{C D:Cm}(ok:C.ok)(I:InvA S C)(fr:FrA false C D)(snd:CU false D):InvA S (upC D):=
 ⟨kN snd,UT ok fr.cfg (fun _ m=>m) (fun x _=>fr.ct ok (Or.inl rfl) x) I.h0,UT ok fr.cfg (fun _ m=>m) (fun x _=>fr.ct ok (Or.inr rfl) x) I.h1⟩
theorem AdZ{S:List (List Int)}{C:Cm}(ok:C.ok)(ho:C.out=false)(I:InvA S C)(n v:Int):InvA S (upC (G6 C n v).1):=by
 by_cases g:0≤n/\n<C.cfg.slots
 ·obtain⟨q,rfl⟩:=Int.eq_ofNat_of_zero_le g.1
  exact sI ok I (AdY (FrA.rfl' false C) _ _) (Ae0 (u:=false) ok ho I.snd g.2 v).snd
 ·have e:G6 C n v=(C,(DN C n).2):=by
   have:(DN C n).2≠0:=by
    unfold DN
    by_cases z:AT C n C.cfg.slots=0
    ·obtain⟨_,c1,c2⟩:=EA z;exact absurd ⟨c1,c2⟩ g
    ·rw[if_pos z];exact z
   unfold G6
   rw[if_pos this]
  rw[e,M4 ho];exact I
theorem AkC{S:List (List Int)}{C:Cm}(ok:C.ok)(ho:C.out=false)(I:InvA S C)(n:Int):InvA S (upC (FA C n).1):=by
 by_cases g:0≤n/\n<C.cfg.keys
 ·obtain⟨q,rfl⟩:=Int.eq_ofNat_of_zero_le g.1
  exact sI ok I (AkB (FrA.rfl' false C) _) (AkD (u:=false) ok ho I.snd g.2).snd
 ·have e:FA C n=(C,(CJ C n).2):=by
   have:(CJ C n).2≠0:=by
    unfold CJ
    by_cases z:AT C n C.cfg.keys=0
    ·obtain⟨_,c1,c2⟩:=EA z;exact absurd ⟨c1,c2⟩ g
    ·rw[if_pos z];exact z
   unfold FA
   rw[if_pos this]
  rw[e,M4 ho];exact I
theorem qP{c:Cfg}(m:c.may){a:Int}(a01:a=0∨a=1):DG [] (BP c) a:=by
 have sc:=I0 (UP m)
 by_cases g:CN (BP c).cfg<48
 ·exact Or.inl g
 right;left
 have hcl:=m.cells;have hsl:=m.slots
 have har:1≤c.area:=by
  have:=m.area
  rcases Int.lt_or_le 0 c.area with y | y
  ·omega
  ·exfalso
   have e:DY (BP c)=0:=by
    show c.area.toNat*c.cells.toNat=0
    rw[show c.area.toNat=0 by omega,Nat.zero_mul]
   rw[e]at sc;omega
 rw[MA]
 have e0:0 / 32 / (BP c).cfg.cells.toNat=0:=by simp
 have e1:0 / 32 % (BP c).cfg.cells.toNat*32+0 % 32=0:=by simp
 rw[e0,e1]
 have ep:(BP c).pg (DM (BP c) a+0)=E6 c:=by
  show (List.replicate c.np.toNat (E6 c)).getD _ []=_
  rw[List.getD_eq_getElem?_getD,List.getElem?_replicate,if_pos]
  ·rfl
  ·show (2+a*c.area).toNat+0<(2+2*c.area).toNat
   rcases a01 with rfl | rfl <;> omega
 rw[ep]
 unfold E6
 obtain⟨k,hk⟩:∃k,c.cells.toNat=k+1:=⟨c.cells.toNat-1,by omega⟩
 rw[hk,List.replicate_succ,List.flatten_cons,List.getD_eq_getElem?_getD,List.getElem?_append_left (by decide)]
 rfl
theorem Ag7{c:Cfg}(m:c.may):InvA [] (BP c):=⟨AgB m,qP m (Or.inl rfl),qP m (Or.inr rfl)⟩
end Go.Proofs.YteedolonhdbieaaGreatDoor
end
section
namespace Go.Proofs.YteedolonhdbieaaGreatDoor
open Go Go.Vc
set_option maxRecDepth 100000
attribute [local irreducible] BC AN BN BM BJ AL A6 B6 sG BO DF BY DO A5
abbrev opV(o:OpE)(mp:Option Addr)(ml mc:Nat):List Value:=[.int .i64 o.kind,.int .i64 o.n,.int .i64 o.v,.slice mp ml mc]
structure Behind (S:List (List Int)) (C D:Cm) (L:List Sec) (kind:Int) (bs:List Int) (f:Int):Prop where
 inv:InvA S (upC D)
 ok0:kind=2->f=0->PK (upC D) L bs
 pw:kind=2->f=8->oF S (upC D) L∨PK (upC D) L bs∨Stay C (upC D) L
 no:kind=2->f≠0->f≠8->Stay C (upC D) L/\(upC D).acts=C.acts
 up:D.out=false->upC D=D
section
variable {h0 h:H} {A B:List Ent} {i j p r b s m:Nat} {C C0:Cm}
theorem AfI(h:H):RdS h (none,0,0) (none,0,0) (none,0,0) ⟨[],[],[]⟩:=
 ⟨⟨[],rfl,⟨rfl,(fun v hv=>by cases hv),Or.inl rfl⟩,fun x hx=>by cases hx⟩,⟨rfl,(fun v hv=>by cases hv),Or.inl rfl⟩,⟨rfl,(fun v hv=>by cases hv),Or.inl rfl⟩⟩
theorem AfJ:St.typed ⟨[],[],[]⟩:=⟨fun l hl=>(by cases hl),fun n hn=>(by cases hn)⟩
theorem AfH{c:Cfg}(m:c.may):¬(⟨[],[],[]⟩:St).lays c:=by
 intro y
 have:=m.area
 have h1:((([]:List (List Int)).length:Nat):Int)=c.np:=y.fits.pages
 have h2:c.np=2+2*c.area:=rfl
 simp only[List.length_nil]at h1
 omega
theorem AjL{α:Type}(a b c d e w l s g x y:α)(B:List α):(a::b::c::d::e::w::l::s::g::x::y::B).Perm (l::s::g::w::x::y::a::b::c::d::e::B):=by
 have h1:([a,b,c,d,e]++([w,l,s,g,x,y]++B)).Perm ([w,l,s,g,x,y]++([a,b,c,d,e]++B)):=by
  have:=(List.perm_append_comm (l₁:=[a,b,c,d,e]) (l₂:=[w,l,s,g,x,y])).append_right B
  simpa using this
 have h2:(w::([l,s,g]++(x::y::([a,b,c,d,e]++B)))).Perm ([l,s,g]++w::(x::y::([a,b,c,d,e]++B))):=(List.perm_middle (l₁:=[l,s,g])).symm
 exact h1.trans h2
theorem AjK{α:Type}(a b c d e w l s g x y:α)(B:List α):(w::l::s::g::x::y::a::b::c::d::e::B).Perm (a::b::c::d::e::w::l::s::g::x::y::B):=by
 have:=(List.perm_append_comm (l₁:=[w,l,s,g,x,y]) (l₂:=[a,b,c,d,e])).append_right B
 simpa using this
theorem AiN{P:List Pg}(M:Met h0 P){x:Pg}(h1:x.rd h0 1)(h2:AW x.bytes)(h3:x.sl.2.1<2^60):Met h0 (P++[x]):=
 ⟨fun y hy=>(List.mem_append.1 hy).elim (M.rd y) fun z=>by rw[List.mem_singleton.1 z];exact h1,fun y hy=>(List.mem_append.1 hy).elim (M.by_ y) fun z=>by rw[List.mem_singleton.1 z];exact h2,
  fun y hy=>(List.mem_append.1 hy).elim (M.sm y) fun z=>by rw[List.mem_singleton.1 z];exact h3⟩
theorem zU{Q:Bool->HP}{X:List SR}{lp mq:Option Addr}{ll lc ml mc:Nat}(c:Cfg)(sc:List OpE)(hg:hc h0 ⟨0,0,none⟩=some GB)(rl:SecsAt h0 lp ll X)(hll:ll<2^47)(rd:Script15 h0 mq ml sc)(hlt:ml<2^42)(k:∀h',Sat h0 [] h'->Q true h'):
  TO c.cells c.slots c.fuses c.step c.keys c.erases c.area lp ll lc mq ml mc Q h0:=by
 unfold TO dK
 try simp only[AI,Nat.zero_add,List.append_nil]
 have hs:=Sat.init h0
 have hl:=rd.len
 intro n30 _ hn;replace hs:=Sat.new hs hn
 replace hs:Sat h0 [L9 n30 c] _:=hs
 refine AdJ hg hs ?_
 intro h1 hs
 rw[if_neg (by decide)]
 refine⟨_,hs.ld .z rfl,_,hs.ld .z rfl,_,hs.ld .z rfl,_,hs.ld .z rfl,_,hs.ld .z rfl,_,hs.ld .z rfl,_,hs.ld .z rfl,?_⟩
 refine AdM (a:=(none,0,0)) (b:=(none,0,0)) (c':=(none,0,0)) (s:=⟨[],[],[]⟩) (X:=X) c hs (fun h' hs'=>rl.ext hs') hll (fun h' hs'=>AfI h') AfJ ?_ ?_
 ·intro h2 hs J hJ
  rw[if_pos (by simp)]
  exact k _ hs.nil
 intro cm w pc rp mp R pr rr lp' lc' R2 C1 B h2 hC1 K W
 have e1:C1=BP c:=by
  rcases hC1 with⟨y,_⟩ | ⟨_,y⟩
  ·exact absurd y (AfH cm)
  ·exact y
 subst e1
 clear hC1
 obtain⟨C0,hC0⟩:∃C0,C0=BP c:=⟨_,rfl⟩
 have ho0:C0.out=false:=by rw[hC0];rfl
 obtain⟨L,hL⟩:∃L,L=X.map SR.kv:=⟨_,rfl⟩
 rw[←hL]at K
 clear hL
 intro J hJ
 rw[if_neg (by simp),if_neg (by decide)]
 apply hJ
 clear hJ J
 obtain⟨st0,lg0,lo0,hs⟩:=W
 intro n47 _ hn;replace hs:=Sat.new hs hn
 replace hs:=hs.sl_nil 1 none
 intro J50 hJ50
 refine BS ml (fun t h=>∃(C:Cm) (st lg lo:Nat) (P:List Pg) (sp:Option Addr) (sc':Nat),Met h0 P/\P.length≤t/\C.out=false/\InvA (P.map Pg.bytes) C/\
  Sat h0 (blk n47 [.slice sp P.length sc']::slE sp P.length sc' 1 (CG P)::WL w pc st lg lo rp pr rr C C0 B) h) ?_ ?_ 0 _ (by omega)
  ⟨BP c,st0,lg0,lo0,[],none,0,⟨fun _ y=>(by cases y),fun _ y=>(by cases y),fun _ y=>(by cases y)⟩,Nat.le_refl _,rfl,Ag7 cm,by
   have:=hs.perm (List.Perm.swap _ _ _)
   rw[hC0];exact this⟩
 case refine_2=>
  rintro h5 ⟨C,st,lg,lo,P,sp,sc',M,hP,ho,I,hs⟩
  apply hJ50
  rw[AD,if_neg (by rw[decide_eq_true_iff];omega)]
  exact k _ hs.nil
 clear hs
 rintro t h5 ht ⟨C,st,lg,lo,P,sp,sc',M,hP,ho,I,hs⟩ hk
 apply hJ50
 clear hJ50
 rw[AD,if_pos (by rw[decide_eq_true_iff];omega)]
 obtain⟨q,op,ol,oc,hq,e0,e1,e2,e3,hrd,hok,hcap⟩:=rd.at_ t (by omega)
 generalize sc[t]=o at *
 have X':Ext CR h0 h5:=hs.ex
 have hol:o.mask.length=ol:=by have:=hrd.1;simpa using this
 have hmm:=hok.ml
 have okC:=CW hs zs6
 refine⟨_,hq,by omega,by omega,?_⟩
 rw[Int.toNat_natCast]
 refine⟨_,IR X' e0 (fun y=>y),_,IR X' e1 (fun y=>y),_,IR X' e2 (fun y=>y),_,_,_,IR X' e3 (fun y=>y),?_⟩
 intro n60 _ hn;replace hs:=Sat.new hs hn
 refine⟨Sat.can hs .z (by decide),?_⟩
 intro h6 e6
 replace hs:=Sat.wra (xs:=opV o op ol oc) hs .z e6 rfl
 clear e6
 simp only[AG]at hs
 refine⟨_,hs.ld .z rfl,?_⟩
 by_cases k5:o.kind=5
 ·rw[if_pos (by simpa using k5)]
  refine⟨_,rfl,_,hs.ld zs3 rfl,_,hs.ld .z rfl,_,_,_,hs.ld .z rfl,?_⟩
  intro n72 _ hn;replace hs:=Sat.new hs hn
  refine⟨AH (hs.ld zs1 rfl),AH (hs.ld zs1 rfl),AH (hs.ld zs4 rfl),_,hs.base hrd,?_⟩
  replace hs:=(hs.drop).sl_nil 1 (some ⟨n72,0,none⟩)
  dsimp only[sE]at hs
  refine Sat.app hs (i:=0) (vs:=AA .u8 o.mask) .z (by simp[hol]) rfl (A9 _ _) (by omega) ?_
  intro p' c' h4 hs
  rw[AG]at hs
  simp only[List.nil_append,Nat.zero_add]at hs ⊢
  refine⟨AH (hs.ld zs1 rfl),AH (hs.ld zs4 rfl),_,rfl,?_⟩
  refine xI hs zs8 o.n hok.n (hs.sv .z) hok.mb (by omega) ?_
  intro h7 hs
  simp only[AV,AG]at hs
  rw[A0 (by omega)]
  exact hk _ ⟨MB C o.n o.mask,st,lg,lo,P,sp,sc',M,by omega,ho,⟨I.snd,I.h0,I.h1⟩,hs.drop.drop⟩
 rw[if_neg (by simpa using k5)]
 refine⟨_,rfl,_,hs.ld zs3 rfl,_,rfl,?_⟩
 refine T2 (L:=L) hg hs okC (gxL K).s.s.s zs4 ?_
 intro P1 h7 tl1 pl1 hs
 obtain⟨gC,hgC⟩:∃g,g=BO C L:=⟨_,rfl⟩
 obtain⟨nC,hnC⟩:∃g,g=DF C L:=⟨_,rfl⟩
 obtain⟨bC,hbC⟩:∃g,g=BY C L:=⟨_,rfl⟩
 rw[←hgC,←hbC]at tl1 pl1 hs
 rw[←hgC,←hbC,←hnC]
 intro n95 _ hn;replace hs:=Sat.new hs hn
 refine⟨Sat.can hs .z (by simp[AB]),?_⟩
 intro h8 e8
 replace hs:=Sat.wra (xs:=AX (BN gC bC) (BM gC bC) (BJ gC bC) (P1,(AL gC bC).length,(AL gC bC).length) (A6 gC bC)) hs .z e8 (by rw[DS tl1];rfl)
 clear e8
 simp only[AG]at hs
 refine⟨_,rfl,_,hs.ld zs5 rfl,_,rfl,?_⟩
 refine lH hs zs9 ?_
 intro J105 hJ105
 have tail:∀(f:Int) (D:Cm) (P':List Pg) (sp':Option Addr) (sc2:Nat) (h':H),Met h0 P'->P'.length≤t+1->Behind (P'.map Pg.bytes) C D L o.kind o.mask f->
   Sat h0 (blk n95 (AX (BN gC bC) (BM gC bC) (BJ gC bC) (P1,(AL gC bC).length,(AL gC bC).length) (A6 gC bC))::ER P1 (AL gC bC).length (AL gC bC)::blk n60 (opV o op ol oc) ::
    blk n47 [.slice sp' P'.length sc2]::slE sp' P'.length sc2 1 (CG P')::WL w pc st lg lo rp pr rr D C0 B) h'->J105 [.dv (.one (.int .i64 f))] h':=by
  clear hs
  intro f D P' sp' sc2 h' M' hP' BH hs
  apply hJ105
  clear hJ105
  intro J108 hJ108
  have okD:=CW hs zs9
  obtain⟨E,hE⟩:∃E,E=upC D:=⟨_,rfl⟩
  have okE:E.ok:=by rw[hE];exact kZ okD
  have hoE:E.out=false:=by rw[hE];rfl
  obtain⟨S',hS'⟩:∃S',S'=P'.map Pg.bytes:=⟨_,rfl⟩
  have t2:∀st lg lo h',Sat h0 (blk n95 (AX (BN gC bC) (BM gC bC) (BJ gC bC) (P1,(AL gC bC).length,(AL gC bC).length) (A6 gC bC))::ER P1 (AL gC bC).length (AL gC bC)::blk n60 (opV o op ol oc) ::
    blk n47 [.slice sp' P'.length sc2]::slE sp' P'.length sc2 1 (CG P')::WL w pc st lg lo rp pr rr E C0 B) h'->J108 [] h':=by
   clear hs
   intro st lg lo h' hs
   apply hJ108
   clear hJ108
   have hIE:InvA S' E:=by rw[hE,hS'];exact BH.inv
   have b0:=BH.ok0
   have b8:=BH.pw
   have bn:=BH.no
   rw[←hE,←hS']at b8
   rw[←hE]at b0 bn
   clear BH
   refine⟨_,rfl,_,hs.ld zs5 rfl,_,rfl,?_⟩
   refine T2 (L:=L) hg hs okE (gxL K).s.s.s.s.s zs6 ?_
   intro P2 h9 tl2 pl2 hs
   obtain⟨g,hgE⟩:∃g,g=BO E L:=⟨_,rfl⟩
   obtain⟨n,hnE⟩:∃g,g=DF E L:=⟨_,rfl⟩
   obtain⟨bE,hbE⟩:∃g,g=BY E L:=⟨_,rfl⟩
   rw[←hgE,←hbE]at tl2 pl2 hs
   rw[←hgE,←hbE,←hnE]
   intro n123 _ hn;replace hs:=Sat.new hs hn
   refine⟨Sat.can hs .z (by simp[AB]),?_⟩
   intro h10 e10
   replace hs:=Sat.wra (xs:=AX (BN g bE) (BM g bE) (BJ g bE) (P2,(AL g bE).length,(AL g bE).length) (A6 g bE)) hs .z e10 (by rw[DS tl2];rfl)
   clear e10
   simp only[AG]at hs
   -- what is told
   have cases2:(g=0/\(∃a,A5 E L=some a/\bE=(AJ E a).1)/\AW bE/\CA (BN g bE) (BM g bE) (BJ g bE) (AL g bE)++A6 g bE=bE/\(Oth S' bE∨bE∈S')) ∨
     (g=17/\A5 E L=none/\n=0/\AL g bE=[]):=by
    cases hA:A5 E L with
    | some a=>
     obtain⟨q1,q2,q3,q4,q5,q6,q7⟩:=v4 okE hoE hA
     rw[←hgE]at q1
     rw[←hbE]at q3
     left
     rw[q1]
     exact⟨rfl,⟨a,rfl,q3⟩,by rw[q3];exact q6,by rw[q3];exact q7,by rw[q3];exact Am7 okE hoE hIE hA⟩
    | none=>
     obtain⟨q1,q2,q3⟩:=Am9 (L:=L) hoE hA
     rw[←hgE]at q1
     right
     exact⟨q1,rfl,by rw[hnE];exact q2,by rw[q1,hbE];exact q3⟩
   have nil_:∀{Z:List Ent} {h':H},Sat h0 Z h'->Q true h':=fun hs'=>k _ hs'.nil
   obtain⟨Z,hZ⟩:∃Z,Z=(blk n123 (AX (BN g bE) (BM g bE) (BJ g bE) (P2,(AL g bE).length,(AL g bE).length) (A6 g bE))::ER P2 (AL g bE).length (AL g bE) ::
    blk n95 (AX (BN gC bC) (BM gC bC) (BJ gC bC) (P1,(AL gC bC).length,(AL gC bC).length) (A6 gC bC))::ER P1 (AL gC bC).length (AL gC bC)::blk n60 (opV o op ol oc) ::
    blk n47 [.slice sp' P'.length sc2]::slE sp' P'.length sc2 1 (CG P')::WL w pc st lg lo rp pr rr E C0 B):=⟨_,rfl⟩
   have z0:At Z 0 (blk n123 (AX (BN g bE) (BM g bE) (BJ g bE) (P2,(AL g bE).length,(AL g bE).length) (A6 g bE))):=by rw[hZ];exact .z
   have z1:At Z 1 (ER P2 (AL g bE).length (AL g bE)):=by rw[hZ];exact .s .z
   have z2:At Z 2 (blk n95 (AX (BN gC bC) (BM gC bC) (BJ gC bC) (P1,(AL gC bC).length,(AL gC bC).length) (A6 gC bC))):=by rw[hZ];exact .s zs1
   have z3:At Z 3 (ER P1 (AL gC bC).length (AL gC bC)):=by rw[hZ];exact .s zs2
   have z4:At Z 4 (blk n60 (opV o op ol oc)):=by rw[hZ];exact .s zs3
   have z5:At Z 5 (blk n47 [.slice sp' P'.length sc2]):=by rw[hZ];exact .s zs4
   have z6:At Z 6 (slE sp' P'.length sc2 1 (CG P')):=by rw[hZ];exact .s zs5
   have z7:At Z 7 (blk w (FZ pc rp pr rr (.pointer (some ⟨st,0,none⟩)) (.pointer (some ⟨lo,0,none⟩)))):=by rw[hZ];exact .s zs6
   have z11:At Z 11 (AF pc E):=by rw[hZ];exact .s wV
   have nxt:∀h',Sat h0 Z h'->J50 [si (t+1)] h':=by
    intro h' hs'
    rw[hZ]at hs'
    exact hk _ ⟨E,st,lg,lo,P',sp',sc2,M',hP',hoE,by rw[←hS'];exact hIE,hs'.drop.drop.drop.drop.drop⟩
   rw[←hZ]at hs
   clear hk
   rw[A0 (by omega)]
   intro J128 hJ128
   have j128:∀h',(g=0->¬Oth S' bE)->Sat h0 Z h'->J128 [] h':=by
    clear hs
    intro h' no hs
    apply hJ128
    clear hJ128
    intro J130 hJ130
    have j130:∀h',Sat h0 Z h'->J130 [] h':=by
     clear hs
     intro h' hs
     apply hJ130
     clear hJ130
     refine⟨_,hs.ld z4 rfl,?_⟩
     by_cases k2:o.kind=2
     case neg=>rw[if_pos (by simpa using k2)];exact nxt _ hs
     rw[if_neg (by simpa using k2)]
     have b0:=b0 k2
     have b8:=b8 k2
     have bn:=bn k2
     intro J133 hJ133
     have j133:∀(b134:Bool) h',(PK E L o.mask->b134=true)->Sat h0 Z h'->J133 [.dv (.one (.bool b134))] h':=by
      clear hs
      intro b134 h' f1 hs
      apply hJ133
      clear hJ133
      intro J136 hJ136
      have j136:∀(b137:Bool) h',(Stay C E L->b137=true)->Sat h0 Z h'->J136 [.dv (.one (.bool b137))] h':=by
       clear hs
       intro b137 h' f2 hs
       apply hJ136
       clear hJ136
       by_cases f0:f=0
       ·have:=f1 (b0 f0)
        subst this
        rw[if_pos (by simpa using f0),if_neg (by decide),if_neg (by rw[f0];decide),if_neg (by rw[f0];decide)]
        exact nxt _ hs
       rw[if_neg (by simpa using f0)]
       by_cases f8:f=8
       ·have:b134=true∨b137=true:=by
         rcases b8 f8 with⟨a,y1,y2⟩ | y | y
         ·exfalso
          rcases cases2 with⟨c1,⟨a',c2,c3⟩,_⟩ | ⟨_,c2,_⟩
          ·rw[y1]at c2
           injection c2 with c2
           refine no c1 ?_
           rw[c3,←c2];exact y2
          ·rw[y1]at c2;cases c2
         ·exact Or.inl (f1 y)
         ·exact Or.inr (f2 y)
        rw[if_pos (by simpa using f8)]
        cases b134 with
        | true=>
         rw[if_neg (by decide),if_pos (by simpa using f0),if_neg (by rw[f8];decide)]
         exact nxt _ hs
        | false=>
         have:=this.resolve_left (by decide)
         subst this
         rw[if_pos (by decide),if_neg (by decide),if_pos (by simpa using f0),if_neg (by rw[f8];decide)]
         exact nxt _ hs
       ·obtain⟨sty,acts⟩:=bn f0 f8
        have:=f2 sty
        subst this
        rw[if_neg (by simpa using f8),if_pos (by simpa using f0),if_pos (by simpa using f8),if_neg (by decide)]
        refine⟨_,rfl,_,hs.ld z7 rfl,_,rfl,?_⟩
        refine lH hs z11 ?_
        rw[if_neg (by rw[acts];simp)]
        exact nxt _ hs
      by_cases c1:gC=g
      case neg=>
       rw[if_neg (by simpa using c1)]
       exact j136 false _ (fun y=>absurd (by rw[hgC,hgE];exact (kQ ho hoE y).1) c1) hs
      rw[if_pos (by simpa using c1)]
      by_cases c2:nC=n
      case neg=>
       rw[if_neg (by simpa using c2)]
       exact j136 false _ (fun y=>absurd (by rw[hnC,hnE];exact (kQ ho hoE y).2.1) c2) hs
      rw[if_pos (by simpa using c2)]
      refine⟨_,hs.ld z2 rfl,_,hs.ld z2 rfl,_,hs.ld z2 rfl,_,_,_,hs.ld z2 rfl,_,tl1,CM hs z2 tl1,_,hs.ld z0 rfl,_,hs.ld z0 rfl,_,hs.ld z0 rfl,_,_,_,hs.ld z0 rfl,_,tl2,CM hs z0 tl2,?_⟩
      refine Al3 (pay:=AL gC bC) (pay2:=AL g bE) hs tl1 tl2 (fun h' hs'=>VG hs' z3) (fun h' hs'=>VG hs' z1) ?_
      intro q h'' hq hs
      refine j136 q _ (fun y=>?_) hs
      have e:=(kQ ho hoE y).2.2
      rw[←hbC,←hbE]at e
      subst c1
      rw[e]at hq
      exact hq rfl rfl rfl rfl rfl
     rcases cases2 with⟨c1,⟨a,c2,c3⟩,c4,c5,c6⟩ | ⟨c1,c2,c3,c4⟩
     case inr=>
      rw[if_neg (by rw[c1];decide)]
      have:∀h',Sat h0 Z h'->J133 [.dv (.one (.bool false))] h':=fun h' hs'=>j133 false _ (fun y=>by obtain⟨a,y1,_⟩:=y;rw[c2]at y1;cases y1) hs'
      exact⟨⟨this _ hs,this _ hs⟩,this _ hs⟩
     rw[if_pos (by simpa using c1)]
     have fin:∀(x y:List Int) h',x=bE->y=o.mask->Sat h0 Z h'->J133 [.dv (.one (.bool ((bytesOf x).toList == (bytesOf y).toList)))] h':=by
      intro x y h' e1 e2 hs'
      refine j133 _ _ (fun z=>?_) hs'
      obtain⟨a',y1,y2⟩:=z
      rw[c2]at y1
      injection y1 with y1
      have:bE=o.mask:=by rw[c3,y1,y2]
      rw[e1,e2,this,beq_self_eq_true]
     have tag:∀{Qt:Option Addr->Nat->Nat->HP} {h':H},Sat h0 Z h'->(∀p' c' h',Sat h0 (slE p' (48+(AL g bE).length) c' 1 (AA .u8 bE)::Z) h'->Qt p' (48+(AL g bE).length) c' h')->
       FP (BN g bE) (BM g bE) (BJ g bE) P2 (AL g bE).length (AL g bE).length (A6 g bE) Qt h':=by
      intro Qt h' hs' kt
      refine YI (pay:=AL g bE) hs' tl2 (by omega) (fun h' hs'=>VG hs' z1) ?_
      intro p' c' h'' hs'' _
      rw[c5]at hs''
      exact kt _ _ _ hs''
     refine⟨_,hs.ld z0 rfl,_,hs.ld z0 rfl,_,hs.ld z0 rfl,_,_,_,hs.ld z0 rfl,_,tl2,CM hs z0 tl2,_,_,_,hs.ld z4 rfl,?_,_,hs.base hrd,Sat.cs hs z0 (by rw[List.drop_zero,List.take_length]),?_⟩
     ·refine tag hs ?_
      intro p' c' h'' hs
      refine⟨AH (hs.ld z4.s rfl),⟨_,hs.sv .z,AH (hs.ld z4.s rfl),_,hs.base hrd,fin _ _ _ rfl rfl hs.drop⟩,_,hs.base hrd,_,hs.sv .z,fin _ _ _ rfl rfl hs.drop⟩
     ·refine tag hs ?_
      intro p' c' h'' hs
      exact⟨_,hs.sv .z,fin _ _ _ rfl rfl hs.drop⟩
    rcases cases2 with⟨c1,⟨a,c2,c3⟩,c4,c5,c6⟩ | ⟨c1,c2,c3,c4⟩
    case inr=>
     rw[if_neg (by rw[c1];decide),if_pos (by rw[c1];decide),if_neg (by rw[c1];decide)]
     refine⟨_,_,_,hs.ld z0 rfl,?_⟩
     rw[if_neg (by rw[c4];simp),if_neg (by rw[c3];decide)]
     exact j130 _ hs
    rw[if_pos (by simpa using c1)]
    refine⟨_,hs.ld z0 rfl,_,hs.ld z0 rfl,_,hs.ld z0 rfl,_,_,_,hs.ld z0 rfl,_,tl2,CM hs z0 tl2,?_⟩
    refine AgR M' hs z5 z6 tl2 (by dsimp only;omega) (fun h' hs'=>VG hs' z1) c5 c4 (by omega) ?_
    intro q h'' hq hs
    have:q=true:=by
     cases q with
     | true=>rfl
     | false=>
      exfalso
      have m:=c6.resolve_left (no c1)
      rw[hS']at m
      obtain⟨x,hx,e⟩:=List.mem_map.1 m
      exact hq rfl x hx e
    subst this
    rw[if_neg (by decide),if_neg (by rw[c1];decide)]
    exact j130 _ hs
   by_cases c1:g=0
   case neg=>
    rw[if_neg (by simpa using c1)]
    exact j128 _ (fun y=>absurd y c1) hs
   rw[if_pos (by simpa using c1)]
   rcases cases2 with⟨_,⟨a,c2,c3⟩,c4,c5,c6⟩ | ⟨y,_⟩
   case inr=>rw[c1]at y;cases y
   refine⟨_,hs.ld z0 rfl,_,hs.ld z0 rfl,_,hs.ld z0 rfl,_,_,_,hs.ld z0 rfl,_,tl2,CM hs z0 tl2,?_⟩
   refine AjC M' hs z5 z6 tl2 (by dsimp only;omega) (fun h' hs'=>VG hs' z1) c5 c4 (by omega) ?_
   intro q h'' hq hs
   cases q with
   | true=>rw[if_pos rfl];exact nil_ hs
   | false=>
    rw[if_neg (by decide)]
    refine j128 _ (fun _ y=>?_) hs
    obtain⟨s,m,ne,sb1,sb2,sb3⟩:=y
    rw[hS']at m
    obtain⟨x,hx,e⟩:=List.mem_map.1 m
    exact hq rfl x hx (by rw[e];exact sb1) (by rw[e];exact ne) (by rw[e];exact⟨sb2,sb3⟩)
  -- is there power?
  refine⟨_,rfl,_,hs.ld zs5 rfl,_,rfl,?_⟩
  refine PH hs zs9 ?_
  cases hoD:D.out with
  | false=>
   rw[if_neg (by decide)]
   have eE:E=D:=by rw[hE];exact BH.up hoD
   rw[eE]at t2
   exact t2 _ _ _ _ hs
  | true=>
   rw[if_pos rfl]
   refine⟨_,rfl,_,hs.ld zs5 rfl,_,rfl,?_⟩
   refine AcY hs zs9 ?_
   intro h9 hs
   simp only[AV,AG]at hs
   replace hs:Sat h0 (blk n95 (AX (BN gC bC) (BM gC bC) (BJ gC bC) (P1,(AL gC bC).length,(AL gC bC).length) (A6 gC bC))::ER P1 (AL gC bC).length (AL gC bC)::blk n60 (opV o op ol oc) ::
    blk n47 [.slice sp' P'.length sc2]::slE sp' P'.length sc2 1 (CG P')::WL w pc st lg lo rp pr rr E C0 B) h9:=by rw[hE];exact hs
   refine⟨_,rfl,_,hs.ld zs5 rfl,_,rfl,?_⟩
   obtain⟨u1,u2⟩:=Ak8 hs wV ho0
   refine⟨u1,?_⟩
   intro h10 e10
   replace hs:=u2 _ e10
   clear u1 u2 e10
   refine⟨_,rfl,?_⟩
   -- mounted anew
   have perm:Sat h0 (blk w (FZ pc rp pr rr (.pointer (some ⟨st,0,none⟩)) (.pointer (some ⟨lo,0,none⟩)))::AF pc E::CT pr C0 ::
     (blk n95 (AX (BN gC bC) (BM gC bC) (BJ gC bC) (P1,(AL gC bC).length,(AL gC bC).length) (A6 gC bC))::ER P1 (AL gC bC).length (AL gC bC)::blk n60 (opV o op ol oc) ::
     blk n47 [.slice sp' P'.length sc2]::slE sp' P'.length sc2 1 (CG P')::B)) h10:=by
    refine Sat.sub (hs.perm (AjL _ _ _ _ _ _ _ _ _ _ _ _)) ?_
    exact ((((List.sublist_cons_self _ _).trans (List.sublist_cons_self _ _)).trans (List.sublist_cons_self _ _)))
   refine AiS perm hoE ho0 ?_
   intro st lg lo h11 hs
   rw[if_neg (by decide)]
   refine t2 st lg lo _ (hs.perm ?_)
   exact AjK _ _ _ _ _ _ _ _ _ _ _ _
 clear hJ105
 refine⟨_,hs.ld zs2 rfl,?_⟩
 by_cases k2:o.kind=2
 ·rw[if_pos (by simpa using k2)]
  refine⟨_,_,_,hs.ld zs3 rfl,_,_,_,hs.ld zs2 rfl,?_⟩
  intro n269 _ hn;replace hs:=Sat.new hs hn
  refine⟨AH (hs.ld zs4 rfl),_,hs.bv (i:=0) (l:=1) .z rfl (by intro v hv;simp at hv;subst hv;rfl),?_⟩
  replace hs:=hs.drop
  refine Sat.app hs zs4 (vs:=[.slice op ol oc]) rfl rfl (by intro v hv;simp at hv;subst hv;rfl) (by omega) ?_
  intro p2 c2 h9 hs
  simp only[AV,AG]at hs
  refine⟨Sat.can hs zs3 (Nat.le_refl 1),?_⟩
  intro h10 e10
  replace hs:=Sat.wra (xs:=[.slice p2 (P.length+1) c2]) hs zs3 e10 rfl
  clear e10
  simp only[AV,AG]at hs
  have eP:CG P++[.slice op ol oc]=CG (P++[⟨(op,ol,oc),o.mask⟩]):=by unfold CG;rw[List.map_append];rfl
  rw[eP]at hs
  refine⟨_,rfl,_,hs.ld zs5 rfl,_,_,_,hs.ld zs2 rfl,?_⟩
  intro n284 _ hn;replace hs:=Sat.new hs hn
  refine⟨AH (hs.ld zs3 rfl),AH (hs.ld zs6 rfl),_,hs.base hrd,?_⟩
  replace hs:=(hs.drop).sl_nil 1 (some ⟨n284,0,none⟩)
  dsimp only[sE]at hs
  refine Sat.app hs (i:=0) (vs:=AA .u8 o.mask) .z (by simp[hol]) rfl (A9 _ _) (by omega) ?_
  intro p3 c3 h11 hs
  rw[AG]at hs
  simp only[List.nil_append,Nat.zero_add]at hs ⊢
  have hc3:=UF hs .z
  refine⟨AH (hs.ld zs6 rfl),_,rfl,?_⟩
  refine oA (L:=L) (bs:=o.mask) hg hs okC (gxL K).s.s.s.s.s.s (z:=7) (by decide) zs7 (fun D X h' hs'=>(hs'.sub (List.sublist_append_right X _)).sv .z) hok.mb hol hc3 (by omega) ?_
  intro h12 hs
  simp only[AV,AG]at hs
  have Wh:=AlV (L:=L) okC ho I hok.mb
  have el:(P++[(⟨(op,ol,oc),o.mask⟩:Pg)]).length=P.length+1:=by simp
  have em:(P++[(⟨(op,ol,oc),o.mask⟩:Pg)]).map Pg.bytes=P.map Pg.bytes++[o.mask]:=by simp
  refine tail _ (DO C L o.mask).1 (P++[⟨(op,ol,oc),o.mask⟩]) p2 c2 _ (AiN (x:=⟨(op,ol,oc),o.mask⟩) M hrd hok.mb (by dsimp only;omega)) (by rw[el];omega) ?_ (by rw[el];exact hs.drop)
  rw[em]
  exact⟨Wh.inv,fun _=>Wh.ok,fun _=>Wh.pw,fun _ y1 y2=>by obtain⟨z1,z2⟩:=Wh.no y1 y2;rw[z1];exact⟨Stay.rfl' C L,rfl⟩,M4⟩
 rw[if_neg (by simpa using k2)]
 have n2:∀{S:List (List Int)} {D:Cm} {f:Int},InvA S (upC D)->Behind S C D L o.kind o.mask f:=fun y=>⟨y,fun z=>absurd z k2,fun z=>absurd z k2,fun z=>absurd z k2,M4⟩
 by_cases k3:o.kind=3
 ·rw[if_pos (by simpa using k3)]
  refine⟨_,rfl,_,hs.ld zs5 rfl,_,hs.ld zs2 rfl,_,hs.ld zs2 rfl,_,rfl,?_⟩
  refine AkZ hs (i:=9) (j:=8) zs9 zs8 zs7 (by decide) (by decide) o.n o.v ?_
  intro h9 hs
  simp only[AV,AG]at hs
  exact tail 0 _ P sp sc' _ M (by omega) (n2 (AdZ okC ho I _ _)) hs
 rw[if_neg (by simpa using k3)]
 by_cases k4:o.kind=4
 ·rw[if_pos (by simpa using k4)]
  refine⟨_,rfl,_,hs.ld zs5 rfl,_,hs.ld zs2 rfl,_,rfl,?_⟩
  refine Al1 hs (i:=9) zs9 zs7 o.n ?_
  intro h9 hs
  simp only[AV,AG]at hs
  exact tail 0 _ P sp sc' _ M (by omega) (n2 (AkC okC ho I _)) hs
 rw[if_neg (by simpa using k4)]
 exact tail 0 C P sp sc' _ M (by omega) (n2 (by rw[M4 ho];exact I)) hs
end
end Go.Proofs.YteedolonhdbieaaGreatDoor
end
section
namespace Go.Proofs.YteedolonhdbieaaGreatDoor
open Go Go.Vc Go.ChangeShapes Go.WideShapes Go.ChangeAt Go.RowKit
set_option maxRecDepth 100000
theorem Al7{D:Type}{enc:TypeId×Value->D}{W:World}{p:Option Addr}{l c:Nat}(h:Sli enc PP W 107 p l c):l<2^42:=by
 have hb:Tryz.prog.bytesOf 107=48:=by kernel_rfl
 have hlc:=h.1
 have hr:=h.2.1
 rw[hb]at hr
 unfold reachBytes at hr
 omega
theorem zF{D:Type}{enc:TypeId×Value->D}{W:World}{base:Nat}(hg:hc W.heap ⟨0,0,none⟩=some GB)(vs:List Value)(h:lI enc PP W base [23,24,100] vs):lL PP 6 vs W:=by
 obtain⟨hl,h⟩:=h
 match vs,hl with
 | [v0,v1,v3],_=>
 obtain⟨r0,w0⟩:=h 0 _ v0 rfl rfl
 obtain⟨r1,w1⟩:=h 1 _ v1 rfl rfl
 obtain⟨r3,w3⟩:=h 2 _ v3 rfl rfl
 obtain⟨c,rfl⟩:=AeM r0 w0
 obtain⟨p1,l1,c1,rfl,hs1⟩:=vH (e:=172) (by kernel_rfl) r1 w1
 obtain⟨X,hX,hll⟩:=AlC hs1
 obtain⟨p3,l3,c3,rfl,hs3⟩:=vH (e:=107) (by kernel_rfl) r3 w3
 obtain⟨sc,hsc⟩:=Al8 hs3
 have:=AbH [.agg (c.vals.map .c),.one (.slice p1 l1 c1),.one (.slice p3 l3 c3)] (fun rs h'=>rs=[DV.one (.bool true)]/\Ext CR W.heap h') W.heap (by
  intro x hx
  simp only[List.mem_cons,List.not_mem_nil,or_false]at hx
  rcases hx with rfl | rfl | rfl
  ·exact Aj4 c
  ·rfl
  ·rfl) (by
  show TO c.cells c.slots c.fuses c.step c.keys c.erases c.area p1 l1 c1 p3 l3 c3 (fun b h'=>[DV.one (.bool b)]=[DV.one (.bool true)]/\Ext CR W.heap h') W.heap
  exact zU c sc hg hX hll hsc (Al7 hs3) fun h' x=>⟨rfl,x.ex⟩)
 exact this
theorem zR(os:Os)(started:os.Started)(D:Type)(enc:TypeId×Value->D):
  ReturnsInHanded {} Tryz.checked os 6 .any (fun w args=>(Rows.loaderWholeSpec.pre enc Tryz.prog Tryz.f6 [] false w args/\laidMetH Tryz.prog P4 w)/\sizedMet enc Tryz.prog Tryz.f6 (OpenSpec.ofChange Rows.loaderWholeSpec) false w args)
   (Rows.loaderWholeSpec.post enc Tryz.prog Tryz.f6 false true false false):=by
 refine returnsInHanded_of_change_and (C:=Tryz.checked) (X:=fun w _=>laidMetH Tryz.prog P4 w) (fun _ _ _ hh h=>h.of_heap hh) Tryz.own started (by kernel_rfl) Tryz.func6
  (ChangeSpec.witness_at (enc:=enc) (C:=Tryz.checked) (os:=os) (X:=fun w _=>laidMetH Tryz.prog P4 w) false (s6 os) #[.agg #[.int .i64 0,.int .i64 0,.int .i64 0,.int .i64 0,.int .i64 0,.int .i64 0,.int .i64 0],.slice none 0 0,.slice none 0 0] 8 rfl (by kernel_rfl) (by kernel_rfl) (by kernel_rfl) (by kernel_rfl) (by kernel_rfl) (AhR os _)) ?_
 intro W base args ds gs before hval hW hcnd hsz hL _
 exact AhU (P:=Tryz.prog) (fn:=Tryz.f6) (s:=Rows.loaderWholeSpec) [23,24,100] (by kernel_rfl) Tryz.laidOut rfl (by kernel_rfl) (by kernel_rfl) Tryz.ubool
  (fun ds hl=>match ds,hl with | [d1,d2,d3],_=>rfl) hval hW hsz (zF (AgQ hL))
theorem zH:(Rows.loaderWholeRow.wf (OpenSpec.ofChange Rows.loaderWholeSpec)&&laidOutB Tryz.prog&&mapsRowed Tryz.prog&&Tryz.f6.params.all (Tryz.prog.readableRec ·)&&namedTie Tryz.prog Rows.loaderWholeRow.named Rows.loaderWholeSpec.vars&&(Rows.loaderWholeRow.stops == [])&&(Tryz.prog.stops == [])&&(Rows.loaderWholeRow.knobs == [])&&(Tryz.prog.stopKnobs == []))=true:=by kernel_rfl
theorem zI:(Rows.loaderWholeRow.inPlace == Tryz.prog.inPlace 6)=true:=by kernel_rfl
theorem zJ:(Rows.loaderWholeRow.unfollowed == Tryz.prog.unfollowed 6)=true:=by kernel_rfl
theorem zK:(Rows.loaderWholeRow.recurses == Tryz.prog.recurses 6)=true:=by kernel_rfl
theorem zL:(Rows.loaderWholeRow.named == Tryz.prog.varsNamed 6)=true:=by kernel_rfl
theorem zN:Tryz.prog.stopsHeard=true:=by kernel_rfl
theorem zO:Tryz.prog.mayEnter=true:=by kernel_rfl
theorem zP:(Rows.loaderWholeRow.lifted == Tryz.prog.liftsFinal)=true:=by kernel_rfl
theorem zQ:(Tryz.prog.make == some Rows.loaderWholeRow.make)=true:=by kernel_rfl
theorem zG:joinedFacts Tryz.pinned.checked.prog 6 Tryz.f6 Rows.loaderWholeSpec Rows.loaderWholeRow=true:=by
 unfold joinedFacts
 exact DI (DI (DI (DI (DI (DI (DI (DI (DI (DI (DI (DI (DI (DI (DI (DI (DI (DI (DI (DI (DI (DI (DI (zH) zI) zJ) zK) zL) (by kernel_rfl)) (by kernel_rfl)) (by kernel_rfl)) (by kernel_rfl)) (by kernel_rfl)) (by kernel_rfl)) (by kernel_rfl)) (by kernel_rfl)) (by kernel_rfl)) (by kernel_rfl)) (by kernel_rfl)) zN) zO) zP) zQ) (by kernel_rfl)) (by kernel_rfl)) (by kernel_rfl)) (by kernel_rfl)
theorem zT:Rows.LoaderWholeSaid:=
 OpenClaim.holds_of_wide 6 Tryz.f6 rfl rfl rfl rfl rfl rfl rfl ⟨rfl,rfl,rfl,rfl,rfl⟩ rfl rfl rfl rfl rfl (by kernel_rfl) Tryz.func6 zG
  (of_decide_eq_true (by kernel_rfl)) (by unfold Func.isWrapper;first | (rw[if_pos (by decide +kernel)];kernel_rfl) | (rw[if_neg (by decide +kernel)];exact⟨rfl,rfl⟩))
  (fun os started H enc _=>zR os started H enc)
theorem zS(f : FuncId)(fn : Func)(hf : Tryz.pinned.checked.prog.funcNamed "portcullis/portcullislaw15.LoaderWhole" = some f)(hfn : Tryz.pinned.checked.prog.funcs[f]? = some fn) :
  true=Tryz.pinned.checked.prog.looks []/\∀(j:Nat) t,fn.params[j]?=some t->Tryz.pinned.checked.prog.wantsStandIn t=false:=by
 obtain rfl : f = 6 := Option.some.inj ((show Tryz.prog.funcNamed "portcullis/portcullislaw15.LoaderWhole" = some 6 by kernel_rfl).symm.trans hf) |>.symm
 obtain rfl:fn=Tryz.f6:=(Option.some.inj (Tryz.func6.symm.trans hfn)).symm
 refine⟨by kernel_rfl,fun j t ht=>?_⟩
 have hm:=Array.mem_of_getElem? ht
 have hm2:t∈([23,24,100]:List Nat):=by
  have:Tryz.f6.params.toList=[23,24,100]:=by kernel_rfl
  rw[←this];exact Array.mem_toList_iff.2 hm
 simp only[List.mem_cons,List.not_mem_nil,or_false]at hm2
 rcases hm2 with rfl | rfl | rfl <;> (first | kernel_rfl | rfl)
theorem LoaderWhole_holds:Rows.LoaderWholeCardSaid:=
 Claim7.holds_tied_plain_at .later [] _ _ _ _ zT (fun _ h=>by cases h) (by kernel_rfl) (fun _ h=>by cases h) loaderWhole_row_tie rfl ⟨rfl,rfl⟩ (by kernel_rfl) rfl zS (by kernel_rfl)
end Go.Proofs.YteedolonhdbieaaGreatDoor
end
