/- LoaderDoes and its parts, laid together by a program of ours: St1 Ly3 St4 Sr Tq2 Tq4 St5 St6 Im1 Im2 Im3 Of Ar13 -/
import Derived.Test.YteedolonhdbieaaGreatDoorK15
set_option autoImplicit false
set_option linter.all false
section
namespace Go.Proofs.YteedolonhdbieaaGreatDoor
open Go Go.Vc
set_option maxRecDepth 100000
abbrev DG(s p r:Nat):Ent:=blk s [.pointer (some ⟨p,0,none⟩),.pointer (some ⟨r,0,none⟩)]
def DX(c:Cfg):Int:=c.step*c.fuses+c.step-1
theorem aH{c:Cfg}(m:c.may):0≤DX c/\DX c≤4259839/\c.step*c.fuses≤4194304/\0≤c.step*c.fuses:=by
 have h1:=m.step
 have h2:=m.fuses
 have a:c.step*c.fuses≤65536*64:=Int.mul_le_mul h1.2 h2.2 (by omega) (by decide)
 have b:0≤c.step*c.fuses:=Int.mul_nonneg (by omega) (by omega)
 unfold DX
 omega
def WH(C:Cm)(slot:Int):Int:=if (C7 C slot).1*C.cfg.step<FE C slot.toNat then FE C slot.toNat else (C7 C slot).1*C.cfg.step
def C2(C:Cm)(slot:Int):Int×Int:=if AT C slot C.cfg.slots≠0 then (0,AT C slot C.cfg.slots) else (WH C slot,0)
def SN(C:Cm)(slot v:Int):Cm×Int:=
 if (C2 C slot).2≠0 then (C,(C2 C slot).2) else if v<0 then (C,2) else if v≤(C2 C slot).1 then (C,0) else if DX C.cfg<v then (C,10)
 else if (EQ C slot v).2≠0 then EQ C slot v else OO (EQ C slot v).1 slot (v.tdiv C.cfg.step)
theorem Ak1{C:Cm}(ok:C.ok)(slot:Int):0≤(C7 C slot).1/\(C7 C slot).1≤C.cfg.fuses:=by
 have h2:=ok.may.fuses
 unfold C7
 split
 ·exact⟨Int.le_refl 0,by show (0:Int)≤_;omega⟩
 ·have:=ZR C.s.blown (slot*C.cfg.fuses).toNat C.cfg.fuses.toNat
  dsimp only
  omega
theorem AbO{C:Cm}(ok:C.ok)(slot:Int):0≤(C7 C slot).1*C.cfg.step/\(C7 C slot).1*C.cfg.step≤4194304/\0≤WH C slot/\WH C slot≤A8:=by
 have h1:=ok.may.step
 have h2:=ok.may.fuses
 obtain⟨c0,c1⟩:=Ak1 ok slot
 have a:(C7 C slot).1*C.cfg.step≤64*65536:=Int.mul_le_mul (by omega) h1.2 (by omega) (by decide)
 have b:0≤(C7 C slot).1*C.cfg.step:=Int.mul_nonneg c0 (by omega)
 have d:=(SD ok).nums slot.toNat
 have hm:=X5
 refine⟨b,by omega,?_⟩
 unfold WH
 split
 ·exact d
 ·omega
section
variable {h0 h:H} {A:List Ent} {i j p r b s m:Nat} {C:Cm}
theorem AaU{Q:Option Addr->Int->HP}(hs:Sat h0 A h)(ci:At A i (AH p C))(k1:C.out=true->Q none 8 h)(k2:C.out=false->∀s l h',Sat h0 (DG s p l::BY l p::A) h'->Q (some ⟨s,0,none⟩) 0 h'):K1 ⟨p,0,none⟩ Q h:=by
 unfold K1 mW
 refine sA hs ci ?_ ?_
 ·intro ho
  rw[if_pos (by simp)]
  exact k1 ho
 ·intro ho l h1 hs
  rw[if_neg (by simp)]
  intro n7 _ hn;replace hs:=Sat.new hs hn
  exact k2 ho n7 l _ hs
theorem AaT{Q:Int->HP}(hs:Sat h0 A h)(ci:At A i (AH p C))(st:At A m (DG s p r))(k:∀h',Sat h0 A h'->Q (DX C.cfg) h'):K2 ⟨s,0,none⟩ Q h:=by
 unfold K2 m4
 try simp only[AF,Nat.zero_add]
 have ok:=CG hs ci
 obtain⟨l0,l1,l2,l3⟩:=aH ok.may
 have h1:=ok.may.step
 refine⟨_,hs.ld st rfl,_,rfl,?_⟩
 refine CE hs ci ?_
 intro h1 hs
 intro n14 _ hn;replace hs:=Sat.new hs hn
 refine⟨Sat.can hs .z (by decide),?_⟩
 intro h2 e
 replace hs:=Sat.wra hs .z e rfl
 clear e
 simp only[put]at hs
 refine⟨_,hs.ld .z rfl,_,hs.ld .z rfl,_,hs.ld .z rfl,?_⟩
 rw[AL (n:=C.cfg.step*C.cfg.fuses) (by omega),AL (n:=C.cfg.step*C.cfg.fuses+C.cfg.step) (by omega),AL (by unfold DX at l0 l1;omega)]
 exact k _ hs.drop
theorem qW{Q:Int->HP}(hs:Sat h0 A h)(ci:At A i (AH p C))(st:At A m (DG s p r))(x n:Int)(k:Q (AT C x n) h):HL ⟨s,0,none⟩ x n Q h:=by
 unfold HL nC
 refine⟨_,hs.ld st rfl,_,rfl,?_⟩
 refine RX hs ci ?_
 unfold AT at k
 by_cases ho:C.out=true
 ·rw[if_pos ho]at k;rw[if_pos ho];exact k
 rw[if_neg ho]at k;rw[if_neg ho]
 by_cases g1:x<0
 ·rw[if_pos g1]at k;rw[AD,if_pos (by simpa using g1)];exact k
 rw[if_neg g1]at k;rw[AD,if_neg (by simpa using g1)]
 by_cases g2:n≤x
 ·rw[if_pos g2]at k;rw[A0,if_pos (by simpa using g2)];exact k
 rw[if_neg g2]at k;rw[A0,if_neg (by simpa using g2)];exact k
theorem qX{Q:Int->Int->HP}(hs:Sat h0 A h)(ci:At A i (AH p C))(cl:At A j (BY r p))(st:At A m (DG s p r))(slot:Int)(k:∀h',Sat h0 A h'->Q (C2 C slot).1 (C2 C slot).2 h'):HK ⟨s,0,none⟩ slot Q h:=by
 unfold HK m7
 try simp only[AF,Nat.zero_add,List.append_nil]
 have ok:=CG hs ci
 refine⟨_,hs.ld st rfl,_,rfl,?_⟩
 refine CE hs ci ?_
 intro h1 hs
 refine qW hs ci st _ _ ?_
 unfold C2 at k
 by_cases ha:AT C slot C.cfg.slots=0
 case neg=>
  rw[if_pos (by simpa using ha)]
  rw[if_pos ha]at k
  exact k _ hs
 rw[if_neg (fun y=>y ha)]at k
 rw[if_neg (by simpa using ha)]
 obtain⟨ho,g0,g1⟩:=CV ha
 refine⟨_,hs.ld st rfl,_,rfl,?_⟩
 refine AcH hs ci slot ?_
 intro h2 hs
 have ec:(C7 C slot).2=0:=by unfold C7;rw[if_neg (fun y=>y ha)]
 rw[ec,if_neg (by simp)]
 refine⟨_,hs.ld st rfl,_,rfl,?_⟩
 refine sB hs ci cl slot ?_
 intro h3 hs
 have en:DF C slot=(FE C slot.toNat,0):=by
  unfold DF
  rw[if_neg (by simp[ho]),if_neg (fun y=>y ⟨g0,by omega⟩)]
 rw[en,if_neg (by simp)]
 refine⟨_,hs.ld st rfl,_,rfl,?_⟩
 refine CE hs ci ?_
 intro h4 hs
 obtain⟨v0,v1,_⟩:=AbO ok slot
 rw[AL (by omega)]
 intro n40 _ hn;replace hs:=Sat.new hs hn
 refine⟨Sat.can hs .z (by simp[AB]),?_⟩
 intro h5 e
 replace hs:=Sat.wra hs .z e (by simp[AB])
 clear e
 simp only[put]at hs
 refine⟨by decide,by decide,_,hs.ld .z rfl,by decide,by decide,_,hs.ld .z rfl,?_⟩
 exact k _ hs.drop
theorem ApC{Q:Int->HP}{nn ns:Nat}{now v:Int}(hs:Sat h0 A h)(ci:At A i (AH p C))(st:At A m (DG s p r)){x y:Nat}(tn:At A x (blk nn [.int .i64 now]))(ts:At A y (blk ns [.pointer (some ⟨s,0,none⟩)]))
  (k:∀h',Sat h0 A h'->Q (if v<0 then 2 else if now<v then (if DX C.cfg<v then 10 else 0) else 0) h'):RS v ⟨nn,0,none⟩ ⟨ns,0,none⟩ Q h:=by
 unfold RS m0
 by_cases g1:v<0
 ·rw[if_pos g1]at k;rw[AD,if_pos (by simpa using g1)];exact k _ hs
 rw[if_neg g1]at k;rw[AD,if_neg (by simpa using g1)]
 refine⟨_,hs.ld tn rfl,?_⟩
 by_cases g2:now<v
 ·rw[if_pos g2]at k;rw[AD,if_pos (by simpa using g2)]
  refine⟨_,hs.ld ts rfl,_,rfl,?_⟩
  refine AaT hs ci st ?_
  intro h1 hs
  by_cases g3:DX C.cfg<v
  ·rw[if_pos g3]at k;rw[AD,if_pos (by simpa using g3)];exact k _ hs
  ·rw[if_neg g3]at k;rw[AD,if_neg (by simpa using g3)];exact k _ hs
 ·rw[if_neg g2]at k;rw[AD,if_neg (by simpa using g2)];exact k _ hs
theorem yQ(ok:C.ok)(slot n:Int):(EQ C slot n).1.cfg=C.cfg:=by
 have ep:∀(t:Int) (nums:List Int) (m x a:Nat) (D:Cm),(EV t nums m x a D).1.cfg=D.cfg:=by
  intro t nums m
  induction m with
  | zero=>intro x a D;rfl
  | succ m ih=>
   intro x a D
   unfold EV
   split
   ·exact ih _ _ _
   ·split
    ·exact OM _ _ _ _
    ·exact (ih _ _ _).trans (OM _ _ _ _)
 have ea:∀(g t:Int) (nums:List Int) (m:Nat) (D:Cm),(EU g t nums m D).1.cfg=D.cfg:=by
  intro g t nums m D
  unfold EU
  split
  ·exact ep _ _ _ _ _ _
  ·exact (OM _ _ _ _).trans (ep _ _ _ _ _ _)
 unfold EQ
 (repeat' split) <;> first | rfl | exact OM _ _ _ _ | skip
 unfold ND
 split
 ·exact ea _ _ _ _ _
 ·split
  ·exact SB _ _
  ·exact (ea _ _ _ _ _).trans (SB _ _)
theorem ApB{Q:Int->HP}(hs:Sat h0 A h)(ci:At A i (AH p C))(cl:At A j (BY r p))(st:At A m (DG s p r))(hij:j≠i)(him:m≠i)(slot v:Int)
  (k:∀h',Sat h0 (put A i (AH p (SN C slot v).1)) h'->Q (SN C slot v).2 h'):RR ⟨s,0,none⟩ slot v Q h:=by
 unfold RR mZ
 try simp only[AF,Nat.zero_add,List.append_nil]
 have ok:=CG hs ci
 have hst:=ok.may.step
 intro n10 _ hn;replace hs:=Sat.new hs hn
 refine⟨_,hs.ld .z rfl,_,rfl,?_⟩
 refine qX hs ci.s cl.s st.s slot ?_
 intro h1 hs
 intro n18 _ hn;replace hs:=Sat.new hs hn
 refine⟨Sat.can hs .z (by decide),?_⟩
 intro h2 e
 replace hs:=Sat.wra hs .z e rfl
 clear e
 simp only[put]at hs
 unfold SN at k
 by_cases ge:(C2 C slot).2=0
 case neg=>
  rw[if_pos ge]at k
  rw[if_pos (by simpa using ge)]
  exact k _ (by rw[ci.put_self];exact hs.drop.drop)
 rw[if_neg (fun y=>y ge)]at k
 rw[if_neg (by simpa using ge)]
 intro J hJ
 refine ApC hs ci.s.s st.s.s (x:=0) .z zs1 ?_
 intro h3 hs
 by_cases g1:v<0
 ·rw[if_pos g1]at k
  rw[if_pos g1,if_pos (by simp)]
  exact k _ (by rw[ci.put_self];exact hs.drop.drop)
 rw[if_neg g1]at k
 rw[if_neg g1]
 by_cases g2:v≤(C2 C slot).1
 ·rw[if_pos g2]at k
  rw[if_neg (show ¬(C2 C slot).1<v by omega),if_neg (by simp)]
  refine⟨_,hs.ld .z rfl,?_⟩
  rw[A0,if_pos (by simpa using g2)]
  exact k _ (by rw[ci.put_self];exact hs.drop.drop)
 rw[if_neg g2]at k
 rw[if_pos (show (C2 C slot).1<v by omega)]
 by_cases g3:DX C.cfg<v
 ·rw[if_pos g3]at k
  rw[if_pos g3,if_pos (by simp)]
  exact k _ (by rw[ci.put_self];exact hs.drop.drop)
 rw[if_neg g3]at k
 rw[if_neg g3,if_neg (by simp)]
 refine⟨_,hs.ld .z rfl,?_⟩
 rw[A0,if_neg (by simpa using g2)]
 apply hJ
 clear hJ J
 refine⟨_,hs.ld zs1 rfl,_,rfl,_,hs.ld st.s.s rfl,_,rfl,?_⟩
 refine r9 hs ci.s.s cl.s.s (by omega) slot v ?_
 intro h4 hs
 simp only[AS]at hs
 have ecf:=yQ ok slot v
 generalize EQ C slot v=X at *
 by_cases gx:X.2=0
 case neg=>
  rw[if_pos gx]at k
  rw[if_pos (by simpa using gx)]
  exact k _ hs.drop.drop
 rw[if_neg (fun y=>y gx)]at k
 rw[if_neg (by simpa using gx)]
 refine⟨_,hs.ld zs1 rfl,_,rfl,_,hs.ld (st.put_ne him (AH p X.1)).s.s rfl,_,hs.ld zs1 rfl,_,rfl,_,hs.ld (st.put_ne him (AH p X.1)).s.s rfl,_,rfl,?_⟩
 refine CE hs (ci.put (AH p X.1)).s.s ?_
 intro h5 hs
 rw[ecf]
 refine⟨AI (hs.ld (st.put_ne him (AH p X.1)).s.s rfl),AI (hs.ld zs1 rfl),by omega,_,rfl,?_⟩
 have hl:=aH ok.may
 have hd0:0≤v.tdiv C.cfg.step:=Int.tdiv_nonneg (by omega) (by omega)
 have hd1:v.tdiv C.cfg.step≤v:=by
  rw[Int.tdiv_eq_ediv_of_nonneg (by omega)]
  exact Int.ediv_le_self _ (by omega)
 rw[AL (by omega)]
 refine Ai7 hs (ci.put (AH p X.1)).s.s slot (v.tdiv C.cfg.step) ?_
 intro h6 hs
 simp only[AS,CD]at hs
 exact k _ hs.drop.drop
theorem ApD{Q:Int->HP}(hs:Sat h0 A h)(ci:At A i (AH p C))(st:At A m (DG s p r))(key:Int)
  (k:∀h',Sat h0 (put A i (AH p (HZ C key).1)) h'->Q (HZ C key).2 h'):RT ⟨s,0,none⟩ key Q h:=by
 unfold RT m9
 refine⟨_,hs.ld st rfl,_,rfl,?_⟩
 refine CE hs ci ?_
 intro h1 hs
 refine qW hs ci st _ _ ?_
 by_cases ha:AT C key C.cfg.keys=0
 case neg=>
  rw[if_pos (by simpa using ha)]
  have e:HZ C key=(C,AT C key C.cfg.keys):=by
   have e1:(CL C key).2=AT C key C.cfg.keys:=by unfold CL;rw[if_pos ha]
   unfold HZ
   rw[e1,if_pos ha]
  rw[e]at k
  exact k _ (by rw[ci.put_self];exact hs)
 rw[if_neg (by simpa using ha)]
 refine⟨_,hs.ld st rfl,_,rfl,?_⟩
 exact AiC hs ci key k
theorem ApE{Q:Bool->Int->HP}(hs:Sat h0 A h)(ci:At A i (AH p C))(st:At A m (DG s p r))(key:Int)
  (k:∀h',Sat h0 A h'->Q (CL C key).1 (CL C key).2 h'):RU ⟨s,0,none⟩ key Q h:=by
 unfold RU nB
 refine⟨_,hs.ld st rfl,_,rfl,?_⟩
 refine CE hs ci ?_
 intro h1 hs
 refine qW hs ci st _ _ ?_
 by_cases ha:AT C key C.cfg.keys=0
 case neg=>
  rw[if_pos (by simpa using ha)]
  have e1:CL C key=(false,AT C key C.cfg.keys):=by unfold CL;rw[if_pos ha]
  rw[e1]at k
  exact k _ hs
 rw[if_neg (by simpa using ha)]
 refine⟨_,hs.ld st rfl,_,rfl,?_⟩
 exact uQ hs ci key k
end
section
variable {h0 h:H} {A:List Ent} {i j p r l b:Nat} {C:Cm}
theorem AoI(hs:Sat h0 A h)(cj:At A j (AK r C)){k:Nat}(hk:(k:Int)<C.s.erases.length):
  ∃(q:Nat) (n c:Nat),hc h ⟨r,8,none⟩=some (.slice (some ⟨q,0,none⟩) n c)/\(k:Int)<n/\hc h ⟨q,k,none⟩=some (.int .i64 (C.er k)):=by
 obtain⟨⟨w,ms⟩,⟨ok,_,_,_⟩,hs⟩:=(hs.front cj).open_
 dsimp only[EF,List.cons_append,List.nil_append]at hs
 have hl:=hs.sl_len zs2
 simp only[A6,Nat.mul_one]at hl
 have hkn:k<C.s.erases.length:=by omega
 obtain⟨q,hq⟩:=hs.sl_some zs2 (by omega)
 have e8:=hs.ld .z (o:=8) rfl
 obtain⟨⟨a1,a2,a3⟩,⟨b1,b2,b3⟩,c,m⟩:=w
 dsimp only at hq hl hs
 subst hq
 refine⟨q,b2,b3,e8,by omega,hs.sld zs2 ?_⟩
 rw[BA,List.getElem?_eq_getElem hkn]
 unfold Cm.er
 simp[List.getD,List.getElem?_eq_getElem hkn]
theorem z6{Q:Int->HP}(hs:Sat h0 A h)(cj:At A j (AK r C))(cl:At A i (BY l r))(ho:C.out=false)(k:∀h',Sat h0 A h'->Q (B4 C:Int) h'):KT ⟨l,0,none⟩ Q h:=by
 unfold KT kO
 refine aY hs cj cl ?_
 intro h1 hs
 have e:ER C=BH C:=by unfold ER;rw[if_neg (by simp[ho])]
 rw[e]
 have:=k _ hs
 rw[←cL]at this
 by_cases g:BH C=0
 ·rw[if_pos g]at this;rw[if_pos (by simpa using g)];exact this
 ·rw[if_neg g]at this;rw[if_neg (by simpa using g)];exact this
theorem bE{C:Cm}(ho:C.out=false):GG C=A1 C:=by unfold GG;rw[if_neg (by simp[ho])]
theorem zW{Q:Int->Int->HP}(hs:Sat h0 A h)(cj:At A j (AK r C))(cl:At A i (BY l r))(slot:Int)(k:∀h',Sat h0 A h'->Q (DF C slot).1 (DF C slot).2 h'):KQ ⟨l,0,none⟩ slot Q h:=by
 unfold KQ kJ
 have ok:=FX hs cj
 have hm:=ok.may.slots
 obtain⟨w,lc⟩:=DK hs cj
 refine⟨_,hs.ld cl rfl,_,rfl,_,lc 11 _ rfl,?_⟩
 unfold DF at k
 by_cases ho:C.out=true
 ·rw[if_pos ho]at k ⊢;exact k _ hs
 rw[if_neg ho]at k ⊢
 have ho':C.out=false:=by simpa using ho
 by_cases g1:slot<0
 ·rw[AD,if_pos (by simpa using g1)]
  rw[if_pos (by omega)]at k
  exact k _ hs
 rw[AD,if_neg (by simpa using g1)]
 refine⟨_,hs.ld cl rfl,_,rfl,_,lc 1 _ rfl,?_⟩
 by_cases g2:C.cfg.slots<slot
 ·rw[AD,if_pos (by simpa using g2)]
  rw[if_pos (by omega)]at k
  exact k _ hs
 rw[AD,if_neg (by simpa using g2)]
 rw[if_neg (fun y=>y ⟨by omega,by omega⟩)]at k
 refine YB hs cj cl ?_
 intro h1 hs
 rw[bE ho']
 exact⟨by omega,by omega,k _ hs⟩
theorem z7{Q:Bool->HP}(hs:Sat h0 A h)(cj:At A j (AK r C))(cl:At A i (BY l r))(k:∀h',Sat h0 A h'->Q (GZ C) h'):KR ⟨l,0,none⟩ Q h:=by
 unfold KR kL
 have ok:=FX hs cj
 obtain⟨w,lc⟩:=DK hs cj
 refine⟨_,hs.ld cl rfl,_,rfl,_,lc 11 _ rfl,?_⟩
 unfold GZ at k
 by_cases ho:C.out=true
 ·rw[if_pos ho]at k ⊢;exact k _ hs
 rw[if_neg ho]at k ⊢
 have ho':C.out=false:=by simpa using ho
 refine z6 hs cj cl ho' ?_
 intro h1 hs
 have ht:=cM C
 obtain⟨h2,h3⟩:=aR ok
 obtain⟨pl,pc,q,xp,xl,xc,e7,hl,hx,exl,hrd,hb,hl60⟩:=YC hs cj (k:=B4 C) (by omega)
 refine⟨_,hs.ld cl rfl,_,rfl,_,_,_,e7,_,rfl,by omega,by omega,_,_,_,by rw[Nat.mul_one,Int.toNat_natCast];exact hx,?_⟩
 refine W8 (A:=[]) (Sat.init _) (fun h' hs'=>EC hs'.ex hrd (fun _ _ y=>y)) hb hl60 ?_
 intro h4 hs2;replace hs:=hs.ext hs2.ex;clear hs2
 subst exl
 have fin:((!(pI C (B4 C)).blank&&decide (C.cfg.erases≤C.er (B4 C)))=false)->∀h',Sat h0 A h'->EY ⟨l,0,none⟩ (fun i36 l37 i38 b39 i40 h41=>∀i42:Int,i42=4611686018427387904->Q (leI i42 i36) h41) h':=by
  intro e h' hs
  refine YB hs cj cl ?_
  intro h5 hs i42 hi
  subst hi
  rw[bE ho',A0]
  have:=k _ hs
  unfold GY at this
  rw[e,Bool.false_or]at this
  exact this
 show if (!(pI C (B4 C)).blank)=true then _ else _
 by_cases g:(pI C (B4 C)).blank=true
 ·rw[if_neg (by rw[g];decide)]
  exact fin (by rw[g];rfl) _ hs
 ·have g':(pI C (B4 C)).blank=false:=by simpa using g
  rw[if_pos (by rw[g'];decide)]
  obtain⟨eq,en,ec,e8,el,ee⟩:=AoI hs cj (k:=B4 C) (by omega)
  obtain⟨w,lc⟩:=DK hs cj
  refine⟨_,hs.ld cl rfl,_,rfl,_,_,_,e8,_,rfl,by omega,by omega,?_⟩
  rw[Int.toNat_natCast,Nat.mul_one,AF,Nat.zero_add]
  refine⟨_,ee,_,hs.ld cl rfl,_,rfl,_,lc 5 _ rfl,?_⟩
  by_cases g2:C.cfg.erases≤C.er (B4 C)
  ·rw[A0,if_pos (by simpa using g2)]
   have:=k _ hs
   unfold GY at this
   rw[g',decide_eq_true g2]at this
   exact this
  ·rw[A0,if_neg (by simpa using g2)]
   exact fin (by rw[decide_eq_false g2,Bool.and_false]) _ hs
theorem Ao9{Q:Int->HP}(hs:Sat h0 A h)(cj:At A j (AK r C))(cl:At A i (BY l r))(hij:i≠j)(ho:C.out=false)(slot:Nat)(n:Int)(hsl:(slot:Int)≤C.cfg.slots)(hn1:1≤n)(hn2:n≤A8)(hg:(A1 C).head<A8)
  (k:∀h',Sat h0 (put A j (AK r (ND C slot n).1)) h'->Q (ND C slot n).2 h'):Q2 ⟨l,0,none⟩ (slot:Int) n Q h:=by
 unfold Q2 kP
 try simp only[AF,Nat.zero_add,List.append_nil]
 have ok:=FX hs cj
 have hslots:=ok.may.slots
 have hcells:=ok.may.cells
 have ht:=cM C
 have iok:=SD ok
 have ilen:=pN C
 obtain⟨hp2,he2⟩:=aR ok
 refine z6 hs cj cl ho ?_
 intro h1 hs
 refine YB hs cj cl ?_
 intro h2 hs
 rw[bE ho]
 intro n20 _ hn;replace hs:=Sat.new hs hn
 refine⟨Sat.can hs .z (by decide),?_⟩
 intro h3 e3
 replace hs:=Sat.wra hs .z e3 ((DO ilen).trans rfl)
 clear e3
 replace hs:Sat h0 (blk n20 (B3 (A1 C))::A) h3:=hs
 obtain⟨t,htd⟩:∃t,t=B4 C:=⟨_,rfl⟩
 obtain⟨nums,hnums⟩:∃nums,nums=(A1 C).nums.set slot n:=⟨_,rfl⟩
 have hnb:∀x,0≤nums.getD x 0/\nums.getD x 0≤A8:=by
  intro x
  rw[hnums,cE]
  split
  ·omega
  ·exact iok.nums x
 have hnl:nums.length=9:=by rw[hnums,List.length_set,ilen]
 have kk:ND C slot n=if (pI C t).blank=true then EU (A1 C).head (t:Int) nums (C.cfg.slots+1).toNat C else if (CA C (t:Int)).2≠0 then CA C (t:Int) else EU (A1 C).head (t:Int) nums (C.cfg.slots+1).toNat (CA C (t:Int)).1:=by rw[htd,hnums];rfl
 rw[kk]at k
 rw[←htd]at ht ⊢
 clear kk
 obtain⟨pl,pc,q,xp,xl,xc,e7,hl,hx,exl,hrd,hb,hl60⟩:=YC hs cj.s (k:=t) (by omega)
 refine⟨_,hs.ld cl.s rfl,_,rfl,_,_,_,e7,_,rfl,by omega,by omega,_,_,_,by rw[Nat.mul_one,Int.toNat_natCast];exact hx,?_⟩
 refine W8 (A:=[]) (Sat.init _) (fun h' hs'=>EC hs'.ex hrd (fun _ _ y=>y)) hb hl60 ?_
 intro h4 hs2;replace hs:=hs.ext hs2.ex;clear hs2
 subst exl
 intro J40 hJ40
 have way:∀(D:Cm) h',D.cfg=C.cfg->Sat h0 (blk n20 (B3 (A1 C))::put A j (AK r D)) h'->
   (∀h',Sat h0 (put A j (AK r (EU (A1 C).head (t:Int) nums (C.cfg.slots+1).toNat D).1)) h'->Q (EU (A1 C).head (t:Int) nums (C.cfg.slots+1).toNat D).2 h')->J40 [] h':=by
  intro D h5 hcf hs k
  apply hJ40
  clear hJ40 J40
  have cj2:=cj.put (AK r D)
  have cl2:=cl.put_ne hij (AK r D)
  have pp:∀E:Cm,put (put A j (AK r D)) j (AK r E)=put A j (AK r E):=fun E=>CD _ _ _ _
  generalize put A j (AK r D)=A2 at *
  refine⟨by omega,by omega,?_⟩
  rw[Int.toNat_natCast,Nat.mul_one]
  try simp only[AF,Nat.zero_add]
  refine⟨Sat.can hs .z (by rw[DO ilen];omega),?_⟩
  intro h6 e6
  replace hs:=Sat.wr hs .z e6
  clear e6
  rw[pM ilen (by omega),←hnums]at hs
  simp only[put]at hs
  intro J44 hJ44
  obtain⟨m,hm⟩:∃m,m=(C.cfg.slots+1).toNat:=⟨_,rfl⟩
  rw[←hm]at k
  have hm9:m≤9:=by omega
  obtain⟨E,hE⟩:∃E,E=EV (t:Int) nums m 0 1 D:=⟨_,rfl⟩
  have kE:EU (A1 C).head (t:Int) nums m D=if E.2≠0 then E else CS E.1 (t:Int) 0 (DN ((A1 C).head+1)).1:=by unfold EU;rw[←hE]
  rw[kE]at k
  clear kE
  obtain⟨I,hI⟩:∃I:Inf,I={ A1 C with nums:=nums }:=⟨_,rfl⟩
  have hIl:I.nums.length=9:=by rw[hI];exact hnl
  have hIh:I.head=(A1 C).head:=by rw[hI]
  have hIn:I.nums=nums:=by rw[hI]
  replace hs:Sat h0 (blk n20 (B3 I)::A2) h6:=by rw[hI];exact hs
  refine DE m (fun x (a:Nat)=>[.dv (.one (.int .i64 (a:Int))),si x]) (fun x a h=>∃F:Cm,F.cfg=C.cfg/\a≤x+1/\Sat h0 (blk n20 (B3 I)::put A2 j (AK r F)) h/\EV (t:Int) nums (m-x) x a F=E) ?_ ?_ 0 1 _ (by omega)
   ⟨D,hcf,by omega,by rw[cj2.put_self];exact hs,hE.symm⟩
  ·rintro x a h7 hx ⟨F,ecF,hat,hs,hT⟩ hk
   apply hJ44
   obtain⟨w,lc⟩:=DK hs (cj2.put (AK r F)).s
   refine⟨_,hs.ld (cl2.put_ne hij (AK r F)).s rfl,_,rfl,_,lc 1 _ rfl,?_⟩
   rw[ecF,A0,if_pos (by simp;omega)]
   obtain⟨m',hm'⟩:∃m',m-x=m'+1:=⟨m-x-1,by omega⟩
   rw[hm']at hT
   unfold EV at hT
   have g:hc h7 ⟨n20,1+x,none⟩=some (.int .i64 (nums.getD x 0)):=hs.ld .z (by rw[Z9 hIl (by omega),hIn])
   rw[AU (i:=x) (by omega)]
   refine⟨by omega,by omega,?_⟩
   rw[Int.toNat_natCast,Nat.mul_one]
   try simp only[AF,Nat.zero_add]
   refine⟨_,g,?_⟩
   by_cases gz:nums.getD x 0=0
   ·rw[if_pos gz]at hT
    rw[if_pos (by simpa using gz)]
    exact hk a _ ⟨F,ecF,by omega,hs,by rw[show m-(x+1)=m' by omega];exact hT⟩
   rw[if_neg gz]at hT
   rw[if_neg (by simpa using gz)]
   refine⟨by omega,by omega,_,g,?_⟩
   have hb:=hnb x
   refine qL (x:Int) (nums.getD x 0) hs ?_
   intro h8 hs
   have hl:=YO (x:Int) (nums.getD x 0)
   generalize (C3 (x:Int) (nums.getD x 0)).1=rec at *
   intro n56 _ hn;replace hs:=Sat.new hs hn
   refine⟨Sat.can hs .z (by simp[AB]),?_⟩
   intro h9 e9
   replace hs:=Sat.wra hs .z e9 (by simp[AB,hl])
   clear e9
   simp only[put]at hs
   refine⟨_,hs.ld (cl2.put_ne hij (AK r F)).s.s rfl,_,hl,hs.row0 .z,_,rfl,?_⟩
   have hcfF:=OM F (t:Int) (a:Int) rec
   refine aZ hs (cj2.put (AK r F)).s.s (t:Int) (a:Int) rec hl ?_
   intro h10 hs
   simp only[AS,CD]at hs
   generalize CS F (t:Int) (a:Int) rec=X at *
   by_cases ge:X.2=0
   ·rw[if_neg (by simpa using ge)]at hT
    rw[if_neg (by simpa using ge),AU (i:=a) (by omega)]
    exact hk (a+1) _ ⟨X.1,hcfF.trans ecF,by omega,hs.drop,by rw[show m-(x+1)=m' by omega];exact hT⟩
   ·rw[if_pos (by simpa using ge)]at hT
    rw[if_pos (by simpa using ge)]
    rw[←hT,if_pos ge]at k
    refine k _ ?_
    rw[←pp]
    exact hs.drop.drop
  ·rintro a h7 ⟨F,ecF,hat,hs,hT⟩
   apply hJ44
   obtain⟨w,lc⟩:=DK hs (cj2.put (AK r F)).s
   refine⟨_,hs.ld (cl2.put_ne hij (AK r F)).s rfl,_,rfl,_,lc 1 _ rfl,?_⟩
   rw[ecF,A0,if_neg (by simp;omega)]
   rw[Nat.sub_self]at hT
   unfold EV at hT
   rw[←hT,if_neg (by simp)]at k
   dsimp only at k
   refine⟨_,hs.ld .z rfl,?_⟩
   have ih:=iok.head
   have hmv:=X5
   rw[hIh,AL (by omega)]
   refine zT ((A1 C).head+1) hs ?_
   intro h8 hs
   have hhl:=pE ((A1 C).head+1)
   generalize (DN ((A1 C).head+1)).1=rec at *
   intro n70 _ hn;replace hs:=Sat.new hs hn
   refine⟨Sat.can hs .z (by simp[AB]),?_⟩
   intro h9 e9
   replace hs:=Sat.wra hs .z e9 (by simp[AB,hhl])
   clear e9
   simp only[put]at hs
   refine⟨_,hs.ld (cl2.put_ne hij (AK r F)).s.s rfl,_,hhl,hs.row0 .z,_,rfl,?_⟩
   refine aZ hs (cj2.put (AK r F)).s.s (t:Int) 0 rec hhl ?_
   intro h10 hs
   simp only[AS,CD]at hs
   refine k _ ?_
   rw[←pp]
   exact hs.drop.drop
 show if (!(pI C t).blank)=true then _ else _
 by_cases g:(pI C t).blank=true
 ·rw[if_pos g]at k
  rw[if_neg (by rw[g];decide)]
  refine way C _ rfl ?_ k
  rw[cj.put_self]
  exact hs
 ·rw[if_neg g]at k
  rw[if_pos (by simpa using g)]
  refine⟨_,hs.ld cl.s rfl,_,rfl,?_⟩
  refine zR hs cj.s (t:Int) ?_
  intro h5 hs
  simp only[AS]at hs
  have hcf:=SB C (t:Int)
  generalize CA C (t:Int)=X at *
  by_cases ge:X.2=0
  ·rw[if_neg (by simpa using ge)]at k
   rw[if_neg (by simpa using ge)]
   exact way X.1 _ hcf hs k
  ·rw[if_pos (by simpa using ge)]at k
   rw[if_pos (by simpa using ge)]
   exact k _ hs.drop
theorem AnW{Q:Int->HP}(hs:Sat h0 A h)(cj:At A j (AK r C))(cl:At A i (BY l r))(hij:i≠j)(slot n:Int)
  (k:∀h',Sat h0 (put A j (AK r (EQ C slot n).1)) h'->Q (EQ C slot n).2 h'):Q1 ⟨l,0,none⟩ slot n Q h:=by
 unfold Q1 kI
 try simp only[AF,Nat.zero_add,List.append_nil]
 have ok:=FX hs cj
 have hslots:=ok.may.slots
 have hmv:=X5
 refine zW hs cj cl slot ?_
 intro h1 hs
 have same:put A j (AK r C)=A:=cj.put_self
 unfold EQ at k
 by_cases ho:C.out=true
 ·have e:DF C slot=(0,8):=by unfold DF;rw[if_pos ho]
  rw[if_pos ho]at k
  rw[e,if_pos (by simp)]
  exact k _ (by rw[same];exact hs)
 rw[if_neg ho]at k
 have ho':C.out=false:=by simpa using ho
 by_cases gs:0≤slot/\slot≤C.cfg.slots
 case neg=>
  have e:DF C slot=(0,2):=by unfold DF;rw[if_neg ho,if_pos gs]
  rw[if_pos (fun y=>gs ⟨y.1,y.2.1⟩)]at k
  rw[e,if_pos (by simp)]
  exact k _ (by rw[same];exact hs)
 have e:DF C slot=((A1 C).nums.getD slot.toNat 0,0):=by unfold DF;rw[if_neg ho,if_neg (fun y=>y gs)]
 rw[e,if_neg (by simp)]
 intro J16 hJ16
 by_cases g1:n<1
 ·rw[if_pos (fun y=>by omega)]at k
  rw[AD,if_pos (by simpa using g1)]
  exact k _ (by rw[same];exact hs)
 rw[AD,if_neg (by simpa using g1)]
 intro i47 hi47
 subst hi47
 by_cases g2:A8<n
 ·rw[if_pos (fun y=>by omega)]at k
  rw[AD,if_pos (by rw[decide_eq_true_iff];exact g2)]
  exact k _ (by rw[same];exact hs)
 rw[AD,if_neg (by rw[decide_eq_true_iff];exact g2)]
 rw[if_neg (fun y=>y ⟨gs.1,gs.2,by omega,by omega⟩)]at k
 apply hJ16
 clear hJ16 J16
 dsimp only
 by_cases g3:n≤(A1 C).nums.getD slot.toNat 0
 ·rw[if_pos g3]at k
  rw[A0,if_pos (by rw[decide_eq_true_iff];exact g3)]
  exact k _ (by rw[same];exact hs)
 rw[if_neg g3]at k
 rw[A0,if_neg (by rw[decide_eq_true_iff];exact g3)]
 refine zS hs cj cl ?_
 intro h2 hs
 have hfr:0<DC C↔(0≤BH C/\(A1 C).next<C.cfg.cells):=by
  unfold DC
  rw[if_neg ho]
  split
  ·constructor <;> intro y <;> omega
  ·constructor <;> intro y <;> omega
 by_cases g4:0<DC C
 ·rw[if_pos (hfr.1 g4)]at k
  rw[AD,if_pos (by simpa using g4)]
  obtain⟨sl,rfl⟩:=Int.eq_ofNat_of_zero_le gs.1
  refine qL (sl:Int) n hs ?_
  intro h3 hs
  have hl:=YO (sl:Int) n
  generalize (C3 (sl:Int) n).1=rec at *
  intro n23 _ hn;replace hs:=Sat.new hs hn
  refine⟨Sat.can hs .z (by simp[AB]),?_⟩
  intro h4 e4
  replace hs:=Sat.wra hs .z e4 (by simp[AB,hl])
  clear e4
  simp only[put]at hs
  refine⟨_,hs.ld cl.s rfl,_,hl,hs.row0 .z,?_⟩
  refine aY hs cj.s cl.s ?_
  intro h5 hs
  refine⟨Sat.whole hs .z,AI (hs.ld cl.s rfl),?_⟩
  refine YB hs cj.s cl.s ?_
  intro h6 hs
  refine⟨Sat.whole hs .z,AI (hs.ld cl.s rfl),_,rfl,?_⟩
  have ep:ER C=BH C:=by unfold ER;rw[if_neg ho]
  rw[ep,bE ho']
  refine aZ hs cj.s (BH C) (A1 C).next rec hl ?_
  intro h7 hs
  simp only[AS]at hs
  exact k _ hs.drop
 ·rw[if_neg (fun y=>g4 (hfr.2 y))]at k
  rw[AD,if_neg (by simpa using g4)]
  refine z7 hs cj cl ?_
  intro h3 hs
  have ew:GZ C=GY C:=by unfold GZ;rw[if_neg ho]
  rw[ew]
  by_cases gw:GY C=true
  ·rw[if_pos gw]at k ⊢
   exact k _ (by rw[same];exact hs)
  rw[if_neg gw]at k ⊢
  have hgm:(A1 C).head<A8:=by
   have:¬A8≤(A1 C).head:=fun y=>gw (by unfold GY;rw[decide_eq_true y,Bool.or_true])
   omega
  obtain⟨sl,rfl⟩:=Int.eq_ofNat_of_zero_le gs.1
  exact Ao9 hs cj cl hij ho' sl n gs.2 (by omega) (by omega) hgm k
end
def BV(C:Cm):Int×Int:=DF C C.cfg.slots
def JG(C:Cm)(n:Int):Cm×Int:=
 if (BV C).2≠0 then (C,(BV C).2) else if n≤(BV C).1 then (C,2) else if A8<n then (C,2) else EQ C C.cfg.slots n
section
variable {h0 h:H} {A:List Ent} {i j p r b s m:Nat} {C:Cm}
theorem bM{Q:Int->Int->HP}(hs:Sat h0 A h)(ci:At A i (AH p C))(cl:At A j (BY r p))(st:At A m (DG s p r))(k:∀h',Sat h0 A h'->Q (BV C).1 (BV C).2 h'):F8 ⟨s,0,none⟩ Q h:=by
 unfold F8 mY
 try simp only[AF,Nat.zero_add]
 refine⟨_,hs.ld st rfl,_,rfl,?_⟩
 refine RX hs ci ?_
 by_cases ho:C.out=true
 ·rw[if_pos ho]
  have e:BV C=(0,8):=by unfold BV DF;rw[if_pos ho]
  rw[e]at k
  exact k _ hs
 rw[if_neg ho]
 refine⟨_,hs.ld st rfl,_,hs.ld st rfl,_,rfl,?_⟩
 refine CE hs ci ?_
 intro h1 hs
 refine⟨AI (hs.ld st rfl),_,rfl,?_⟩
 refine sB hs ci cl C.cfg.slots ?_
 intro h2 hs
 exact k _ hs
theorem ApA{Q:Int->HP}(hs:Sat h0 A h)(ci:At A i (AH p C))(cl:At A j (BY r p))(st:At A m (DG s p r))(hij:j≠i)(n:Int)(k:∀h',Sat h0 (put A i (AH p (JG C n).1)) h'->Q (JG C n).2 h'):W7 ⟨s,0,none⟩ n Q h:=by
 unfold W7 mX
 try simp only[AF,Nat.zero_add]
 refine bM hs ci cl st ?_
 intro h1 hs
 unfold JG at k
 by_cases ge:(BV C).2=0
 case neg=>
  rw[if_pos ge]at k
  rw[if_pos (by simpa using ge)]
  exact k _ (by rw[ci.put_self];exact hs)
 rw[if_neg (fun y=>y ge)]at k
 rw[if_neg (by simpa using ge)]
 by_cases g1:n≤(BV C).1
 ·rw[if_pos g1]at k
  rw[A0,if_pos (by simpa using g1)]
  exact k _ (by rw[ci.put_self];exact hs)
 rw[if_neg g1]at k
 rw[A0,if_neg (by simpa using g1)]
 intro i10 hi
 subst hi
 by_cases g2:A8<n
 ·rw[if_pos g2]at k
  rw[AD,if_pos (by rw[decide_eq_true_iff];exact g2)]
  exact k _ (by rw[ci.put_self];exact hs)
 rw[if_neg g2]at k
 rw[AD,if_neg (by rw[decide_eq_true_iff];exact g2)]
 refine⟨_,hs.ld st rfl,_,hs.ld st rfl,_,rfl,?_⟩
 refine CE hs ci ?_
 intro h2 hs
 refine⟨AI (hs.ld st rfl),_,rfl,?_⟩
 exact r9 hs ci cl hij C.cfg.slots n k
theorem zX{Q:Int->Int->HP}(hs:Sat h0 A h)(cj:At A j (AK r C))(slot:Int)(k:∀h',Sat h0 A h'->Q (DF C slot).1 (DF C slot).2 h'):KU ⟨r,0,none⟩ slot Q h:=by
 unfold KU kQ
 intro n5 _ hn;replace hs:=Sat.new hs hn
 refine zW hs cj.s .z slot ?_
 intro h1 hs
 exact k _ hs.drop
theorem zV{Q:Int->HP}(hs:Sat h0 A h)(cj:At A j (AK r C))(slot n:Int)(k:∀h',Sat h0 (put A j (AK r (EQ C slot n).1)) h'->Q (EQ C slot n).2 h'):KO ⟨r,0,none⟩ slot n Q h:=by
 unfold KO kG
 intro n5 _ hn;replace hs:=Sat.new hs hn
 refine AnW hs cj.s .z (by omega) slot n ?_
 intro h1 hs
 simp only[AS]at hs
 exact k _ hs.drop
theorem Ao6{Q:Int->HP}(hs:Sat h0 A h)(cj:At A j (AK r C))(slot:Int)(k:Q (AT C slot C.cfg.slots) h):Q6 ⟨r,0,none⟩ slot Q h:=by
 unfold Q6 k7
 try simp only[AF,Nat.zero_add]
 obtain⟨w,lc⟩:=DK hs cj
 refine⟨_,lc 11 _ rfl,?_⟩
 unfold AT at k
 by_cases ho:C.out=true
 ·rw[if_pos ho]at k ⊢;exact k
 rw[if_neg ho]at k ⊢
 by_cases g1:slot<0
 ·rw[if_pos g1]at k;rw[AD,if_pos (by simpa using g1)];exact k
 rw[if_neg g1]at k;rw[AD,if_neg (by simpa using g1)]
 refine⟨_,lc 1 _ rfl,?_⟩
 by_cases g2:C.cfg.slots≤slot
 ·rw[if_pos g2]at k;rw[A0,if_pos (by simpa using g2)];exact k
 rw[if_neg g2]at k;rw[A0,if_neg (by simpa using g2)];exact k
theorem zZ{Q:Int->Int->HP}(hs:Sat h0 A h)(cj:At A j (AK r C))(slot:Int)(k:∀h',Sat h0 A h'->Q (C2 C slot).1 (C2 C slot).2 h'):I0 ⟨r,0,none⟩ slot Q h:=by
 unfold I0 kX
 try simp only[AF,Nat.zero_add]
 have ok:=FX hs cj
 refine Ao6 hs cj slot ?_
 unfold C2 at k
 by_cases ha:AT C slot C.cfg.slots=0
 case neg=>
  rw[if_pos (by simpa using ha)]
  rw[if_pos ha]at k
  exact k _ hs
 rw[if_neg (fun y=>y ha)]at k
 rw[if_neg (by simpa using ha)]
 obtain⟨ho,g0,g1⟩:=CV ha
 refine zX hs cj slot ?_
 intro h1 hs
 have en:DF C slot=(FE C slot.toNat,0):=by
  unfold DF
  rw[if_neg (by simp[ho]),if_neg (fun y=>y ⟨g0,by omega⟩)]
 rw[en]
 refine zQ hs cj slot ?_
 intro h2 hs
 obtain⟨w,lc⟩:=DK hs cj
 refine⟨_,lc 3 _ rfl,?_⟩
 obtain⟨v0,v1,_⟩:=AbO ok slot
 rw[AL (by omega)]
 have e:(if (C7 C slot).1*C.cfg.step > FE C slot.toNat then (C7 C slot).1*C.cfg.step else FE C slot.toNat)=WH C slot:=by
  unfold WH
  split
  ·rw[if_neg (by omega)]
  ·split <;> omega
 dsimp only
 rw[e]
 exact k _ hs
theorem zU{Q:Int->HP}{c:Cfg}(hm:c.may)(hs:Sat h0 A h)(k:∀h',Sat h0 A h'->Q (DX c) h'):IZ c.cells c.slots c.fuses c.step c.keys c.erases c.area Q h:=by
 unfold IZ kW
 try simp only[AF,Nat.zero_add]
 obtain⟨l0,l1,l2,l3⟩:=aH hm
 have h1:=hm.step
 intro n9 _ hn;replace hs:=Sat.new hs hn
 refine⟨_,hs.ld .z rfl,_,hs.ld .z rfl,_,hs.ld .z rfl,?_⟩
 rw[AL (n:=c.step*c.fuses) (by omega),AL (n:=c.step*c.fuses+c.step) (by omega),AL (by unfold DX at l0 l1;omega)]
 exact k _ hs.drop
theorem AnS{Q:Int->HP}(hs:Sat h0 A h)(cj:At A j (AK r C))(slot v:Int)(k:∀h',Sat h0 (put A j (AK r (SN C slot v).1)) h'->Q (SN C slot v).2 h'):Q5 ⟨r,0,none⟩ slot v Q h:=by
 unfold Q5 kV
 try simp only[AF,Nat.zero_add]
 have ok:=FX hs cj
 have hst:=ok.may.step
 have hl:=aH ok.may
 refine zZ hs cj slot ?_
 intro h1 hs
 have same:put A j (AK r C)=A:=cj.put_self
 unfold SN at k
 by_cases ge:(C2 C slot).2=0
 case neg=>
  rw[if_pos ge]at k
  rw[if_pos (by simpa using ge)]
  exact k _ (by rw[same];exact hs)
 rw[if_neg (fun y=>y ge)]at k
 rw[if_neg (by simpa using ge)]
 by_cases g1:v<0
 ·rw[if_pos g1]at k
  rw[AD,if_pos (by simpa using g1)]
  exact k _ (by rw[same];exact hs)
 rw[if_neg g1]at k
 rw[AD,if_neg (by simpa using g1)]
 by_cases g2:v≤(C2 C slot).1
 ·rw[if_pos g2]at k
  rw[A0,if_pos (by simpa using g2)]
  exact k _ (by rw[same];exact hs)
 rw[if_neg g2]at k
 rw[A0,if_neg (by simpa using g2)]
 obtain⟨w,lc⟩:=DK hs cj
 refine⟨_,lc 0 _ rfl,_,lc 1 _ rfl,_,lc 2 _ rfl,_,lc 3 _ rfl,_,lc 4 _ rfl,_,lc 5 _ rfl,_,lc 6 _ rfl,?_⟩
 refine zU ok.may hs ?_
 intro h2 hs
 by_cases g3:DX C.cfg<v
 ·rw[if_pos g3]at k
  rw[AD,if_pos (by simpa using g3)]
  exact k _ (by rw[same];exact hs)
 rw[if_neg g3]at k
 rw[AD,if_neg (by simpa using g3)]
 refine zV hs cj slot v ?_
 intro h3 hs
 have ecf:=yQ ok slot v
 generalize EQ C slot v=X at *
 by_cases gx:X.2=0
 case neg=>
  rw[if_pos gx]at k
  rw[if_pos (by simpa using gx)]
  exact k _ hs
 rw[if_neg (fun y=>y gx)]at k
 rw[if_neg (by simpa using gx)]
 obtain⟨w,lc⟩:=DK hs (cj.put (AK r X.1))
 refine⟨_,lc 3 _ rfl,?_⟩
 rw[ecf]
 have hd0:0≤v.tdiv C.cfg.step:=Int.tdiv_nonneg (by omega) (by omega)
 have hd1:v.tdiv C.cfg.step≤v:=by
  rw[Int.tdiv_eq_ediv_of_nonneg (by omega)]
  exact Int.ediv_le_self _ (by omega)
 rw[AL (by omega)]
 refine⟨by omega,?_⟩
 refine Ao1 hs (cj.put (AK r X.1)) slot (v.tdiv C.cfg.step) ?_
 intro h4 hs
 simp only[CD]at hs
 exact k _ hs
theorem qG{Q:Int->Int->HP}(hs:Sat h0 A h)(cj:At A j (AK r C))(k:∀h',Sat h0 A h'->Q (BV C).1 (BV C).2 h'):HF ⟨r,0,none⟩ Q h:=by
 unfold HF kU
 try simp only[AF,Nat.zero_add]
 obtain⟨w,lc⟩:=DK hs cj
 refine⟨_,lc 1 _ rfl,?_⟩
 exact zX hs cj C.cfg.slots k
theorem AnQ{Q:Int->HP}(hs:Sat h0 A h)(cj:At A j (AK r C))(n:Int)(k:∀h',Sat h0 (put A j (AK r (JG C n).1)) h'->Q (JG C n).2 h'):Q4 ⟨r,0,none⟩ n Q h:=by
 unfold Q4 kS
 try simp only[AF,Nat.zero_add]
 have same:put A j (AK r C)=A:=cj.put_self
 refine qG hs cj ?_
 intro h1 hs
 unfold JG at k
 by_cases ge:(BV C).2=0
 case neg=>
  rw[if_pos ge]at k
  rw[if_pos (by simpa using ge)]
  exact k _ (by rw[same];exact hs)
 rw[if_neg (fun y=>y ge)]at k
 rw[if_neg (by simpa using ge)]
 by_cases g1:n≤(BV C).1
 ·rw[if_pos g1]at k
  rw[A0,if_pos (by simpa using g1)]
  exact k _ (by rw[same];exact hs)
 rw[if_neg g1]at k
 rw[A0,if_neg (by simpa using g1)]
 intro i10 hi
 subst hi
 by_cases g2:A8<n
 ·rw[if_pos g2]at k
  rw[AD,if_pos (by rw[decide_eq_true_iff];exact g2)]
  exact k _ (by rw[same];exact hs)
 rw[if_neg g2]at k
 rw[AD,if_neg (by rw[decide_eq_true_iff];exact g2)]
 obtain⟨w,lc⟩:=DK hs cj
 refine⟨_,lc 1 _ rfl,?_⟩
 exact zV hs cj C.cfg.slots n k
end
theorem vH{A:List Ent}{i j:Nat}{e:Ent}(a:At A i e)(hj:i≠j):∃k,At (del A j) k e:=by
 induction a generalizing j with
 | z=>cases j with
  | zero=>exact absurd rfl hj
  | succ j=>exact⟨0,.z⟩
 | s q ih=>cases j with
  | zero=>exact⟨_,q⟩
  | succ j=>
   obtain⟨k,hk⟩:=ih (j:=j) (by omega)
   exact⟨k+1,.s hk⟩
theorem AiW{A:List Ent}{i:Nat}{e e':Ent}(a:At A i e)(b:At A i e'):e=e':=by
 induction a with
 | z=>cases b;rfl
 | s _ ih=>cases b with | s b=>exact ih b
section
variable {h0 h:H} {A:List Ent} {i j p r:Nat} {C C':Cm}
theorem AjU(ci:At A i (AH p C))(cj:At A j (AK r C')):i≠j:=by
 intro e
 subst e
 have:=congrArg Ent.tag (AiW ci cj)
 have e2:Tag.of 2=Tag.of 4:=this
 injection e2 with e2
 cases e2
theorem Aa6(hs:Sat h0 A h)(cj:At A j (AK r C)):hc h ⟨r,10,none⟩=some (.int .i64 C.acts)/\hc h ⟨r,11,none⟩=some (.bool C.out):=by
 obtain⟨⟨w,ms⟩,_,hs⟩:=(hs.front cj).open_
 dsimp only[EF,List.cons_append,List.nil_append]at hs
 exact⟨hs.ld .z rfl,hs.ld .z rfl⟩
end
end Go.Proofs.YteedolonhdbieaaGreatDoor
end
section
namespace Go.Proofs.YteedolonhdbieaaGreatDoor
open Go Go.Vc
set_option maxRecDepth 100000
attribute [local irreducible] BI
structure WiM where
 kind:Int
 slot:Int
 ver:Int
section
variable {h0 h:H} {A:List Ent} {i j p r b s m:Nat} {C:Cm}
theorem qV(ok:C.ok):(BV C).2=if C.out=true then 8 else 0:=by
 have hm:=ok.may.slots
 unfold BV DF
 by_cases ho:C.out=true
 ·rw[if_pos ho,if_pos ho]
 ·rw[if_neg ho,if_neg ho,if_neg (fun y=>y ⟨by omega,Int.le_refl _⟩)]
theorem AaA(ho:¬C.out=true){key:Int}(hk:0≤key):(CL C key).2=if C.cfg.keys≤key then 2 else 0:=by
 have a:AT C key C.cfg.keys=if C.cfg.keys≤key then 2 else 0:=by unfold AT;rw[if_neg ho,if_neg (by omega)]
 unfold CL
 rw[a]
 by_cases g:C.cfg.keys≤key
 ·rw[if_pos g,if_pos (by decide)]
 ·rw[if_neg g,if_neg (by decide)]
end
end Go.Proofs.YteedolonhdbieaaGreatDoor
end
section
namespace Go.Proofs.YteedolonhdbieaaGreatDoor
open Go Go.Vc
set_option maxRecDepth 100000
attribute [local irreducible] BI
theorem w7(L:List Sec):∀k e i,goM L k=some (e,i)->e≠0
 | 0,e,i,h=>by cases h
 | k+1,e,i,h=>by
  unfold goM at h
  by_cases c:D5 (L.take (L.length-(k+1))) (L.getD (L.length-(k+1)) (0,[]))=0
  ·rw[if_pos c]at h
   exact w7 L k e i h
  ·rw[if_neg c]at h
   injection h with h
   injection h with h1 h2
   rw[←h1];exact c
theorem AmX{L:List Sec}{e i:Int}(h:DP L=some (e,i)):e≠0:=by
 unfold DP at h
 by_cases c:64<L.length
 ·rw[if_pos c]at h
  injection h with h
  injection h with h1 h2
  omega
 ·rw[if_neg c]at h
  exact w7 L _ _ _ h
section
variable {h0 h:H} {A:List Ent} {i j p r b s m:Nat} {C:Cm}
end
end Go.Proofs.YteedolonhdbieaaGreatDoor
end
section
namespace Go.Proofs.YteedolonhdbieaaGreatDoor
open Go Go.Vc
set_option maxRecDepth 100000
abbrev wld(w px pr:Nat)(x:Value):Ent:=blk w [.pointer (some ⟨px,0,none⟩),x,.pointer (some ⟨pr,0,none⟩)]
abbrev AqR(w px pr s l:Nat)(C:Cm)(B:List Ent):List Ent:=wld w px pr (.pointer (some ⟨s,0,none⟩))::DG s px l::BY l px::AH px C::AK pr C::B
def Wst(h0:H)(w px pr:Nat)(C:Cm)(B:List Ent)(h:H):Prop:=
 Sat h0 (wld w px pr (.pointer none)::AH px C::AK pr C::B) h∨∃s l,Sat h0 (AqR w px pr s l C B) h
structure OpE where
 kind:Int
 n:Int
 v:Int
 mask:List Int
structure OpE.ok (s:OpE):Prop where
 n:s.n<2^63
 mb:A4 s.mask
 ml:s.mask.length+4096≤2^47
section
variable {h0 h:H} {A B:List Ent} {i j p r b w px pr s m:Nat} {C:Cm}
theorem Wst.any(W:Wst h0 w px pr C B h):∃x,Sat h0 (wld w px pr x::AH px C::AK pr C::B) h:=by
 rcases W with hs | ⟨s,l,hs⟩
 ·exact⟨_,hs⟩
 ·exact⟨_,hs.sub (by(repeat (first | exact List.Sublist.refl _ | apply List.Sublist.cons_cons | apply List.Sublist.cons)))⟩
end
theorem Al2{c:Cfg}(m:c.may):(DM c).lays c:=by
 refine⟨(Z1 m).fits,?_⟩
 intro n hn
 have:n∈AB c.np.toNat:=hn
 unfold AB at this
 rw[List.mem_replicate]at this
 omega
section
variable {h0 h:H} {A:List Ent}
end
structure ScriptO (h:H) (p:Option Addr) (l:Nat) (sc:List OpE):Prop where
 len:sc.length=l
 lt:l<2^50
 at_:∀i (hi:i<sc.length),∃q mp ml mc,p=some q/\hc h (q.add (i*4))=some (.int .i64 sc[i].kind)/\hc h ((q.add (i*4)).add 1)=some (.int .i64 sc[i].n)/\hc h ((q.add (i*4)).add 2)=some (.int .i64 sc[i].v)/\
  hc h ((q.add (i*4)).add 3)=some (.slice mp ml mc)/\hsv h mp 1 ml (AA .u8 sc[i].mask)/\sc[i].ok
theorem vJ(n:Nat):b64 (n:Int)=BitVec.ofNat 64 n:=by
 apply BitVec.eq_of_toNat_eq
 simp only[BitVec.toNat_ofInt,BitVec.toNat_ofNat];omega
theorem aS{x y:Int}(k:Nat)(hx:0≤x/\x<2^k)(hy:0≤y)(hxy:x+y*2^k<2^63):bits .or .i64 x (y*2^k)=x+y*2^k:=by
 obtain⟨a,rfl⟩:=Int.eq_ofNat_of_zero_le hx.1
 obtain⟨b,rfl⟩:=Int.eq_ofNat_of_zero_le hy
 have ha:a<2^k:=by have:=hx.2;exact_mod_cast this
 have e1:((b:Int)*2^k)=((b*2^k:Nat):Int):=by simp
 rw[e1]at hxy ⊢
 have:bits .or .i64 (a:Int) ((b*2^k:Nat):Int)=IntKind.i64.wrap ((b64 (a:Int) ||| b64 ((b*2^k:Nat):Int)).toNat:Int):=rfl
 rw[this,vJ,vJ]
 have e2:a ||| (b*2^k)=a+b*2^k:=by
  have:=Nat.shiftLeft_add_eq_or_of_lt ha b
  rw[Nat.shiftLeft_eq]at this
  rw[Nat.or_comm,←this];omega
 have e3:(BitVec.ofNat 64 a ||| BitVec.ofNat 64 (b*2^k)).toNat=a+b*2^k:=by
  rw[BitVec.toNat_or,BitVec.toNat_ofNat,BitVec.toNat_ofNat,Nat.mod_eq_of_lt (by omega),Nat.mod_eq_of_lt (by omega),e2]
 rw[e3,IntKind.wrap_i64];omega
def AV(bs:List Int)(o:Nat):Int:=bs.getD o 0+256*bs.getD (o+1) 0+65536*bs.getD (o+2) 0+16777216*bs.getD (o+3) 0
theorem or4{a b c d:Int}(ha:CC a)(hb:CC b)(hc:CC c)(hd:CC d):
  bits .or .i64 (bits .or .i64 (bits .or .i64 (IntKind.i64.wrap a) (IntKind.i64.wrap (IntKind.i64.wrap b*2^8))) (IntKind.i64.wrap (IntKind.i64.wrap c*2^16))) (IntKind.i64.wrap (IntKind.i64.wrap d*2^24))=a+256*b+65536*c+16777216*d:=by
 obtain⟨a1,a2⟩:=ha;obtain⟨b1,b2⟩:=hb;obtain⟨c1,c2⟩:=hc;obtain⟨d1,d2⟩:=hd
 have w:∀n:Int,0≤n/\n<2^40->IntKind.i64.wrap n=n:=fun n hn=>by rw[IntKind.wrap_i64];omega
 rw[w a (by omega),w b (by omega),w c (by omega),w d (by omega),w (b*2^8) (by omega),w (c*2^16) (by omega),w (d*2^24) (by omega)]
 rw[aS 8 (by omega) b1 (by omega),aS 16 (by omega) c1 (by omega),aS 24 (by omega) d1 (by omega)]
 omega
theorem aQ{bs:List Int}(hb:A4 bs)(o:Nat):0≤AV bs o/\AV bs o<2^32:=by
 have g:∀x,CC (bs.getD x 0):=fun x=>by
  rw[List.getD_eq_getElem?_getD]
  cases e:bs[x]? with
  | none=>exact⟨by decide,by decide⟩
  | some v=>exact hb v (List.mem_iff_getElem?.2 ⟨x,e⟩)
 have g0:=g o;have g1:=g (o+1);have g2:=g (o+2);have g3:=g (o+3)
 unfold CC at *
 unfold AV;omega
theorem C6{bs:List Int}(hb:A4 bs)(x:Nat):CC (bs.getD x 0):=by
 rw[List.getD_eq_getElem?_getD]
 cases e:bs[x]? with
 | none=>exact⟨by decide,by decide⟩
 | some v=>exact hb v (List.mem_iff_getElem?.2 ⟨x,e⟩)
theorem OS{h:H}{q:Option Addr}{l o n m:Nat}{k:IntKind}{bs:List Int}(rd:hsv h q 1 l (AA k bs))(ho:o+n≤l)(hm:m=o->n=0):hsv h (AJ q o m 1) 1 n (AA k ((bs.drop o).take n)):=by
 have hl:bs.length=l:=by have:=rd.1;simpa using this
 refine⟨by rw[A6,List.length_take,List.length_drop];omega,A5 _ _,?_⟩
 by_cases c:n=0
 ·subst c;exact Or.inl rfl
 unfold AJ
 rw[if_neg (fun y=>c (hm y))]
 obtain⟨_,_,rd⟩:=rd
 rcases rd with rd | ⟨q',rfl,g⟩
 ·have:=congrArg List.length rd
  rw[A6,List.length_nil]at this;omega
 ·refine Or.inr ⟨_,rfl,?_⟩
  intro i v hv
  have hi:i<n:=by
   have h1:i<(AA k ((bs.drop o).take n)).length:=(List.getElem?_eq_some_iff.1 hv).1
   rw[A6,List.length_take]at h1
   exact Nat.lt_of_lt_of_le h1 (Nat.min_le_left _ _)
  have e:=g (o+i) v (by
   rw[BA]at hv ⊢
   rw[List.getElem?_take_of_lt hi,List.getElem?_drop]at hv
   exact hv)
  rw[Nat.mul_one,XD]
  exact e
theorem XN(bs:List Int)(o n x:Nat)(hx:x<n):((bs.drop o).take n).getD x 0=bs.getD (o+x) 0:=by
 rw[List.getD_eq_getElem?_getD,List.getD_eq_getElem?_getD,List.getElem?_take_of_lt hx,List.getElem?_drop]
theorem N3{bs:List Int}(hb:A4 bs)(o n:Nat):A4 ((bs.drop o).take n):=fun v hv=>hb v (List.mem_of_mem_drop (List.mem_of_mem_take hv))
theorem SI(bs:List Int)(o n:Nat)(hn:4≤n):AV ((bs.drop o).take n) 0=AV bs o:=by
 unfold AV
 rw[XN _ _ _ _ (by omega),XN _ _ _ _ (by omega),XN _ _ _ _ (by omega),XN _ _ _ _ (by omega)]
 rfl
def AmN(x:Nat):Int:=(((ByteArray.mk #[80,67,85,76]).data.toList.getD x 0).toNat:Int)
def GE(x:Nat)(c:Int):Bool:=if x<4 then c == AmN x else if x=4 then c == 1 else if x=5 then decide (c<8) else if x=6 then decide (c<64) else if x=7 then c == 0 else true
def DW(bs:List Int):Nat->Nat->Option (Int×Int)
 | 0,_=>none
 | m+1,x=>if x=bs.length then some (6,x) else if GE x (bs.getD x 0)=true then DW bs m (x+1) else some (5,x)
def CP(bs:List Int):Int×Int:=
 if 524288<bs.length then (4,524288) else match DW bs 16 0 with
 | some w=>w
 | none=>if 524240<AV bs 12 then (5,12) else if (bs.length:Int)<48+AV bs 12 then (6,bs.length) else if 48+AV bs 12<bs.length then (7,48+AV bs 12) else (0,0)
section
variable {h0 h:H} {A:List Ent} {i j p r b:Nat}
theorem qA{Q:Int->HP}{q:Option Addr}{l c:Nat}{bs:List Int}(rd:hsv h q 1 l (AA .u8 bs))(hb:A4 bs)(hl:4≤l)(k:Q (AV bs 0) h):PQ q l c Q h:=by
 unfold PQ gJ
 have g:∀x,x<l->∃q',q=some q'/\hc h (q'.add x)=some (.int .u8 (bs.getD x 0)):=fun x hx=>CI rd hx
 obtain⟨q0,e0,g0⟩:=g 0 (by omega)
 obtain⟨q1,e1,g1⟩:=g 1 (by omega)
 obtain⟨q2,e2,g2⟩:=g 2 (by omega)
 obtain⟨q3,e3,g3⟩:=g 3 (by omega)
 rw[add_zero]at g0
 refine⟨_,e0,by omega,by omega,_,g0,_,e1,by omega,by omega,_,g1,by omega,_,e2,by omega,by omega,_,g2,by omega,_,e3,by omega,by omega,_,g3,by omega,?_⟩
 rw[or4 (C6 hb _) (C6 hb _) (C6 hb _) (C6 hb _)]
 exact k
theorem qQ{Q:Int->HP}{q:Option Addr}{l c:Nat}{bs:List Int}(rd:hsv h q 1 l (AA .u8 bs))(hb:A4 bs)(hl:4≤l)(k:Q (AV bs 0) h):RD q l c Q h:=by
 unfold RD lH
 intro J hJ
 have g:∀x,x<l->∃q',q=some q'/\hc h (q'.add x)=some (.int .u8 (bs.getD x 0)):=fun x hx=>CI rd hx
 have S:∀n,n≤4->0≤n->True:=fun _ _ _=>trivial
 have key:AV bs 0=C8 bs 4:=by
  have e0:bits .or .i64 0 (IntKind.i64.wrap (IntKind.i64.wrap (bs.getD 0 0)*2^(8*0)))=IntKind.i64.wrap (bs.getD 0 0):=by
   have:=C6 hb 0
   unfold CC at this
   have w:IntKind.i64.wrap (bs.getD 0 0)=bs.getD 0 0:=by rw[IntKind.wrap_i64];omega
   rw[w]
   have e:IntKind.i64.wrap (bs.getD 0 0*2^(8*0))=bs.getD 0 0*2^0:=by rw[IntKind.wrap_i64];omega
   rw[e,aS 0 (by omega) this.1 (by omega)];omega
  unfold C8 C8 C8 C8 C8
  rw[e0]
  exact (or4 (C6 hb _) (C6 hb _) (C6 hb _) (C6 hb _)).symm
 rw[key]at k
 refine DE 4 (fun n (x:Int)=>[.dv (.one (.int .i64 x)),si n]) (fun n x h'=>h'=h/\x=C8 bs n) ?_ ?_ 0 0 _ (by omega) ⟨rfl,rfl⟩
 ·rintro n x h1 hn ⟨rfl,rfl⟩ hk
  apply hJ
  rw[AD,if_pos (by simp;omega)]
  obtain⟨q1,e1,g1⟩:=g n (by omega)
  have e8:IntKind.i64.wrap (8*(n:Int))=((8*n:Nat):Int):=by rw[AL (by omega)];omega
  refine⟨_,e1,by omega,by omega,_,by rw[Int.toNat_natCast,Nat.mul_one];exact g1,by rw[e8];omega,?_⟩
  rw[AU (by omega),YL (by omega)]
  exact hk _ _ ⟨rfl,rfl⟩
 ·rintro x h1 ⟨rfl,rfl⟩
  apply hJ
  rw[AD,if_neg (by simp)]
  exact k
theorem AmS{Q:Bool->HP}(x:Nat)(c:Int)(k:Q (GE x c) h):PO (x:Int) c Q h:=by
 unfold PO gI
 unfold GE at k
 by_cases g:x<4
 ·rw[if_pos g]at k
  rw[AD,if_pos (by simp;omega)]
  refine⟨by omega,by omega,?_⟩
  rw[Int.toNat_natCast];exact k
 rw[if_neg g]at k
 rw[AD,if_neg (by simp;omega)]
 by_cases g4:x=4
 ·rw[if_pos g4]at k;rw[if_pos (by simp;omega)];exact k
 rw[if_neg g4]at k;rw[if_neg (by simp;omega)]
 by_cases g5:x=5
 ·rw[if_pos g5]at k;rw[if_pos (by simp;omega),AD];exact k
 rw[if_neg g5]at k;rw[if_neg (by simp;omega)]
 by_cases g6:x=6
 ·rw[if_pos g6]at k;rw[if_pos (by simp;omega),AD];exact k
 rw[if_neg g6]at k;rw[if_neg (by simp;omega)]
 by_cases g7:x=7
 ·rw[if_pos g7]at k;rw[if_pos (by simp;omega)];exact k
 rw[if_neg g7]at k;rw[if_neg (by simp;omega)]
 exact k
theorem AoT{Q:Bool->HP}(x:Nat)(c:Int)(k:Q (GE x c) h):RC (x:Int) c Q h:=by
 unfold RC lG
 intro J hJ
 have way:∀bb:Bool,(bb=true↔x<4)->J [.dv (.one (.bool bb))] h:=by
  intro bb hbb
  apply hJ
  unfold GE at k
  by_cases g:x<4
  ·rw[if_pos g]at k
   rw[if_pos (hbb.2 g)]
   refine⟨by omega,by omega,?_⟩
   rw[Int.toNat_natCast];exact k
  rw[if_neg g]at k
  rw[if_neg (fun y=>g (hbb.1 y))]
  by_cases g4:x=4
  ·rw[if_pos g4]at k;rw[if_pos (by simp;omega)];exact k
  rw[if_neg g4]at k;rw[if_neg (by simp;omega)]
  by_cases g5:x=5
  ·rw[if_pos g5]at k;rw[if_pos (by simp;omega),AD];exact k
  rw[if_neg g5]at k;rw[if_neg (by simp;omega)]
  by_cases g6:x=6
  ·rw[if_pos g6]at k;rw[if_pos (by simp;omega),AD];exact k
  rw[if_neg g6]at k;rw[if_neg (by simp;omega)]
  by_cases g7:x=7
  ·rw[if_pos g7]at k;rw[if_pos (by simp;omega)];exact k
  rw[if_neg g7]at k;rw[if_neg (by simp;omega)]
  exact k
 by_cases g0:x=0
 ·rw[if_pos (by simp;omega)];exact way _ (by simp;omega)
 rw[if_neg (by simp;omega)]
 by_cases g1:x=1
 ·rw[if_pos (by simp;omega)];exact way _ (by simp;omega)
 rw[if_neg (by simp;omega)]
 by_cases g2:x=2
 ·rw[if_pos (by simp;omega)];exact way _ (by simp;omega)
 rw[if_neg (by simp;omega)]
 exact way _ (by simp;omega)
end
abbrev AP(a b v:Int)(x:Sl)(t:List Int):List Value:=.int .i64 a::.int .i64 b::.int .i64 v::x.v::AA .u8 t
section
variable {h0 h:H} {A:List Ent} {i j p r b:Nat}
theorem BX{a b v:Int}{x:Sl}{t:List Int}(ht:t.length=32):(AP a b v x t).length=36:=by simp[ht]
theorem CB{a b' v:Int}{x:Sl}{t:List Int}(hs:Sat h0 A h)(m:At A i (blk b (AP a b' v x t)))(ht:t.length=32):hrow h ⟨b,4,none⟩ .u8 t:=by
 refine hs.cs m ?_
 show (AA .u8 t).take (AA .u8 t).length=_
 rw[List.take_length]
theorem xZ{a b' v:Int}{x:Sl}{u:List Int}(hu:u.length=32):AR (AP a b' v x (AB 32)) 4 (AA .u8 u)=AP a b' v x u:=by
 have e:AP a b' v x (AB 32)=[.int .i64 a,.int .i64 b',.int .i64 v,x.v]++AA .u8 (AB 32):=rfl
 have e2:∀(vs xs:List Value) (o:Nat) (pre:List Value),AR (pre++vs) (pre.length+o) xs=pre++AR vs o xs:=by
  intro vs xs
  induction xs generalizing vs with
  | nil=>intro o pre;rfl
  | cons y ys ih=>
   intro o pre
   rw[FN,FN,cD pre vs [],Nat.add_assoc]
   exact ih (vs.set o y) (o+1) pre
 rw[e]
 have:=e2 (AA .u8 (AB 32)) (AA .u8 u) 0 [.int .i64 a,.int .i64 b',.int .i64 v,x.v]
 rw[qZ _ _ (by simp[hu])]at this
 exact this
theorem sC{Q:Int->Int->Int->Option Addr->Nat->Nat->List Int->Value->HP}{q:Option Addr}{l c:Nat}{bs:List Int}(hs:Sat h0 A h)(rd:∀h',Sat h0 A h'->hsv h' q 1 l (AA .u8 bs))(hb:A4 bs)(hlc:l≤c)(hl:l<2^50)
  (k1:∀e at_ w h',CP bs=(e,at_)->e≠0->Sat h0 (blk w [.int .i64 e,.int .i64 at_]::A) h'->Q 0 0 0 none 0 0 (AB 32) (.iface 162 (.pointer (some ⟨w,0,none⟩))) h')
  (k2:∀(own:Sl) (n:Nat) h',CP bs=(0,0)->AV bs 12=n->Sat h0 (sE own 1 (AA .u8 bs)::A) h'->Q (bs.getD 5 0) (bs.getD 6 0) (AV bs 8) (AJ own.1 16 (16+n) 1) n n ((bs.drop (16+n)).take 32) .nilIface h'):
  JY q l c Q h:=by
 unfold JY gH
 try simp only[AF,Nat.zero_add,List.append_nil]
 have hbl:bs.length=l:=by have:=(rd _ hs).1;simpa using this
 intro n7 _ hn;replace hs:=Sat.new hs hn
 replace hs:Sat h0 (blk n7 (AP 0 0 0 (none,0,0) (AB 32))::A) _:=hs
 have bad:∀e at_ h',CP bs=(e,at_)->e≠0->Sat h0 (blk n7 (AP 0 0 0 (none,0,0) (AB 32))::A) h'->∀(n10:Nat) (h11:H),hnew h' n10 [.int .i64 e,.int .i64 at_] h11->AC h11 ⟨n7,0,none⟩ 36/\∀h13,h13=hwr h11 ⟨n7,0,none⟩ (AP 0 0 0 (none,0,0) (AB 32))->
   ∃i15:Int,hc h13 ⟨n7,0,none⟩=some (.int .i64 i15)/\∃i16:Int,hc h13 ⟨n7,1,none⟩=some (.int .i64 i16)/\∃i17:Int,hc h13 ⟨n7,2,none⟩=some (.int .i64 i17)/\∃(o18:Option Addr) (n19 n20:Nat),hc h13 ⟨n7,3,none⟩=some (.slice o18 n19 n20)/\
    ∃l21:List Int,l21.length=32/\hrow h13 ⟨n7,4,none⟩ .u8 l21/\Q i15 i16 i17 o18 n19 n20 l21 (.iface 162 (.pointer (some ⟨n10,0,none⟩))) h13:=by
  intro e at_ h' hw he hs n10 h11 hn
  replace hs:=Sat.new hs hn
  refine⟨Sat.can hs zs1 (by decide),?_⟩
  intro h13 e13
  replace hs:=Sat.wra hs zs1 e13 rfl
  simp only[put]at hs
  refine⟨_,Sat.ld hs zs1 rfl,_,Sat.ld hs zs1 rfl,_,Sat.ld hs zs1 rfl,_,_,_,Sat.ld hs zs1 rfl,_,rfl,CB hs zs1 rfl,?_⟩
  exact k1 e at_ n10 _ hw he (hs.sub (by(repeat (first | exact List.Sublist.refl _ | apply List.Sublist.cons_cons | apply List.Sublist.cons))))
 by_cases g1:524288<l
 ·rw[AD,if_pos (by simp;omega)]
  exact bad _ _ _ (by unfold CP;rw[if_pos (by omega)]) (by decide) hs
 rw[AD,if_neg (by simp;omega)]
 have hP:CP bs=match DW bs 16 0 with
  | some w=>w
  | none=>if 524240<AV bs 12 then (5,12) else if (bs.length:Int)<48+AV bs 12 then (6,bs.length) else if 48+AV bs 12<bs.length then (7,48+AV bs 12) else (0,0):=by
  unfold CP;rw[if_neg (by omega)];try rfl
 clear k1
 generalize hW:DW bs 16 0=W at hP
 intro J hJ
 refine BB 16 (fun x h=>Sat h0 (blk n7 (AP 0 0 0 (none,0,0) (AB 32))::A) h/\W=DW bs (16-x) x/\x≤l) ?_ ?_ 0 _ (by omega) ⟨hs,hW.symm,by omega⟩
 ·rintro x h1 hx ⟨hs,hh,hxl⟩ hk
  apply hJ
  rw[AD,if_pos (by simp;omega)]
  obtain⟨m,hm⟩:∃m,16-x=m+1:=⟨16-x-1,by omega⟩
  rw[hm]at hh
  unfold DW at hh
  by_cases g2:x=l
  ·rw[if_pos (show x=bs.length by omega)]at hh
   rw[if_pos (by simp;omega)]
   exact bad 6 x _ (by rw[hP,hh]) (by decide) hs
  rw[if_neg (show ¬x=bs.length by omega)]at hh
  rw[if_neg (by simp;omega)]
  obtain⟨q',hq,g⟩:=CI (rd _ hs.drop) (x:=x) (by omega)
  refine⟨_,hq,by omega,by omega,_,by rw[Int.toNat_natCast,Nat.mul_one];exact g,?_⟩
  refine AmS x _ ?_
  by_cases g3:GE x (bs.getD x 0)=true
  ·rw[if_pos g3]at hh
   rw[if_neg (by rw[g3];decide),AU (by omega)]
   exact hk _ ⟨hs,by rw[hh,show 16-(x+1)=m by omega],by omega⟩
  ·rw[if_neg g3]at hh
   rw[if_pos (by rw[Bool.not_eq_true]at g3;rw[g3];rfl)]
   exact bad 5 x _ (by rw[hP,hh]) (by decide) hs
 rintro h1 ⟨hs,hh,hxl⟩
 apply hJ
 rw[AD,if_neg (by simp)]
 clear hJ J
 have hh:W=none:=hh
 rw[hh]at hP
 dsimp only at hP
 refine⟨by omega,by omega,?_⟩
 have rd12:=OS (o:=12) (n:=l-12) (m:=c) (rd _ hs.drop) (by omega) (by omega)
 refine qA rd12 (N3 hb _ _) (by omega) ?_
 rw[SI _ _ _ (by omega)]
 obtain⟨r1,r2⟩:=aQ hb 12
 obtain⟨n,hnn⟩:=Int.eq_ofNat_of_zero_le r1
 rw[hnn]at hP r2 ⊢
 have ew:IntKind.i64.wrap (16+(n:Int))=((16+n:Nat):Int):=by rw[AL (by omega)];omega
 have ew2:IntKind.i64.wrap (((16+n:Nat):Int)+32)=((48+n:Nat):Int):=by rw[AL (by omega)];omega
 rw[ew,ew2]
 by_cases g2:524240<n
 ·rw[if_pos (by omega)]at hP
  rw[AD,if_pos (by simp;omega)]
  exact bad 5 12 _ hP (by decide) hs
 rw[if_neg (by omega)]at hP
 rw[AD,if_neg (by simp;omega)]
 by_cases g3:l<48+n
 ·rw[if_pos (by omega),hbl]at hP
  rw[AD,if_pos (by simp;omega)]
  exact bad 6 l _ hP (by decide) hs
 rw[if_neg (by omega)]at hP
 rw[AD,if_neg (by simp;omega)]
 by_cases g4:48+n<l
 ·rw[if_pos (by omega)]at hP
  rw[AD,if_pos (by simp;omega)]
  exact bad 7 _ _ (by rw[hP];congr 1) (by decide) hs
 rw[if_neg (by omega)]at hP
 rw[AD,if_neg (by simp;omega)]
 have hw:=hP
 clear bad hP
 have hl48:l=48+n:=by omega
 refine⟨_,rd _ hs.drop,?_⟩
 refine Sat.app_new hs (by simp[hbl]) rfl (A5 _ _) (by omega) ?_
 intro o c2 h2 hs
 obtain⟨own,hown⟩:∃own:Sl,own=(o,l,c2):=⟨_,rfl⟩
 have hcap:=YH hs .z
 replace hs:Sat h0 (sE own 1 (AA .u8 bs)::blk n7 (AP 0 0 0 (none,0,0) (AB 32))::A) h2:=by rw[hown];exact hs
 have eo1:o=own.1:=by rw[hown]
 have eo2:own.2.1=l:=by rw[hown]
 rw[eo1]
 have B:∀x,x<l->∀{A':List Ent} {h':H},Sat h0 A h'->∃q',q=some q'/\hc h' (q'.add x)=some (.int .u8 (bs.getD x 0)):=fun x hx A' h' hs'=>CI (rd _ hs') hx
 obtain⟨q',hq,g5⟩:=CI (rd _ hs.drop.drop) (x:=5) (by omega)
 obtain⟨q2,hq2,g6⟩:=CI (rd _ hs.drop.drop) (x:=6) (by omega)
 rw[hq]at hq2
 injection hq2 with hq2
 subst hq2
 have c5:∀h',Sat h0 A h'->hcs h' (q'.add 5) [.int .u8 (bs.getD 5 0)]:=fun h' hs'=>by
  obtain⟨q2,hq2,g⟩:=CI (rd _ hs') (x:=5) (by omega)
  rw[hq]at hq2;injection hq2 with hq2;subst hq2;exact AI g
 have c6:∀h',Sat h0 A h'->hcs h' (q'.add 6) [.int .u8 (bs.getD 6 0)]:=fun h' hs'=>by
  obtain⟨q2,hq2,g⟩:=CI (rd _ hs') (x:=6) (by omega)
  rw[hq]at hq2;injection hq2 with hq2;subst hq2;exact AI g
 have b5:=C6 hb 5
 have b6:=C6 hb 6
 unfold CC at b5 b6
 have w5:IntKind.i64.wrap (bs.getD 5 0)=bs.getD 5 0:=by rw[IntKind.wrap_i64];omega
 have w6:IntKind.i64.wrap (bs.getD 6 0)=bs.getD 6 0:=by rw[IntKind.wrap_i64];omega
 have ht32:((bs.drop (16+n)).take 32).length=32:=by rw[List.length_take,List.length_drop];omega
 refine⟨_,hq,by omega,by omega,_,g5,_,hq,by omega,by omega,_,g6,by omega,by omega,by omega,by omega,by omega,by omega,?_⟩
 rw[Int.toNat_natCast,Nat.add_sub_cancel_left]
 have rd8:∀h',Sat h0 A h'->hsv h' (AJ q 8 c 1) 1 (l-8) (AA .u8 ((bs.drop 8).take (l-8))):=fun h' hs'=>OS (o:=8) (n:=l-8) (m:=c) (rd _ hs') (by omega) (by omega)
 rw[w5,w6,show Nat.min (l-(16+n)) 32=32 by show min _ _=_;omega]
 constructor
 ·refine qA (rd8 _ hs.drop.drop) (N3 hb _ _) (by omega) ?_
  rw[SI _ _ _ (by omega)]
  refine⟨c6 _ hs.drop.drop,c5 _ hs.drop.drop,?_⟩
  intro nb _ hn;replace hs:=Sat.new hs hn
  refine⟨c6 _ hs.drop.drop.drop,c5 _ hs.drop.drop.drop,?_⟩
  (refine⟨Sat.can hs .z (by decide),?_⟩;intro h20 e20;replace hs:=Sat.wra hs .z e20 (by rfl);clear e20;simp only[put]at hs;replace hs:Sat h0 (blk nb (AP (bs.getD 5 0) (bs.getD 6 0) (AV bs 8) (AJ own.1 16 (16+n) 1,n,n) (AB 32))::sE own 1 (AA .u8 bs)::blk n7 (AP 0 0 0 (none,0,0) (AB 32))::A) h20:=hs;refine⟨by omega,by omega,_,OS (n:=32) (hs.sv zs1) (by omega) (by omega),Or.inr ⟨_,rfl,Sat.can hs .z (by rw[BX rfl];decide)⟩,?_⟩;intro h21 e21;replace hs:=Sat.wr hs .z (o:=4) e21;clear e21;rw[xZ (by rw[List.length_take,List.length_drop];omega)]at hs;simp only[put]at hs;refine⟨_,Sat.ld hs .z rfl,_,Sat.ld hs .z rfl,_,Sat.ld hs .z rfl,_,_,_,Sat.ld hs .z rfl,_,ht32,CB hs .z ht32,Sat.can hs zs2 (by decide),?_⟩;intro h22 e22;replace hs:=Sat.wra hs zs2 e22 (by rw[BX ht32];rfl);clear e22;simp only[put]at hs;replace hs:Sat h0 (blk nb (AP (bs.getD 5 0) (bs.getD 6 0) (AV bs 8) (AJ own.1 16 (16+n) 1,n,n) ((bs.drop (16+n)).take 32))::sE own 1 (AA .u8 bs)::blk n7 (AP (bs.getD 5 0) (bs.getD 6 0) (AV bs 8) (AJ own.1 16 (16+n) 1,n,n) ((bs.drop (16+n)).take 32))::A) h22:=hs;refine⟨_,Sat.ld hs zs2 rfl,_,Sat.ld hs zs2 rfl,_,Sat.ld hs zs2 rfl,_,_,_,Sat.ld hs zs2 rfl,_,ht32,CB hs zs2 ht32,?_⟩;exact k2 own n _ hw hnn (hs.sub (by(repeat (first | exact List.Sublist.refl _ | apply List.Sublist.cons_cons | apply List.Sublist.cons)))))
 ·intro nb _ hn;replace hs:=Sat.new hs hn
  refine⟨c6 _ hs.drop.drop.drop,c5 _ hs.drop.drop.drop,?_⟩
  refine qA (rd8 _ hs.drop.drop.drop) (N3 hb _ _) (by omega) ?_
  rw[SI _ _ _ (by omega)]
  refine⟨c6 _ hs.drop.drop.drop,c5 _ hs.drop.drop.drop,?_⟩
  (refine⟨Sat.can hs .z (by decide),?_⟩;intro h20 e20;replace hs:=Sat.wra hs .z e20 (by rfl);clear e20;simp only[put]at hs;replace hs:Sat h0 (blk nb (AP (bs.getD 5 0) (bs.getD 6 0) (AV bs 8) (AJ own.1 16 (16+n) 1,n,n) (AB 32))::sE own 1 (AA .u8 bs)::blk n7 (AP 0 0 0 (none,0,0) (AB 32))::A) h20:=hs;refine⟨by omega,by omega,_,OS (n:=32) (hs.sv zs1) (by omega) (by omega),Or.inr ⟨_,rfl,Sat.can hs .z (by rw[BX rfl];decide)⟩,?_⟩;intro h21 e21;replace hs:=Sat.wr hs .z (o:=4) e21;clear e21;rw[xZ (by rw[List.length_take,List.length_drop];omega)]at hs;simp only[put]at hs;refine⟨_,Sat.ld hs .z rfl,_,Sat.ld hs .z rfl,_,Sat.ld hs .z rfl,_,_,_,Sat.ld hs .z rfl,_,ht32,CB hs .z ht32,Sat.can hs zs2 (by decide),?_⟩;intro h22 e22;replace hs:=Sat.wra hs zs2 e22 (by rw[BX ht32];rfl);clear e22;simp only[put]at hs;replace hs:Sat h0 (blk nb (AP (bs.getD 5 0) (bs.getD 6 0) (AV bs 8) (AJ own.1 16 (16+n) 1,n,n) ((bs.drop (16+n)).take 32))::sE own 1 (AA .u8 bs)::blk n7 (AP (bs.getD 5 0) (bs.getD 6 0) (AV bs 8) (AJ own.1 16 (16+n) 1,n,n) ((bs.drop (16+n)).take 32))::A) h22:=hs;refine⟨_,Sat.ld hs zs2 rfl,_,Sat.ld hs zs2 rfl,_,Sat.ld hs zs2 rfl,_,_,_,Sat.ld hs zs2 rfl,_,ht32,CB hs zs2 ht32,?_⟩;exact k2 own n _ hw hnn (hs.sub (by(repeat (first | exact List.Sublist.refl _ | apply List.Sublist.cons_cons | apply List.Sublist.cons)))))
end
def GX(t:List Int)(n:Nat):List Int:=tab 32 fun x=>if x<n then t.getD x 0 else 0
theorem WG(t:List Int)(n:Nat):(GX t n).length=32:=by simp[GX]
theorem AqA(t:List Int):GX t 0=AB 32:=by
 unfold GX
 simp only[Nat.not_lt_zero,if_false];rfl
theorem Aq8{t:List Int}(ht:t.length=32):GX t 32=t:=by
 refine o6 ((WG t 32).trans ht.symm) fun x hx=>?_
 rw[WG]at hx
 unfold GX
 rw[cJ _ hx,if_pos hx]
theorem Aq9(t:List Int){n:Nat}(hn:n<32):(GX t n).set n (t.getD n 0)=GX t (n+1):=by
 refine o6 (by simp[WG]) fun x hx=>?_
 rw[List.length_set,WG]at hx
 rw[cE]
 unfold GX
 rw[cJ _ hx,cJ _ hx]
 by_cases c:n=x
 ·subst c;rw[if_pos ⟨rfl,by simp;omega⟩,if_pos (by omega)]
 ·rw[if_neg (fun y=>c y.1)]
  by_cases d:x<n
  ·rw[if_pos d,if_pos (by omega)]
  ·rw[if_neg d,if_neg (by omega)]
section
variable {h0 h:H} {A:List Ent} {i j p r b:Nat}
theorem AlU{a b' v w:Int}{x:Sl}{t:List Int}{n:Nat}(hn:n<t.length):AR (AP a b' v x t) (4+n) [.int .u8 w]=AP a b' v x (t.set n w):=by
 show (AP a b' v x t).set (4+n) (.int .u8 w)=_
 rw[show 4+n=n+1+1+1+1 by omega]
 simp only[AP,List.set_cons_succ,E4]
theorem zY{Q:Int->Int->Int->Option Addr->Nat->Nat->List Int->Int->Int->HP}{q:Option Addr}{l c:Nat}{bs:List Int}(hs:Sat h0 A h)(rd:∀h',Sat h0 A h'->hsv h' q 1 l (AA .u8 bs))(hb:A4 bs)(hlc:l≤c)(hl:l<2^50)
  (k1:∀e at_ h',CP bs=(e,at_)->e≠0->Sat h0 A h'->Q 0 0 0 none 0 0 (AB 32) e at_ h')
  (k2:∀(own:Sl) (n:Nat) h',CP bs=(0,0)->AV bs 12=n->own.2.1=n->Sat h0 (sE own 1 (AA .u8 ((bs.drop 16).take n))::A) h'->Q (bs.getD 5 0) (bs.getD 6 0) (AV bs 8) own.1 own.2.1 own.2.2 ((bs.drop (16+n)).take 32) 0 0 h'):
  NK q l c Q h:=by
 unfold NK lC
 try simp only[AF,Nat.zero_add,List.append_nil]
 have hbl:bs.length=l:=by have:=(rd _ hs).1;simpa using this
 intro n7 _ hn;replace hs:=Sat.new hs hn
 intro n10 _ hn;replace hs:=Sat.new hs hn
 replace hs:Sat h0 (blk n10 [.int .i64 0,.int .i64 0]::blk n7 (AP 0 0 0 (none,0,0) (AB 32))::A) _:=hs
 have bad:∀e at_ h',CP bs=(e,at_)->e≠0->Sat h0 (blk n10 [.int .i64 0,.int .i64 0]::blk n7 (AP 0 0 0 (none,0,0) (AB 32))::A) h'->AC h' ⟨n7,0,none⟩ 36/\∀h13,h13=hwr h' ⟨n7,0,none⟩ (AP 0 0 0 (none,0,0) (AB 32))->AC h13 ⟨n10,0,none⟩ 2/\∀h15,h15=hwr h13 ⟨n10,0,none⟩ [.int .i64 e,.int .i64 at_]->
   ∃i15:Int,hc h15 ⟨n7,0,none⟩=some (.int .i64 i15)/\∃i16:Int,hc h15 ⟨n7,1,none⟩=some (.int .i64 i16)/\∃i17:Int,hc h15 ⟨n7,2,none⟩=some (.int .i64 i17)/\∃(o18:Option Addr) (n19 n20:Nat),hc h15 ⟨n7,3,none⟩=some (.slice o18 n19 n20)/\
    ∃l21:List Int,l21.length=32/\hrow h15 ⟨n7,4,none⟩ .u8 l21/\∃i24:Int,hc h15 ⟨n10,0,none⟩=some (.int .i64 i24)/\∃i25:Int,hc h15 ⟨n10,1,none⟩=some (.int .i64 i25)/\Q i15 i16 i17 o18 n19 n20 l21 i24 i25 h15:=by
  intro e at_ h' hw he hs
  refine⟨Sat.can hs zs1 (by decide),?_⟩
  intro h13 e13
  replace hs:=Sat.wra hs zs1 e13 rfl
  simp only[put]at hs
  refine⟨Sat.can hs .z (by decide),?_⟩
  intro h15 e15
  replace hs:=Sat.wra hs .z e15 rfl
  simp only[put]at hs
  refine⟨_,Sat.ld hs zs1 rfl,_,Sat.ld hs zs1 rfl,_,Sat.ld hs zs1 rfl,_,_,_,Sat.ld hs zs1 rfl,_,rfl,CB hs zs1 rfl,_,Sat.ld hs .z rfl,_,Sat.ld hs .z rfl,?_⟩
  exact k1 e at_ _ hw he hs.drop.drop
 by_cases g1:524288<l
 ·rw[AD,if_pos (by simp;omega)]
  exact bad _ _ _ (by unfold CP;rw[if_pos (by omega)]) (by decide) hs
 rw[AD,if_neg (by simp;omega)]
 have hP:CP bs=match DW bs 16 0 with
  | some w=>w
  | none=>if 524240<AV bs 12 then (5,12) else if (bs.length:Int)<48+AV bs 12 then (6,bs.length) else if 48+AV bs 12<bs.length then (7,48+AV bs 12) else (0,0):=by
  unfold CP;rw[if_neg (by omega)];try rfl
 clear k1
 generalize hW:DW bs 16 0=W at hP
 intro J hJ
 refine BB 16 (fun x h=>Sat h0 (blk n10 [.int .i64 0,.int .i64 0]::blk n7 (AP 0 0 0 (none,0,0) (AB 32))::A) h/\W=DW bs (16-x) x/\x≤l) ?_ ?_ 0 _ (by omega) ⟨hs,hW.symm,by omega⟩
 ·rintro x h1 hx ⟨hs,hh,hxl⟩ hk
  apply hJ
  rw[AD,if_pos (by simp;omega)]
  obtain⟨m,hm⟩:∃m,16-x=m+1:=⟨16-x-1,by omega⟩
  rw[hm]at hh
  unfold DW at hh
  by_cases g2:x=l
  ·rw[if_pos (show x=bs.length by omega)]at hh
   rw[if_pos (by simp;omega)]
   exact bad 6 x _ (by rw[hP,hh]) (by decide) hs
  rw[if_neg (show ¬x=bs.length by omega)]at hh
  rw[if_neg (by simp;omega)]
  obtain⟨q',hq,g⟩:=CI (rd _ hs.drop.drop) (x:=x) (by omega)
  refine⟨_,hq,by omega,by omega,_,by rw[Int.toNat_natCast,Nat.mul_one];exact g,?_⟩
  refine AoT x _ ?_
  by_cases g3:GE x (bs.getD x 0)=true
  ·rw[if_pos g3]at hh
   rw[if_neg (by rw[g3];decide),AU (by omega)]
   exact hk _ ⟨hs,by rw[hh,show 16-(x+1)=m by omega],by omega⟩
  ·rw[if_neg g3]at hh
   rw[if_pos (by rw[Bool.not_eq_true]at g3;rw[g3];rfl)]
   exact bad 5 x _ (by rw[hP,hh]) (by decide) hs
 rintro h1 ⟨hs,hh,hxl⟩
 apply hJ
 rw[AD,if_neg (by simp)]
 clear hJ J
 have hh:W=none:=hh
 rw[hh]at hP
 dsimp only at hP
 refine⟨by omega,by omega,?_⟩
 have rd12:=OS (o:=12) (n:=l-12) (m:=c) (rd _ hs.drop.drop) (by omega) (by omega)
 refine qQ rd12 (N3 hb _ _) (by omega) ?_
 rw[SI _ _ _ (by omega)]
 obtain⟨r1,r2⟩:=aQ hb 12
 obtain⟨n,hnn⟩:=Int.eq_ofNat_of_zero_le r1
 rw[hnn]at hP r2 ⊢
 by_cases g2:524240<n
 ·rw[if_pos (by omega)]at hP
  rw[AD,if_pos (by simp;omega)]
  exact bad 5 12 _ hP (by decide) hs
 rw[if_neg (by omega)]at hP
 rw[AD,if_neg (by simp;omega)]
 have ew:IntKind.i64.wrap ((n:Int)+16)=((16+n:Nat):Int):=by rw[AL (by omega)];omega
 have ew2:IntKind.i64.wrap (((16+n:Nat):Int)+32)=((48+n:Nat):Int):=by rw[AL (by omega)];omega
 have ew3:IntKind.i64.wrap (((48+n:Nat):Int)-32)=((16+n:Nat):Int):=by rw[AL (by omega)];omega
 rw[ew,ew2,ew3]
 by_cases g3:l<48+n
 ·rw[if_pos (by omega),hbl]at hP
  rw[AD,if_pos (by simp;omega)]
  exact bad 6 l _ hP (by decide) hs
 rw[if_neg (by omega)]at hP
 rw[AD,if_neg (by simp;omega)]
 by_cases g4:48+n<l
 ·rw[if_pos (by omega)]at hP
  rw[AD,if_pos (by simp;omega)]
  exact bad 7 _ _ (by rw[hP];congr 1) (by decide) hs
 rw[if_neg (by omega)]at hP
 rw[AD,if_neg (by simp;omega)]
 have hw:=hP
 clear bad hP
 have hl48:l=48+n:=by omega
 intro J100 hJ100
 have ht32:((bs.drop (16+n)).take 32).length=32:=by rw[List.length_take,List.length_drop];omega
 have way:∀(nb:Nat) h',Sat h0 (blk nb (AP (bs.getD 5 0) (bs.getD 6 0) (AV bs 8) (none,0,0) (AB 32))::blk n10 [.int .i64 0,.int .i64 0]::blk n7 (AP 0 0 0 (none,0,0) (AB 32))::A) h'->J100 [.dv (.addr ⟨nb,0,none⟩)] h':=by
  intro nb h2 hs
  apply hJ100
  clear hJ100 J100
  try simp only[AF,Nat.zero_add]
  intro n103 _ hn;replace hs:=Sat.new hs hn
  rw[Int.toNat_natCast,Nat.add_sub_cancel_left]
  refine⟨by omega,by omega,by omega,_,OS (o:=16) (n:=n) (rd _ hs.drop.drop.drop.drop) (by omega) (by omega),?_⟩
  refine Sat.app_new hs (by simp;omega) rfl (A5 _ _) (by omega) ?_
  intro o c2 h3 hs
  obtain⟨own,hown⟩:∃own:Sl,own=(o,n,c2):=⟨_,rfl⟩
  replace hs:Sat h0 (sE own 1 (AA .u8 ((bs.drop 16).take n))::blk n103 []::blk nb (AP (bs.getD 5 0) (bs.getD 6 0) (AV bs 8) (none,0,0) (AB 32))::blk n10 [.int .i64 0,.int .i64 0]::blk n7 (AP 0 0 0 (none,0,0) (AB 32))::A) h3:=by rw[hown];exact hs
  have eo1:o=own.1:=by rw[hown]
  have eo2:n=own.2.1:=by rw[hown]
  have eo3:c2=own.2.2:=by rw[hown]
  refine⟨Sat.can hs zs2 (by rw[BX rfl];decide),?_⟩
  intro h4 e4
  replace hs:=Sat.wr hs zs2 (o:=3) e4
  clear e4
  simp only[put]at hs
  have e5:AR (AP (bs.getD 5 0) (bs.getD 6 0) (AV bs 8) (none,0,0) (AB 32)) 3 [.slice o n c2]=AP (bs.getD 5 0) (bs.getD 6 0) (AV bs 8) own (GX ((bs.drop (16+n)).take 32) 0):=by rw[AqA,hown];rfl
  rw[e5]at hs
  clear e5
  intro J113 hJ113
  refine BB 32 (fun x h=>Sat h0 (sE own 1 (AA .u8 ((bs.drop 16).take n))::blk n103 []::blk nb (AP (bs.getD 5 0) (bs.getD 6 0) (AV bs 8) own (GX ((bs.drop (16+n)).take 32) x))::blk n10 [.int .i64 0,.int .i64 0]::blk n7 (AP 0 0 0 (none,0,0) (AB 32))::A) h) ?_ ?_ 0 _ (by omega) hs
  ·intro x h5 hx hs hk
   apply hJ113
   rw[AD,if_pos (by simp;omega)]
   have e6:IntKind.i64.wrap (((16+n:Nat):Int)+(x:Int))=((16+n+x:Nat):Int):=by rw[AL (by omega)];omega
   rw[e6]
   obtain⟨q',hq,g⟩:=CI (rd _ hs.drop.drop.drop.drop.drop) (x:=16+n+x) (by omega)
   refine⟨_,hq,by omega,by omega,_,by rw[Int.toNat_natCast,Nat.mul_one];exact g,by omega,by omega,?_⟩
   rw[Int.toNat_natCast,Nat.mul_one]
   refine⟨Sat.can hs zs2 (by rw[BX (WG _ _)];simp;omega),?_⟩
   intro h6 e6
   replace hs:=Sat.wr hs zs2 (o:=4+x) e6
   clear e6
   rw[AlU (by rw[WG];exact hx)]at hs
   have e7:bs.getD (16+n+x) 0=((bs.drop (16+n)).take 32).getD x 0:=(XN bs (16+n) 32 x hx).symm
   rw[e7,Aq9 _ hx]at hs
   rw[AU (by omega)]
   exact hk _ hs
  ·intro h5 hs
   rw[Aq8 ht32]at hs
   apply hJ113
   rw[AD,if_neg (by simp)]
   refine⟨_,Sat.ld hs zs2 rfl,_,Sat.ld hs zs2 rfl,_,Sat.ld hs zs2 rfl,_,_,_,Sat.ld hs zs2 rfl,_,ht32,CB hs zs2 ht32,Sat.can hs zs4 (by decide),?_⟩
   intro h6 e6
   replace hs:=Sat.wra hs zs4 e6 (by rw[BX ht32];rfl)
   clear e6
   simp only[put]at hs
   refine⟨Sat.can hs zs3 (by decide),?_⟩
   intro h7 e7
   replace hs:=Sat.wra hs zs3 e7 (by rfl)
   clear e7
   simp only[put]at hs
   replace hs:Sat h0 (sE own 1 (AA .u8 ((bs.drop 16).take n))::blk n103 []::blk nb (AP (bs.getD 5 0) (bs.getD 6 0) (AV bs 8) own ((bs.drop (16+n)).take 32))::blk n10 [.int .i64 0,.int .i64 0]::blk n7 (AP (bs.getD 5 0) (bs.getD 6 0) (AV bs 8) own ((bs.drop (16+n)).take 32))::A) h7:=hs
   refine⟨_,Sat.ld hs zs4 rfl,_,Sat.ld hs zs4 rfl,_,Sat.ld hs zs4 rfl,_,_,_,Sat.ld hs zs4 rfl,_,ht32,CB hs zs4 ht32,_,Sat.ld hs zs3 rfl,_,Sat.ld hs zs3 rfl,?_⟩
   exact k2 own n _ hw hnn eo2.symm (hs.sub (by(repeat (first | exact List.Sublist.refl _ | apply List.Sublist.cons_cons | apply List.Sublist.cons))))
 obtain⟨q',hq,g5⟩:=CI (rd _ hs.drop.drop) (x:=5) (by omega)
 obtain⟨q2,hq2,g6⟩:=CI (rd _ hs.drop.drop) (x:=6) (by omega)
 rw[hq]at hq2
 injection hq2 with hq2
 subst hq2
 have c5:∀h',Sat h0 A h'->hcs h' (q'.add 5) [.int .u8 (bs.getD 5 0)]:=fun h' hs'=>by
  obtain⟨q2,hq2,g⟩:=CI (rd _ hs') (x:=5) (by omega)
  rw[hq]at hq2;injection hq2 with hq2;subst hq2;exact AI g
 have c6:∀h',Sat h0 A h'->hcs h' (q'.add 6) [.int .u8 (bs.getD 6 0)]:=fun h' hs'=>by
  obtain⟨q2,hq2,g⟩:=CI (rd _ hs') (x:=6) (by omega)
  rw[hq]at hq2;injection hq2 with hq2;subst hq2;exact AI g
 have b5:=C6 hb 5
 have b6:=C6 hb 6
 unfold CC at b5 b6
 have w5:IntKind.i64.wrap (bs.getD 5 0)=bs.getD 5 0:=by rw[IntKind.wrap_i64];omega
 have w6:IntKind.i64.wrap (bs.getD 6 0)=bs.getD 6 0:=by rw[IntKind.wrap_i64];omega
 have rd8:∀h',Sat h0 A h'->hsv h' (AJ q 8 c 1) 1 (l-8) (AA .u8 ((bs.drop 8).take (l-8))):=fun h' hs'=>OS (o:=8) (n:=l-8) (m:=c) (rd _ hs') (by omega) (by omega)
 refine⟨_,hq,by omega,by omega,_,g5,_,hq,by omega,by omega,_,g6,by omega,by omega,?_⟩
 rw[w5,w6]
 constructor
 ·refine qQ (rd8 _ hs.drop.drop) (N3 hb _ _) (by omega) ?_
  rw[SI _ _ _ (by omega)]
  refine⟨c6 _ hs.drop.drop,c5 _ hs.drop.drop,?_⟩
  intro nb _ hn;replace hs:=Sat.new hs hn
  refine⟨c6 _ hs.drop.drop.drop,c5 _ hs.drop.drop.drop,?_⟩
  refine⟨Sat.can hs .z (by decide),?_⟩
  intro h4 e4
  replace hs:=Sat.wra hs .z e4 (by rfl)
  exact way nb _ hs
 ·intro nb _ hn;replace hs:=Sat.new hs hn
  refine⟨c6 _ hs.drop.drop.drop,c5 _ hs.drop.drop.drop,?_⟩
  refine qQ (rd8 _ hs.drop.drop.drop) (N3 hb _ _) (by omega) ?_
  rw[SI _ _ _ (by omega)]
  refine⟨c6 _ hs.drop.drop.drop,c5 _ hs.drop.drop.drop,?_⟩
  refine⟨Sat.can hs .z (by decide),?_⟩
  intro h4 e4
  replace hs:=Sat.wra hs .z e4 (by rfl)
  exact way nb _ hs
end
end Go.Proofs.YteedolonhdbieaaGreatDoor
end
section
namespace Go.Vc
def inF(p:Option Addr)(vs:List Value)(f:Nat->Prop):Prop:=vs=[]∨∃q,p=some q/\f q.block
theorem AlO{h h':H}{p:Option Addr}{sz l:Nat}{vs:List Value}{f:Nat->Prop}(e:hsv h p sz l vs)(i:inF p vs f)(hs:∀b,f b->h'[b]?=h[b]?):hsv h' p sz l vs:=by
 obtain⟨h1,h2,h3⟩:=e
 refine⟨h1,h2,?_⟩
 rcases h3 with h3 | ⟨q,rfl,h3⟩
 ·exact Or.inl h3
 rcases i with i | ⟨q',hq,hf⟩
 ·exact Or.inl i
 injection hq with hq
 subst hq
 refine Or.inr ⟨q,rfl,fun i v hv=>?_⟩
 have:=h3 i v hv
 rw[xD (h:=h) (by rw[oJ];exact hs _ hf)]
 exact this
@[irreducible] def ofP(e:Ent)(p:Option Addr)(sz l:Nat)(vs:List Value)(h:H)(f:Nat->Prop):Prop:=e.P h f/\hsv h p sz l vs/\inF p vs f
def ofE(e:Ent)(p:Option Addr)(sz l:Nat)(vs:List Value):Ent where
 tag:=e.tag
 P:=ofP e p sz l vs
 st:=by unfold ofP;rintro h h' f ⟨k,k2,k3⟩ hs;exact⟨e.st k hs,AlO k2 k3 hs,k3⟩
 lt:=by unfold ofP;rintro h f x ⟨k,_⟩ hx;exact e.lt k hx
theorem ofE_P{e:Ent}{p:Option Addr}{sz l:Nat}{vs:List Value}{h:H}{f:Nat->Prop}:(ofE e p sz l vs).P h f↔e.P h f/\hsv h p sz l vs/\inF p vs f:=by
 show ofP e p sz l vs h f↔_;unfold ofP;rfl
theorem Sat.ofSv{h0 h:H}{A:List Ent}(s:Sat h0 A h){i:Nat}{e:Ent}{p:Option Addr}{sz l:Nat}{vs:List Value}(a:At A i (ofE e p sz l vs)):hsv h p sz l vs:=by
 obtain⟨f,hp,_⟩:=s.take a
 exact (ofE_P.1 hp).2.1
theorem Sat.ofOut{h0 h:H}{A:List Ent}(s:Sat h0 A h){i:Nat}{e:Ent}{p:Option Addr}{sz l:Nat}{vs:List Value}(a:At A i (ofE e p sz l vs)):Sat h0 (Vc.put A i e) h:=
 s.as a fun f hp=>(ofE_P.1 hp).1
theorem SatX.sat{A:List Ent}{h:H}{O:Nat->Prop}(s:SatX A h O):Sat #[] A h:=⟨⟨Nat.zero_le _,fun b hb _=>absurd hb (Nat.not_lt_zero _)⟩,O,s,fun _ _=>Nat.zero_le _⟩
theorem SatX.foot{A:List Ent}{h:H}{O:Nat->Prop}(s:SatX A h O){i:Nat}{e:Ent}(a:At A i e):∃f,e.P h f/\∀b,f b->O b:=by
 obtain⟨f,g,hp,_,ho,_⟩:=s.take a
 exact⟨f,hp,fun b hb=>(ho b).2 (Or.inl hb)⟩
theorem Ab3{p:Option Addr}{l c sz:Nat}{vs:List Value}{h:H}{f:Nat->Prop}(hp:(slE p l c sz vs).P h f):hsv h p sz l vs/\inF p vs f:=by
 obtain⟨bs,o,hf⟩:=slE_P.1 hp
 refine⟨o.hsv,?_⟩
 obtain⟨h1,h2,h3,h4⟩:=o
 rcases h4 with⟨e1,e2,e3⟩ | ⟨b,rest,e1,e2,_,_⟩
 ·left
  subst e1
  have:vs.length=0:=by rw[h1];simp
  exact List.length_eq_zero_iff.1 this
 ·right
  exact⟨_,e1,(hf b).2 (by rw[e2];simp)⟩
theorem AmP{h:H}{f:Nat->Prop}{sz:Nat}{a:Sl}{rows:List (List Int)}(hp:(BR sz a rows).P h f){j:Nat}(hj:j<rows.length):
  ∃q x,a.1=some q/\rows.length=a.2.1/\hc h (q.add (j*1))=some (Sl.v x)/\hsv h x.1 sz x.2.1 (AA .u8 rows[j])/\inF x.1 (AA .u8 rows[j]) f:=by
 obtain⟨pgs,he,s⟩:=exE_P.1 hp
 subst he
 have hj':j<pgs.length:=by simpa using hj
 obtain⟨f0,hp0,hf0⟩:=s.foot (i:=0) (e:=sE a 1 (DU pgs)) .z
 obtain⟨hsv0,_⟩:=Ab3 hp0
 have e:(DU pgs)[j]?=some (pgs[j].sl.v):=by simp[DU,hj']
 obtain⟨q,hq,g⟩:=FP hsv0 e
 obtain⟨y,hy⟩:=At.mem (A:=GW sz pgs) (e:=sE pgs[j].sl sz (AA .u8 pgs[j].bytes)) (List.mem_map_of_mem (List.getElem_mem hj'))
 obtain⟨f1,hp1,hf1⟩:=s.foot hy.s
 obtain⟨hsv1,hin⟩:=Ab3 hp1
 have er:(GU pgs)[j]=pgs[j].bytes:=by simp[GU]
 refine⟨q,pgs[j].sl,hq,?_,by simpa using g,by rw[er];exact hsv1,?_⟩
 ·have:=hsv0.1;simp at this;simpa using this
 ·rw[er]
  rcases hin with hin | ⟨q',e1,e2⟩
  ·exact Or.inl hin
  ·exact Or.inr ⟨q',e1,hf1 _ e2⟩
end Go.Vc
end
section
namespace Go.Proofs.YteedolonhdbieaaGreatDoor
open Go Go.Vc
set_option maxRecDepth 100000
def BD(C:Cm)(ar:Int):List Int:=B0 C ar (C.cfg.area.toNat*C.cfg.cells.toNat)
def AN(C:Cm)(ar:Int):List Int×Int:=
 if AT C ar 2≠0 then ([],AT C ar 2)
 else if DR C.cfg<48 then ([],5)
 else if DR C.cfg<48+AV (BD C ar) 12 then ([],5)
 else if (CP ((BD C ar).take (48+AV (BD C ar) 12).toNat)).1≠0 then ([],5)
 else ((BD C ar).take (48+AV (BD C ar) 12).toNat,0)
theorem AiO(C:Cm)(ar:Int)(m:Nat):∀d,∃r,B0 C ar (m+d)=B0 C ar m++r:=by
 intro d
 induction d with
 | zero=>exact⟨[],by simp⟩
 | succ d ih=>
  obtain⟨r,hr⟩:=ih
  have e:B0 C ar (m+(d+1))=B0 C ar (m+d)++(CK C (2+ar*C.cfg.area+(((m+d) / C.cfg.cells.toNat:Nat):Int)) (((m+d) % C.cfg.cells.toNat:Nat):Int)).1:=rfl
  exact⟨_,by rw[e,hr,List.append_assoc]⟩
theorem ZH{C:Cm}(ok:C.ok)(ar:Int)(m:Nat):(B0 C ar m).length=32*m:=by
 induction m with
 | zero=>rfl
 | succ m ih=>unfold B0;rw[List.length_append,ih,qO ok];omega
theorem vB{C:Cm}(ok:C.ok)(ar:Int){m M n:Nat}(hm:m≤M)(hn:n≤32*m):(B0 C ar m).take n=(B0 C ar M).take n:=by
 obtain⟨r,hr⟩:=AiO C ar m (M-m)
 rw[show m+(M-m)=M by omega]at hr
 rw[hr,List.take_append_of_le_length (by rw[ZH ok];exact hn)]
theorem AoF{C:Cm}(ok:C.ok)(page cell:Int):A4 (CK C page cell).1:=by
 unfold CK
 split
 ·intro v hv
  dsimp only at hv
  unfold AB at hv
  have:=List.eq_of_mem_replicate hv
  subst this;exact⟨by decide,by decide⟩
 ·intro v hv
  dsimp only at hv
  have hv2:=XL hv
  by_cases c:page.toNat<C.s.pages.length
  ·have e:C.s.pages.getD page.toNat []=C.s.pages[page.toNat]:=by simp[List.getD,List.getElem?_eq_getElem c]
   unfold FI at hv2
   rw[e]at hv2
   exact ok.typed.bytes _ (List.getElem_mem c) v hv2
  ·have e:C.s.pages.getD page.toNat []=[]:=by simp[List.getD,List.getElem?_eq_none (show C.s.pages.length≤page.toNat by omega)]
   unfold FI at hv2
   rw[e]at hv2;cases hv2
theorem oP{C:Cm}(ok:C.ok)(ar:Int)(m:Nat):A4 (B0 C ar m):=by
 induction m with
 | zero=>intro v hv;cases hv
 | succ m ih=>
  unfold B0
  intro v hv
  rcases List.mem_append.1 hv with y | y
  ·exact ih v y
  ·exact AoF ok _ _ v y
theorem Ab2{c:Cfg}(m:c.may):DR c=((32*(c.area.toNat*c.cells.toNat):Nat):Int):=by
 have h1:=m.area
 have h2:=m.cells
 have h3:=m.slots
 unfold DR
 rw[if_pos m]
 have e1:(c.area.toNat:Int)=c.area:=by omega
 have e2:(c.cells.toNat:Int)=c.cells:=by omega
 rw[←e1,←e2,Int.natCast_mul,Int.natCast_mul]
 simp only[Int.toNat_natCast]
 rw[Int.mul_comm];rfl
theorem AlH(bs:List Int):∀m x w,DW bs m x=some w->w.1≠0:=by
 intro m
 induction m with
 | zero=>intro x w y;cases y
 | succ m ih=>
  intro x w y
  unfold DW at y
  split at y
  ·injection y with y;rw[←y];simp
  ·split at y
   ·exact ih _ _ y
   ·injection y with y;rw[←y];simp
theorem zH{B:List Int}{n:Nat}(hpl:CP B=(0,0))(hnn:AV B 12=n):B.length=48+n:=by
 unfold CP at hpl
 split at hpl
 ·injection hpl with e1;cases e1
 ·split at hpl
  ·rename_i w _ hh
   exact absurd (by rw[hpl]) (AlH _ _ _ _ hh)
  ·split at hpl
   ·injection hpl with e1;cases e1
   ·split at hpl
    ·injection hpl with e1;cases e1
    ·split at hpl
     ·injection hpl with e1;cases e1
     ·omega
section
variable {h0 h:H} {A:List Ent} {i j p r b:Nat} {C:Cm}
theorem v5(hs:Sat h0 A h){q:Option Addr}{l c n c2:Nat}{vs:List Value}(m:At A i (slE q l c 1 vs))(hn:n≤l)(hc:n≤c2)(hc2:c2≤c):Sat h0 (put A i (slE q n c2 1 (vs.take n))) h:=by
 refine hs.as m fun f hp=>?_
 obtain⟨bs,⟨h1,h2,h3,h4⟩,e⟩:=slE_P.1 hp
 refine slE_P.2 ⟨bs,⟨by rw[List.length_take];omega,hc,fun v hv=>h3 v (List.mem_of_mem_take hv),?_⟩,e⟩
 rcases h4 with⟨e1,e2,e3⟩ | ⟨b,rest,e1,e2,k,e3⟩
 ·exact Or.inl ⟨by omega,by omega,e3⟩
 ·refine Or.inr ⟨b,vs.drop n++rest,e1,e2,?_,?_⟩
  ·rw[←List.append_assoc,List.take_append_drop];exact k
  ·rw[List.length_append,List.length_drop];omega
theorem AiI{Q:Option Addr->Nat->Nat->Int->HP}(hs:Sat h0 A h)(ci:At A i (AH p C))(ar:Int)
  (k1:(AN C ar).2≠0->∀h',Sat h0 A h'->Q none 0 0 (AN C ar).2 h')
  (k2:(AN C ar).2=0->∀(o:Option Addr) (n:Nat) h',0<n->(AN C ar).1.length=n->Sat h0 (slE o n n 1 (AA .u8 (AN C ar).1)::A) h'->Q o n n 0 h'):OW ⟨p,0,none⟩ ar Q h:=by
 unfold OW dN
 try simp only[AF,Nat.zero_add,List.append_nil]
 have ok:=CG hs ci
 refine uV hs ci ar ?_
 unfold AN at k1 k2
 by_cases g0:AT C ar 2=0
 case neg=>
  rw[if_pos (by simpa using g0)]at k1
  rw[if_pos (by simpa using g0)]
  exact k1 g0 _ hs
 rw[if_neg (by simpa using g0)]at k1 k2
 rw[if_neg (by simpa using g0)]
 obtain⟨ho,a1,a2⟩:=CV g0
 refine CE hs ci ?_
 intro h1 hs
 refine oF C.cfg hs ?_
 intro h2 hs
 have hsz:=Ab2 ok.may
 have hsl:=qY C.cfg
 by_cases g1:DR C.cfg<48
 ·rw[if_pos g1]at k1
  rw[AD,if_pos (by simpa using g1)]
  exact k1 (by simp) _ hs
 rw[if_neg g1]at k1 k2
 rw[AD,if_neg (by simpa using g1)]
 obtain⟨M,hM⟩:∃M,M=C.cfg.area.toNat*C.cfg.cells.toNat:=⟨_,rfl⟩
 rw[←hM]at hsz
 have hall:BD C ar=B0 C ar M:=by unfold BD;rw[hM]
 have hlen:=ZH ok ar M
 have hbb:=oP ok ar M
 refine uX hs ci ho ar a1 a2 48 (by rw[←hM];omega) (by decide) ?_
 intro o c m h3 hm hs hm2
 have hm:m=2:=hm
 subst hm
 rw[if_neg (by simp)]
 obtain⟨q',hq,sv⟩:=Aq3 hs .z (n:=48) (by decide) (by decide)
 have et:(B0 C ar 2).take 48=(BD C ar).take 48:=by rw[hall];exact vB ok ar (by omega) (by decide)
 have el:∀x,x<48->((B0 C ar 2).take 48).getD x 0=(BD C ar).getD x 0:=by
  intro x hx
  rw[et,List.getD_eq_getElem?_getD,List.getD_eq_getElem?_getD,List.getElem?_take,if_pos hx]
 have ld:∀x,x<48->hc h3 (q'.add x)=some (.int .u8 ((BD C ar).getD x 0)):=by
  intro x hx
  obtain⟨q2,hq2,g⟩:=CI sv hx
  injection hq2 with hq2
  subst hq2
  rw[el x hx]at g
  exact g
 refine⟨_,hq,by omega,by omega,_,ld 12 (by decide),_,hq,by omega,by omega,_,ld 13 (by decide),by omega,_,hq,by omega,by omega,_,ld 14 (by decide),by omega,_,hq,by omega,by omega,_,ld 15 (by decide),by omega,?_⟩
 rw[←hall]at hbb hlen
 have eor:=or4 (C6 hbb 12) (C6 hbb 13) (C6 hbb 14) (C6 hbb 15)
 obtain⟨r1,r2⟩:=aQ hbb 12
 have en:(BD C ar).getD 12 0+256*(BD C ar).getD 13 0+65536*(BD C ar).getD 14 0+16777216*(BD C ar).getD 15 0=AV (BD C ar) 12:=rfl
 rw[en]at eor
 have m8:min (Int.toNat 8) IntKind.i64.bits=8:=by decide
 have m16:min (Int.toNat 16) IntKind.i64.bits=16:=by decide
 have m24:min (Int.toNat 24) IntKind.i64.bits=24:=by decide
 rw[m8,m16,m24,eor]
 obtain⟨N,hN⟩:∃N:Nat,48+AV (BD C ar) 12=N:=⟨(48+AV (BD C ar) 12).toNat,by omega⟩
 have hN2:(48+AV (BD C ar) 12).toNat=N:=by rw[hN];rfl
 rw[hN,AL (by omega)]
 rw[hN2,hN]at k1 k2
 clear eor en
 by_cases g2:DR C.cfg<(N:Int)
 ·rw[if_pos g2]at k1
  rw[AD,if_pos (by simpa using g2)]
  exact k1 (by simp) _ (hs.drop)
 rw[if_neg g2]at k1 k2
 rw[AD,if_neg (by simpa using g2)]
 replace hs:=hs.drop
 refine uX hs ci ho ar a1 a2 N (by rw[←hM];omega) (by omega) ?_
 intro o c m h4 hm hs hm2
 rw[if_neg (by simp)]
 have hN0:0<N:=by omega
 have hmM:m≤M:=by omega
 have et2:(B0 C ar m).take N=(BD C ar).take N:=by rw[hall];exact vB ok ar hmM hm2
 have hcap:=YH hs .z
 obtain⟨b0,hb0⟩:=hs.sl_some .z (by omega)
 have eo:AJ o 0 N 1=o:=by
  unfold AJ
  rw[if_neg (by omega),hb0];rfl
 rw[eo]
 replace hs:=v5 hs .z (n:=N) (c2:=N) hm2 (Nat.le_refl _) (by omega)
 simp only[put]at hs
 have eints:(AA .u8 (B0 C ar m)).take N=AA .u8 ((BD C ar).take N):=by rw[←et2];simp[AA,List.map_take]
 rw[eints]at hs
 have hbt:A4 ((BD C ar).take N):=fun v hv=>hbb v (List.mem_of_mem_take hv)
 have hlt:((BD C ar).take N).length=N:=by rw[List.length_take];omega
 generalize (BD C ar).take N=B at *
 refine sC (bs:=B) hs (fun h' hs'=>hs'.sv .z) hbt (Nat.le_refl _) (by omega) ?_ ?_
 ·intro e at_ w h5 hw he hs
  intro n48 _ hn;replace hs:=Sat.new hs hn
  refine⟨Sat.can hs .z (by decide),?_⟩
  intro h6 e6
  replace hs:=Sat.wra hs .z e6 (by rfl)
  clear e6
  refine⟨rfl,?_⟩
  rw[if_pos (by rfl)]
  rw[if_pos (by rw[hw];exact he)]at k1
  exact k1 (by simp) _ hs.drop.drop.drop
 ·intro own n h5 hw hnn hs
  intro n48 _ hn;replace hs:=Sat.new hs hn
  have ht32:((B.drop (16+n)).take 32).length=32:=by
   have hl48:=zH hw hnn
   rw[List.length_take,List.length_drop];omega
  refine⟨Sat.can hs .z (by decide),?_⟩
  intro h6 e6
  replace hs:=Sat.wra hs .z e6 (by simp[ht32])
  clear e6
  refine⟨rfl,?_⟩
  rw[if_neg (by decide)]
  rw[if_neg (by rw[hw];simp)]at k2
  exact k2 rfl o N _ hN0 hlt (by simp only[put]at hs;exact hs.drop.drop)
theorem Ao0(hs:Sat h0 A h)(cj:At A j (AK r C)){k:Nat}(hk:(k:Int)<C.s.pages.length):
  ∃(pl pc:Nat) (q:Addr) (xp:Option Addr) (xl xc:Nat),hc h ⟨r,7,none⟩=some (.slice (some q) pl pc)/\(k:Int)<pl/\hc h ⟨r,6,none⟩=some (.int .i64 C.cfg.area)/\hc h (q.add k)=some (.slice xp xl xc)/\xl=C.cfg.cells.toNat/\A4 (C.pg k)/\xl<2^60/\
   Sat h0 (put A j (ofE (AK r C) xp 32 xl (AA .u8 (C.pg k)))) h:=by
 have ok:=FX hs cj
 obtain⟨f,hp,_,hback⟩:=hs.takeK cj
 have hkn:k<C.s.pages.length:=by omega
 obtain⟨⟨w,ms⟩,hw,s⟩:=exE_P.1 hp
 have hs0:=s.sat
 dsimp only[EF]at s hs0
 obtain⟨f1,hp1,hf1⟩:=s.foot zs1
 obtain⟨q,x,hq,hl,hx,hrd,hin⟩:=AmP hp1 hkn
 have he:C.pg k=C.s.pages[k]:=by unfold Cm.pg;simp[List.getD,List.getElem?_eq_getElem hkn]
 have hcl:=ok.fits.cells _ (List.getElem_mem hkn)
 have hm:=ok.may.cells
 have hxl:x.2.1*32=C.s.pages[k].length:=by have:=hrd.1;simp at this;omega
 have l7:hc h ⟨r,7,none⟩=some (.slice (some q) w.a.2.1 w.a.2.2):=by
  have:=hs0.ld .z (o:=7) (v:=w.a.v) rfl
  rw[this]
  obtain⟨⟨a1,a2,a3⟩,b,c,m⟩:=w
  dsimp only at hq ⊢
  rw[←hq]
 refine⟨w.a.2.1,w.a.2.2,q,x.1,x.2.1,x.2.2,l7,by omega,hs0.ld .z rfl,by rw[Nat.mul_one]at hx;exact hx,by omega,by rw[he];exact ok.typed.bytes _ (List.getElem_mem hkn),by omega,?_⟩
 refine hback h _ f (ofE_P.2 ⟨hp,by rw[he];exact hrd,?_⟩) (fun _=>Or.inl) (Ext.refl _ _)
 rw[he]
 rcases hin with hin | ⟨q',e1,e2⟩
 ·exact Or.inl hin
 ·exact Or.inr ⟨q',e1,hf1 _ e2⟩
theorem AnT{Q:Option Addr->Nat->Nat->HP}(hs:Sat h0 A h)(cj:At A j (AK r C))(ho:C.out=false)(ar:Int)(a1:0≤ar)(a2:ar<2)
  (k:∀(x:Sl) h',x.2.1=32*(C.cfg.area.toNat*C.cfg.cells.toNat)->Sat h0 (sE x 1 (AA .u8 (BD C ar))::A) h'->Q x.1 x.2.1 x.2.2 h'):RE ⟨r,0,none⟩ ar Q h:=by
 unfold RE lN
 try simp only[AF,Nat.zero_add,List.append_nil]
 have ok:=FX hs cj
 have hm:=ok.may.area
 have hcl:=ok.may.cells
 have hsl:=ok.may.slots
 have hfp:=ok.fits.pages
 have hnp:C.cfg.np=2+2*C.cfg.area:=rfl
 obtain⟨R,hR⟩:∃R,R=C.cfg.area.toNat:=⟨_,rfl⟩
 obtain⟨Z,hZ⟩:∃Z,Z=C.cfg.cells.toNat:=⟨_,rfl⟩
 unfold BD at k
 rw[←hR,←hZ]at k
 have hR64:R≤64:=by omega
 have hZ0:0<Z/\Z≤256:=by omega
 have hsz:R*Z≤16384:=by
  calc R*Z≤64*Z:=Nat.mul_le_mul_right _ hR64
   _≤16384:=by omega
 have z:0≤ar*C.cfg.area/\ar*C.cfg.area≤C.cfg.area:=by
  have:ar=0∨ar=1:=by omega
  rcases this with rfl | rfl <;> omega
 intro n4 h5 hn;replace hs:=Sat.new hs hn
 intro J7 hJ7
 have hs0:Sat h0 (slE (some ⟨n4,0,none⟩) (32*(0*Z)) 0 1 (AA .u8 (B0 C ar (0*Z)))::A) h5:=by
  have:=hs.as_sl .z (l:=0) (sz:=1) (by rfl) (fun v hv=>by cases hv)
  rw[Nat.zero_mul]
  exact this
 clear hs
 suffices hh:J7 [.dv (.one (.slice (some ⟨n4,0,none⟩) (32*(0*Z)) 0)),.dv (.one (.int .i64 ((0:Nat):Int)))] h5 by rw[Nat.zero_mul]at hh;exact hh
 refine DE (J:=J7) R (fun m (s:Option Addr×Nat)=>[.dv (.one (.slice s.1 (32*(m*Z)) s.2)),.dv (.one (.int .i64 (m:Int)))]) (fun m s h=>Sat h0 (slE s.1 (32*(m*Z)) s.2 1 (AA .u8 (B0 C ar (m*Z)))::A) h) ?_ ?_ 0 (some ⟨n4,0,none⟩,0) _ (by omega) hs0
 ·rintro m ⟨o,c⟩ h1 hm2 hs hk
  apply hJ7
  have ew:IntKind.i64.wrap (IntKind.i64.wrap (2+IntKind.i64.wrap (ar*C.cfg.area))+(m:Int))=(((2+ar*C.cfg.area).toNat+m:Nat):Int):=by
   rw[AL (n:=ar*C.cfg.area) (by omega),AL (n:=2+ar*C.cfg.area) (by omega),AL (by omega)];omega
  obtain⟨P,hP⟩:∃P,P=(2+ar*C.cfg.area).toNat:=⟨_,rfl⟩
  rw[←hP]at ew
  obtain⟨pl,pc,q,xp,xl,xc,e7,hl,e6,hx,exl,hb,hl60,hs⟩:=Ao0 hs cj.s (k:=P+m) (by omega)
  refine⟨_,e6,?_⟩
  rw[AD,if_pos (by simp;omega)]
  refine⟨_,_,_,e7,_,e6,?_⟩
  rw[ew]
  refine⟨_,rfl,by omega,by omega,_,_,_,by rw[Int.toNat_natCast,Nat.mul_one];exact hx,?_⟩
  rw[←hZ]at exl
  subst exl
  clear e7 hl hx e6
  simp only[put]at hs
  generalize hrow:C.pg (P+m)=row at *
  obtain⟨A2,hA2⟩:∃A2,A2=put A j (ofE (AK r C) xp 32 xl (AA .u8 row)):=⟨_,rfl⟩
  rw[←hA2]at hs
  have tO:At A2 j (ofE (AK r C) xp 32 xl (AA .u8 row)):=by rw[hA2];exact cj.put _
  have back:put A2 j (AK r C)=A:=by rw[hA2,CD,cj.put_self]
  intro J22 hJ22
  have hs2:Sat h0 (slE o (32*(m*xl+0)) c 1 (AA .u8 (B0 C ar (m*xl+0)))::A2) h1:=by rw[Nat.add_zero];exact hs
  clear hs
  have hmx:m*xl+xl≤16384:=by
   have:(m+1)*xl≤R*xl:=Nat.mul_le_mul_right _ (by omega)
   rw[Nat.succ_mul]at this;omega
  refine DE xl (fun kk (s:Option Addr×Nat)=>[.dv (.one (.slice s.1 (32*(m*xl+kk)) s.2)),.dv (.one (.int .i64 (kk:Int)))]) (fun kk s h=>Sat h0 (slE s.1 (32*(m*xl+kk)) s.2 1 (AA .u8 (B0 C ar (m*xl+kk)))::A2) h) ?_ ?_ 0 (o,c) _ (by omega) hs2
  ·rintro kk ⟨o,c⟩ h2 hkk hs hk2
   apply hJ22
   rw[AD,if_pos (by simp;omega)]
   intro J28 hJ28
   obtain⟨q2,hq2,hlen,hcell⟩:=XW (hs.ofSv tO.s) hkk
   have hcl32:(AX row kk).length=32:=FA hlen
   have hread:(CK C (2+ar*C.cfg.area+(((m*xl+kk) / C.cfg.cells.toNat:Nat):Int)) (((m*xl+kk) % C.cfg.cells.toNat:Nat):Int)).1=AX row kk:=by
    rw[←hZ]
    have e1:(m*xl+kk) / xl=m:=by rw[Nat.add_comm,Nat.add_mul_div_right _ _ (by omega),Nat.div_eq_of_lt hkk,Nat.zero_add]
    have e2:(m*xl+kk) % xl=kk:=by rw[Nat.add_comm,Nat.add_mul_mod_self_right,Nat.mod_eq_of_lt hkk]
    rw[e1,e2]
    have ec:CZ C (2+ar*C.cfg.area+(m:Int)) (kk:Int)=0:=by
     unfold CZ
     rw[EK ho (by omega) (by omega),if_neg (by simp),EK ho (by omega) (by omega)]
    unfold CK
    rw[ec,if_neg (by simp),Int.toNat_natCast,show (2+ar*C.cfg.area+(m:Int)).toNat=P+m by omega]
    rw[←hrow];rfl
   have hsB:B0 C ar (m*xl+kk+1)=B0 C ar (m*xl+kk)++AX row kk:=by rw[←hread];rfl
   have hs3:Sat h0 (slE o (32*(m*xl+kk)+0) c 1 (AA .u8 (B0 C ar (m*xl+kk)++(AX row kk).take 0))::A2) h2:=by rw[List.take_zero,List.append_nil,Nat.add_zero];exact hs
   refine DE 32 (fun jj (s:Option Addr×Nat)=>[.dv (.one (.slice s.1 (32*(m*xl+kk)+jj) s.2)),.dv (.one (.int .i64 (jj:Int)))]) (fun jj s h=>Sat h0 (slE s.1 (32*(m*xl+kk)+jj) s.2 1 (AA .u8 (B0 C ar (m*xl+kk)++(AX row kk).take jj))::A2) h) ?_ ?_ 0 (o,c) _ (by omega) hs3
   ·rintro jj ⟨o,c⟩ h3 hjj hs hk3
    apply hJ28
    rw[AD,if_pos (by simp;omega)]
    obtain⟨q3,hq3,hlen3,hcell3⟩:=XW (hs.ofSv tO.s) hkk
    refine⟨_,hq3,by omega,by omega,by omega,by omega,(AX row kk).getD jj 0,?_,?_⟩
    ·rw[Int.toNat_natCast,Int.toNat_natCast,Nat.mul_one]
     refine hcell3 jj _ ?_
     rw[BA,List.getElem?_eq_getElem (by omega)];simp[List.getD,List.getElem?_eq_getElem (show jj<(AX row kk).length by omega)]
    intro n36 h36 hn36
    replace hs:=Sat.new hs hn36
    refine⟨_,Sat.bv hs .z (l:=1) rfl (A5 .u8 [(AX row kk).getD jj 0]),?_⟩
    refine Sat.app hs (i:=1) (vs:=AA .u8 [(AX row kk).getD jj 0]) zs1 (by simp) rfl (A5 _ _) (by omega) ?_
    intro p' c1 h11 hs
    simp only[put]at hs
    rw[AU (by omega)]
    refine hk3 (p',c1) _ ?_
    have e:AA .u8 (B0 C ar (m*xl+kk)++(AX row kk).take jj)++AA .u8 [(AX row kk).getD jj 0]=AA .u8 (B0 C ar (m*xl+kk)++(AX row kk).take (jj+1)):=by
     rw[←AqC _ _ (by omega),←List.append_assoc];simp[AA]
    rw[e]at hs
    exact hs.drop
   ·rintro⟨o,c⟩ h3 hs
    apply hJ28
    rw[AD,if_neg (by simp),AU (by omega)]
    have e32:(AX row kk).take 32=AX row kk:=List.take_of_length_le (by omega)
    rw[e32,←hsB]at hs
    exact hk2 (o,c) _ hs
  ·rintro⟨o,c⟩ h2 hs
   apply hJ22
   rw[AD,if_neg (by simp),AU (by omega)]
   have e:m*xl+xl=(m+1)*xl:=by rw[Nat.succ_mul]
   rw[e]at hs ⊢
   replace hs:=hs.ofOut tO.s
   simp only[put]at hs
   rw[back]at hs
   exact hk (o,c) _ hs
 ·rintro⟨o,c⟩ h1 hs
  apply hJ7
  obtain⟨w,lc⟩:=DK hs cj.s
  refine⟨_,lc 6 _ rfl,?_⟩
  rw[AD,if_neg (by simp;omega)]
  exact k (o,32*(R*Z),c) _ rfl hs
end
end Go.Proofs.YteedolonhdbieaaGreatDoor
end
