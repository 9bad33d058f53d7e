/- LoaderWhole and its parts, laid together by a program of ours: St1 St4 Sr Tq2 Tq4 St5 St6 Ar10 Ar11 Im1 Im2 Ar13 Gt1 Ld0 Gt3 GtW Tq5 St7 St8 Gt6 Sp0 Gt8 -/
import Derived.Test.YteedolonhdbieaaGreatDoorK13
set_option autoImplicit false
set_option linter.all false
section
namespace Go.Proofs.YteedolonhdbieaaGreatDoor
open Go Go.Vc
set_option maxRecDepth 100000
abbrev C8(s p r:Nat):Ent:=blk s [.pointer (some ⟨p,0,none⟩),.pointer (some ⟨r,0,none⟩)]
def FI(c:Cfg):Int:=c.step*c.fuses+c.step-1
theorem jG{c:Cfg}(m:c.may):0≤FI c/\FI c≤4259839/\c.step*c.fuses≤4194304/\0≤c.step*c.fuses:=by
 have h1:=m.step
 have h2:=m.fuses
 have a:c.step*c.fuses≤65536*64:=Int.mul_le_mul h1.2 h2.2 (by omega) (by decide)
 have b:0≤c.step*c.fuses:=Int.mul_nonneg (by omega) (by omega)
 unfold FI
 omega
def M6(C:Cm)(slot:Int):Int:=if (D0 C slot).1*C.cfg.step<BI C slot.toNat then BI C slot.toNat else (D0 C slot).1*C.cfg.step
def DN(C:Cm)(slot:Int):Int×Int:=if AT C slot C.cfg.slots≠0 then (0,AT C slot C.cfg.slots) else (M6 C slot,0)
def G6(C:Cm)(slot v:Int):Cm×Int:=
 if (DN C slot).2≠0 then (C,(DN C slot).2) else if v<0 then (C,2) else if v≤(DN C slot).1 then (C,0) else if FI C.cfg<v then (C,10)
 else if (EF C slot v).2≠0 then EF C slot v else QA (EF C slot v).1 slot (v.tdiv C.cfg.step)
theorem AeU{C:Cm}(ok:C.ok)(slot:Int):0≤(D0 C slot).1/\(D0 C slot).1≤C.cfg.fuses:=by
 have h2:=ok.may.fuses
 unfold D0
 split
 ·exact⟨Int.le_refl 0,by show (0:Int)≤_;omega⟩
 ·have:=pO C.s.blown (slot*C.cfg.fuses).toNat C.cfg.fuses.toNat
  dsimp only
  omega
theorem AmK{C:Cm}(ok:C.ok)(slot:Int):0≤(D0 C slot).1*C.cfg.step/\(D0 C slot).1*C.cfg.step≤4194304/\0≤M6 C slot/\M6 C slot≤BA:=by
 have h1:=ok.may.step
 have h2:=ok.may.fuses
 obtain⟨c0,c1⟩:=AeU ok slot
 have a:(D0 C slot).1*C.cfg.step≤64*65536:=Int.mul_le_mul (by omega) h1.2 (by omega) (by decide)
 have b:0≤(D0 C slot).1*C.cfg.step:=Int.mul_nonneg c0 (by omega)
 have d:=(KA ok).nums slot.toNat
 have hm:=P5
 refine⟨b,by omega,?_⟩
 unfold M6
 split
 ·exact d
 ·omega
section
variable {h0 h:H} {A:List Ent} {i j p r b s m:Nat} {C:Cm}
theorem kJ{Q:Option Addr->Int->HP}(hs:Sat h0 A h)(ci:At A i (AF p C))(k1:C.out=true->Q none 8 h)(k2:C.out=false->∀s l h',Sat h0 (C8 s p l::CE l p::A) h'->Q (some ⟨s,0,none⟩) 0 h'):JS ⟨p,0,none⟩ Q h:=by
 unfold JS fT
 refine l7 hs ci ?_ ?_
 ·intro ho
  rw[if_pos (by simp)]
  exact k1 ho
 ·intro ho l h1 hs
  rw[if_neg (by simp)]
  intro n7 _ hn;replace hs:=Sat.new hs hn
  exact k2 ho n7 l _ hs
theorem u7{Q:Int->HP}(hs:Sat h0 A h)(ci:At A i (AF p C))(st:At A m (C8 s p r))(k:∀h',Sat h0 A h'->Q (FI C.cfg) h'):JU ⟨s,0,none⟩ Q h:=by
 unfold JU fZ
 try simp only[AI,Nat.zero_add]
 have ok:=CW hs ci
 obtain⟨l0,l1,l2,l3⟩:=jG ok.may
 have h1:=ok.may.step
 refine⟨_,hs.ld st rfl,_,rfl,?_⟩
 refine CO hs ci ?_
 intro h1 hs
 intro n14 _ hn;replace hs:=Sat.new hs hn
 refine⟨Sat.can hs .z (by decide),?_⟩
 intro h2 e
 replace hs:=Sat.wra hs .z e rfl
 clear e
 simp only[put]at hs
 refine⟨_,hs.ld .z rfl,_,hs.ld .z rfl,_,hs.ld .z rfl,?_⟩
 rw[AQ (n:=C.cfg.step*C.cfg.fuses) (by omega),AQ (n:=C.cfg.step*C.cfg.fuses+C.cfg.step) (by omega),AQ (by unfold FI at l0 l1;omega)]
 exact k _ hs.drop
theorem kI{Q:Int->HP}(hs:Sat h0 A h)(ci:At A i (AF p C))(st:At A m (C8 s p r))(x n:Int)(k:Q (AT C x n) h):HL ⟨s,0,none⟩ x n Q h:=by
 unfold HL gE
 refine⟨_,hs.ld st rfl,_,rfl,?_⟩
 refine PH hs ci ?_
 unfold AT at k
 by_cases ho:C.out=true
 ·rw[if_pos ho]at k;rw[if_pos ho];exact k
 rw[if_neg ho]at k;rw[if_neg ho]
 by_cases g1:x<0
 ·rw[if_pos g1]at k;rw[AD,if_pos (by simpa using g1)];exact k
 rw[if_neg g1]at k;rw[AD,if_neg (by simpa using g1)]
 by_cases g2:n≤x
 ·rw[if_pos g2]at k;rw[BQ,if_pos (by simpa using g2)];exact k
 rw[if_neg g2]at k;rw[BQ,if_neg (by simpa using g2)];exact k
theorem kK{Q:Int->Int->HP}(hs:Sat h0 A h)(ci:At A i (AF p C))(cl:At A j (CE r p))(st:At A m (C8 s p r))(slot:Int)(k:∀h',Sat h0 A h'->Q (DN C slot).1 (DN C slot).2 h'):HK ⟨s,0,none⟩ slot Q h:=by
 unfold HK gA
 try simp only[AI,Nat.zero_add,List.append_nil]
 have ok:=CW hs ci
 refine⟨_,hs.ld st rfl,_,rfl,?_⟩
 refine CO hs ci ?_
 intro h1 hs
 refine kI hs ci st _ _ ?_
 unfold DN at k
 by_cases ha:AT C slot C.cfg.slots=0
 case neg=>
  rw[if_pos (by simpa using ha)]
  rw[if_pos ha]at k
  exact k _ hs
 rw[if_neg (fun y=>y ha)]at k
 rw[if_neg (by simpa using ha)]
 obtain⟨ho,g0,g1⟩:=EA ha
 refine⟨_,hs.ld st rfl,_,rfl,?_⟩
 refine xH hs ci slot ?_
 intro h2 hs
 have ec:(D0 C slot).2=0:=by unfold D0;rw[if_neg (fun y=>y ha)]
 rw[ec,if_neg (by simp)]
 refine⟨_,hs.ld st rfl,_,rfl,?_⟩
 refine l9 hs ci cl slot ?_
 intro h3 hs
 have en:HV C slot=(BI C slot.toNat,0):=by
  unfold HV
  rw[if_neg (by simp[ho]),if_neg (fun y=>y ⟨g0,by omega⟩)]
 rw[en,if_neg (by simp)]
 refine⟨_,hs.ld st rfl,_,rfl,?_⟩
 refine CO hs ci ?_
 intro h4 hs
 obtain⟨v0,v1,_⟩:=AmK ok slot
 rw[AQ (by omega)]
 intro n40 _ hn;replace hs:=Sat.new hs hn
 refine⟨Sat.can hs .z (by simp[AB]),?_⟩
 intro h5 e
 replace hs:=Sat.wra hs .z e (by simp[AB])
 clear e
 simp only[put]at hs
 refine⟨by decide,by decide,_,hs.ld .z rfl,by decide,by decide,_,hs.ld .z rfl,?_⟩
 exact k _ hs.drop
theorem Al0{Q:Int->HP}{nn ns:Nat}{now v:Int}(hs:Sat h0 A h)(ci:At A i (AF p C))(st:At A m (C8 s p r)){x y:Nat}(tn:At A x (blk nn [.int .i64 now]))(ts:At A y (blk ns [.pointer (some ⟨s,0,none⟩)]))
  (k:∀h',Sat h0 A h'->Q (if v<0 then 2 else if now<v then (if FI C.cfg<v then 10 else 0) else 0) h'):PE v ⟨nn,0,none⟩ ⟨ns,0,none⟩ Q h:=by
 unfold PE fY
 by_cases g1:v<0
 ·rw[if_pos g1]at k;rw[AD,if_pos (by simpa using g1)];exact k _ hs
 rw[if_neg g1]at k;rw[AD,if_neg (by simpa using g1)]
 refine⟨_,hs.ld tn rfl,?_⟩
 by_cases g2:now<v
 ·rw[if_pos g2]at k;rw[AD,if_pos (by simpa using g2)]
  refine⟨_,hs.ld ts rfl,_,rfl,?_⟩
  refine u7 hs ci st ?_
  intro h1 hs
  by_cases g3:FI C.cfg<v
  ·rw[if_pos g3]at k;rw[AD,if_pos (by simpa using g3)];exact k _ hs
  ·rw[if_neg g3]at k;rw[AD,if_neg (by simpa using g3)];exact k _ hs
 ·rw[if_neg g2]at k;rw[AD,if_neg (by simpa using g2)];exact k _ hs
theorem AhX(ok:C.ok)(slot n:Int):(EF C slot n).1.cfg=C.cfg:=by
 have ep:∀(t:Int) (nums:List Int) (m x a:Nat) (D:Cm),(EJ t nums m x a D).1.cfg=D.cfg:=by
  intro t nums m
  induction m with
  | zero=>intro x a D;rfl
  | succ m ih=>
   intro x a D
   unfold EJ
   split
   ·exact ih _ _ _
   ·split
    ·exact VE _ _ _ _
    ·exact (ih _ _ _).trans (VE _ _ _ _)
 have ea:∀(g t:Int) (nums:List Int) (m:Nat) (D:Cm),(E3 g t nums m D).1.cfg=D.cfg:=by
  intro g t nums m D
  unfold E3
  split
  ·exact ep _ _ _ _ _ _
  ·exact (VE _ _ _ _).trans (ep _ _ _ _ _ _)
 unfold EF
 (repeat' split) <;> first | rfl | exact VE _ _ _ _ | skip
 unfold I1
 split
 ·exact ea _ _ _ _ _
 ·split
  ·exact W0 _ _
  ·exact (ea _ _ _ _ _).trans (W0 _ _)
theorem AkZ{Q:Int->HP}(hs:Sat h0 A h)(ci:At A i (AF p C))(cl:At A j (CE r p))(st:At A m (C8 s p r))(hij:j≠i)(him:m≠i)(slot v:Int)
  (k:∀h',Sat h0 (put A i (AF p (G6 C slot v).1)) h'->Q (G6 C slot v).2 h'):PD ⟨s,0,none⟩ slot v Q h:=by
 unfold PD fX
 try simp only[AI,Nat.zero_add,List.append_nil]
 have ok:=CW hs ci
 have hst:=ok.may.step
 intro n10 _ hn;replace hs:=Sat.new hs hn
 refine⟨_,hs.ld .z rfl,_,rfl,?_⟩
 refine kK hs ci.s cl.s st.s slot ?_
 intro h1 hs
 intro n18 _ hn;replace hs:=Sat.new hs hn
 refine⟨Sat.can hs .z (by decide),?_⟩
 intro h2 e
 replace hs:=Sat.wra hs .z e rfl
 clear e
 simp only[put]at hs
 unfold G6 at k
 by_cases ge:(DN C slot).2=0
 case neg=>
  rw[if_pos ge]at k
  rw[if_pos (by simpa using ge)]
  exact k _ (by rw[ci.put_self];exact hs.drop.drop)
 rw[if_neg (fun y=>y ge)]at k
 rw[if_neg (by simpa using ge)]
 intro J hJ
 refine Al0 hs ci.s.s st.s.s (x:=0) .z zs1 ?_
 intro h3 hs
 by_cases g1:v<0
 ·rw[if_pos g1]at k
  rw[if_pos g1,if_pos (by simp)]
  exact k _ (by rw[ci.put_self];exact hs.drop.drop)
 rw[if_neg g1]at k
 rw[if_neg g1]
 by_cases g2:v≤(DN C slot).1
 ·rw[if_pos g2]at k
  rw[if_neg (show ¬(DN C slot).1<v by omega),if_neg (by simp)]
  refine⟨_,hs.ld .z rfl,?_⟩
  rw[BQ,if_pos (by simpa using g2)]
  exact k _ (by rw[ci.put_self];exact hs.drop.drop)
 rw[if_neg g2]at k
 rw[if_pos (show (DN C slot).1<v by omega)]
 by_cases g3:FI C.cfg<v
 ·rw[if_pos g3]at k
  rw[if_pos g3,if_pos (by simp)]
  exact k _ (by rw[ci.put_self];exact hs.drop.drop)
 rw[if_neg g3]at k
 rw[if_neg g3,if_neg (by simp)]
 refine⟨_,hs.ld .z rfl,?_⟩
 rw[BQ,if_neg (by simpa using g2)]
 apply hJ
 clear hJ J
 refine⟨_,hs.ld zs1 rfl,_,rfl,_,hs.ld st.s.s rfl,_,rfl,?_⟩
 refine l6 hs ci.s.s cl.s.s (by omega) slot v ?_
 intro h4 hs
 simp only[AV]at hs
 have ecf:=AhX ok slot v
 generalize EF C slot v=X at *
 by_cases gx:X.2=0
 case neg=>
  rw[if_pos gx]at k
  rw[if_pos (by simpa using gx)]
  exact k _ hs.drop.drop
 rw[if_neg (fun y=>y gx)]at k
 rw[if_neg (by simpa using gx)]
 refine⟨_,hs.ld zs1 rfl,_,rfl,_,hs.ld (st.put_ne him (AF p X.1)).s.s rfl,_,hs.ld zs1 rfl,_,rfl,_,hs.ld (st.put_ne him (AF p X.1)).s.s rfl,_,rfl,?_⟩
 refine CO hs (ci.put (AF p X.1)).s.s ?_
 intro h5 hs
 rw[ecf]
 refine⟨AH (hs.ld (st.put_ne him (AF p X.1)).s.s rfl),AH (hs.ld zs1 rfl),by omega,_,rfl,?_⟩
 have hl:=jG ok.may
 have hd0:0≤v.tdiv C.cfg.step:=Int.tdiv_nonneg (by omega) (by omega)
 have hd1:v.tdiv C.cfg.step≤v:=by
  rw[Int.tdiv_eq_ediv_of_nonneg (by omega)]
  exact Int.ediv_le_self _ (by omega)
 rw[AQ (by omega)]
 refine AcU hs (ci.put (AF p X.1)).s.s slot (v.tdiv C.cfg.step) ?_
 intro h6 hs
 simp only[AV,DU]at hs
 exact k _ hs.drop.drop
theorem Al1{Q:Int->HP}(hs:Sat h0 A h)(ci:At A i (AF p C))(st:At A m (C8 s p r))(key:Int)
  (k:∀h',Sat h0 (put A i (AF p (FA C key).1)) h'->Q (FA C key).2 h'):PF ⟨s,0,none⟩ key Q h:=by
 unfold PF gB
 refine⟨_,hs.ld st rfl,_,rfl,?_⟩
 refine CO hs ci ?_
 intro h1 hs
 refine kI hs ci st _ _ ?_
 by_cases ha:AT C key C.cfg.keys=0
 case neg=>
  rw[if_pos (by simpa using ha)]
  have e:FA C key=(C,AT C key C.cfg.keys):=by
   have e1:(CJ C key).2=AT C key C.cfg.keys:=by unfold CJ;rw[if_pos ha]
   unfold FA
   rw[e1,if_pos ha]
  rw[e]at k
  exact k _ (by rw[ci.put_self];exact hs)
 rw[if_neg (by simpa using ha)]
 refine⟨_,hs.ld st rfl,_,rfl,?_⟩
 exact AcZ hs ci key k
theorem Al2{Q:Bool->Int->HP}(hs:Sat h0 A h)(ci:At A i (AF p C))(st:At A m (C8 s p r))(key:Int)
  (k:∀h',Sat h0 A h'->Q (CJ C key).1 (CJ C key).2 h'):PG ⟨s,0,none⟩ key Q h:=by
 unfold PG gD
 refine⟨_,hs.ld st rfl,_,rfl,?_⟩
 refine CO hs ci ?_
 intro h1 hs
 refine kI hs ci st _ _ ?_
 by_cases ha:AT C key C.cfg.keys=0
 case neg=>
  rw[if_pos (by simpa using ha)]
  have e1:CJ C key=(false,AT C key C.cfg.keys):=by unfold CJ;rw[if_pos ha]
  rw[e1]at k
  exact k _ hs
 rw[if_neg (by simpa using ha)]
 refine⟨_,hs.ld st rfl,_,rfl,?_⟩
 exact n0 hs ci key k
end
def C4(C:Cm):Int×Int:=HV C C.cfg.slots
def QD(C:Cm)(n:Int):Cm×Int:=
 if (C4 C).2≠0 then (C,(C4 C).2) else if n≤(C4 C).1 then (C,2) else if BA<n then (C,2) else EF C C.cfg.slots n
section
variable {h0 h:H} {A:List Ent} {i j p r b s m:Nat} {C:Cm}
theorem YM{Q:Int->Int->HP}(hs:Sat h0 A h)(ci:At A i (AF p C))(cl:At A j (CE r p))(st:At A m (C8 s p r))(k:∀h',Sat h0 A h'->Q (C4 C).1 (C4 C).2 h'):F7 ⟨s,0,none⟩ Q h:=by
 unfold F7 fW
 try simp only[AI,Nat.zero_add]
 refine⟨_,hs.ld st rfl,_,rfl,?_⟩
 refine PH hs ci ?_
 by_cases ho:C.out=true
 ·rw[if_pos ho]
  have e:C4 C=(0,8):=by unfold C4 HV;rw[if_pos ho]
  rw[e]at k
  exact k _ hs
 rw[if_neg ho]
 refine⟨_,hs.ld st rfl,_,hs.ld st rfl,_,rfl,?_⟩
 refine CO hs ci ?_
 intro h1 hs
 refine⟨AH (hs.ld st rfl),_,rfl,?_⟩
 refine l9 hs ci cl C.cfg.slots ?_
 intro h2 hs
 exact k _ hs
theorem AkY{Q:Int->HP}(hs:Sat h0 A h)(ci:At A i (AF p C))(cl:At A j (CE r p))(st:At A m (C8 s p r))(hij:j≠i)(n:Int)(k:∀h',Sat h0 (put A i (AF p (QD C n).1)) h'->Q (QD C n).2 h'):TW ⟨s,0,none⟩ n Q h:=by
 unfold TW fV
 try simp only[AI,Nat.zero_add]
 refine YM hs ci cl st ?_
 intro h1 hs
 unfold QD at k
 by_cases ge:(C4 C).2=0
 case neg=>
  rw[if_pos ge]at k
  rw[if_pos (by simpa using ge)]
  exact k _ (by rw[ci.put_self];exact hs)
 rw[if_neg (fun y=>y ge)]at k
 rw[if_neg (by simpa using ge)]
 by_cases g1:n≤(C4 C).1
 ·rw[if_pos g1]at k
  rw[BQ,if_pos (by simpa using g1)]
  exact k _ (by rw[ci.put_self];exact hs)
 rw[if_neg g1]at k
 rw[BQ,if_neg (by simpa using g1)]
 intro i10 hi
 subst hi
 by_cases g2:BA<n
 ·rw[if_pos g2]at k
  rw[AD,if_pos (by rw[decide_eq_true_iff];exact g2)]
  exact k _ (by rw[ci.put_self];exact hs)
 rw[if_neg g2]at k
 rw[AD,if_neg (by rw[decide_eq_true_iff];exact g2)]
 refine⟨_,hs.ld st rfl,_,hs.ld st rfl,_,rfl,?_⟩
 refine CO hs ci ?_
 intro h2 hs
 refine⟨AH (hs.ld st rfl),_,rfl,?_⟩
 exact l6 hs ci cl hij C.cfg.slots n k
end
section
variable {h0 h:H} {A:List Ent} {i j p r:Nat} {C C':Cm}
theorem kB(hs:Sat h0 A h)(cj:At A j (CT r C)):hc h ⟨r,10,none⟩=some (.int .i64 C.acts)/\hc h ⟨r,11,none⟩=some (.bool C.out):=by
 obtain⟨⟨w,ms⟩,_,hs⟩:=(hs.front cj).open_
 dsimp only[MX,List.cons_append,List.nil_append]at hs
 exact⟨hs.ld .z rfl,hs.ld .z rfl⟩
end
end Go.Proofs.YteedolonhdbieaaGreatDoor
end
section
namespace Go.Proofs.YteedolonhdbieaaGreatDoor
open Go Go.Vc
set_option maxRecDepth 100000
attribute [local irreducible] BC
structure WiM where
 kind:Int
 slot:Int
 ver:Int
section
variable {h0 h:H} {A:List Ent} {i j p r b s m:Nat} {C:Cm}
theorem kH(ok:C.ok):(C4 C).2=if C.out=true then 8 else 0:=by
 have hm:=ok.may.slots
 unfold C4 HV
 by_cases ho:C.out=true
 ·rw[if_pos ho,if_pos ho]
 ·rw[if_neg ho,if_neg ho,if_neg (fun y=>y ⟨by omega,Int.le_refl _⟩)]
theorem AkE(ho:¬C.out=true){key:Int}(hk:0≤key):(CJ C key).2=if C.cfg.keys≤key then 2 else 0:=by
 have a:AT C key C.cfg.keys=if C.cfg.keys≤key then 2 else 0:=by unfold AT;rw[if_neg ho,if_neg (by omega)]
 unfold CJ
 rw[a]
 by_cases g:C.cfg.keys≤key
 ·rw[if_pos g,if_pos (by decide)]
 ·rw[if_neg g,if_neg (by decide)]
end
end Go.Proofs.YteedolonhdbieaaGreatDoor
end
section
namespace Go.Proofs.YteedolonhdbieaaGreatDoor
open Go Go.Vc
set_option maxRecDepth 100000
attribute [local irreducible] BC
theorem qY(L:List Sec):∀k e i,goM L k=some (e,i)->e≠0
 | 0,e,i,h=>by cases h
 | k+1,e,i,h=>by
  unfold goM at h
  by_cases c:EK (L.take (L.length-(k+1))) (L.getD (L.length-(k+1)) (0,[]))=0
  ·rw[if_pos c]at h
   exact qY L k e i h
  ·rw[if_neg c]at h
   injection h with h
   injection h with h1 h2
   rw[←h1];exact c
theorem AiT{L:List Sec}{e i:Int}(h:DT L=some (e,i)):e≠0:=by
 unfold DT at h
 by_cases c:64<L.length
 ·rw[if_pos c]at h
  injection h with h
  injection h with h1 h2
  omega
 ·rw[if_neg c]at h
  exact qY L _ _ _ h
section
variable {h0 h:H} {A:List Ent} {i j p r b s m:Nat} {C:Cm}
end
end Go.Proofs.YteedolonhdbieaaGreatDoor
end
section
namespace Go.Proofs.YteedolonhdbieaaGreatDoor
open Go Go.Vc
set_option maxRecDepth 100000
abbrev wld(w px pr:Nat)(x:Value):Ent:=blk w [.pointer (some ⟨px,0,none⟩),x,.pointer (some ⟨pr,0,none⟩)]
abbrev AmP(w px pr s l:Nat)(C:Cm)(B:List Ent):List Ent:=wld w px pr (.pointer (some ⟨s,0,none⟩))::C8 s px l::CE l px::AF px C::CT pr C::B
def Wst(h0:H)(w px pr:Nat)(C:Cm)(B:List Ent)(h:H):Prop:=
 Sat h0 (wld w px pr (.pointer none)::AF px C::CT pr C::B) h∨∃s l,Sat h0 (AmP w px pr s l C B) h
structure OpE where
 kind:Int
 n:Int
 v:Int
 mask:List Int
structure OpE.ok (s:OpE):Prop where
 n:s.n<2^63
 mb:AW s.mask
 ml:s.mask.length+4096≤2^47
section
variable {h0 h:H} {A B:List Ent} {i j p r b w px pr s m:Nat} {C:Cm}
theorem Wst.any(W:Wst h0 w px pr C B h):∃x,Sat h0 (wld w px pr x::AF px C::CT pr C::B) h:=by
 rcases W with hs | ⟨s,l,hs⟩
 ·exact⟨_,hs⟩
 ·exact⟨_,hs.sub (by(repeat (first | exact List.Sublist.refl _ | apply List.Sublist.cons_cons | apply List.Sublist.cons)))⟩
end
theorem Ag8{c:Cfg}(m:c.may):(DR c).lays c:=by
 refine⟨(UP m).fits,?_⟩
 intro n hn
 have:n∈AB c.np.toNat:=hn
 unfold AB at this
 rw[List.mem_replicate]at this
 omega
section
variable {h0 h:H} {A:List Ent}
end
structure ScriptO (h:H) (p:Option Addr) (l:Nat) (sc:List OpE):Prop where
 len:sc.length=l
 lt:l<2^50
 at_:∀i (hi:i<sc.length),∃q mp ml mc,p=some q/\hc h (q.add (i*4))=some (.int .i64 sc[i].kind)/\hc h ((q.add (i*4)).add 1)=some (.int .i64 sc[i].n)/\hc h ((q.add (i*4)).add 2)=some (.int .i64 sc[i].v)/\
  hc h ((q.add (i*4)).add 3)=some (.slice mp ml mc)/\hsv h mp 1 ml (AA .u8 sc[i].mask)/\sc[i].ok
theorem AdR{B area cells:Nat}{D:Cm}(hc:0<cells)(h:∀x,B≤x->x<B+area->GU (D.pg x) cells)(x:Nat)(hx:x<area*cells):ED B cells D x=ffs:=by
 have hdiv:x / cells<area:=(Nat.div_lt_iff_lt_mul hc).2 hx
 have hmod:x % cells<cells:=Nat.mod_lt _ hc
 exact h _ (Nat.le_add_right _ _) (by omega) _ hmod
def k8(bs:List Int)(x:Nat):Int:=if x<bs.length then bs.getD x 0 else 255
theorem AeG(bs:List Int)(x:Nat):(DC bs (x / 32)).getD (x % 32) 0=k8 bs x:=by
 unfold DC k8
 rw[TD _ (Nat.mod_lt _ (by decide))]
 have:x / 32*32+x % 32=x:=by omega
 rw[this]
theorem AfT(x:Nat)(h:x<32):ffs.getD x 0=255:=by unfold ffs;rw[TD _ h]
theorem AfC{n q:Nat}(hn:0<n):EN n n q↔q<n:=by unfold EN;omega
theorem pB(n:Nat):b64 (n:Int)=BitVec.ofNat 64 n:=by
 apply BitVec.eq_of_toNat_eq
 simp only[BitVec.toNat_ofInt,BitVec.toNat_ofNat];omega
theorem j0{x y:Int}(k:Nat)(hx:0≤x/\x<2^k)(hy:0≤y)(hxy:x+y*2^k<2^63):bits .or .i64 x (y*2^k)=x+y*2^k:=by
 obtain⟨a,rfl⟩:=Int.eq_ofNat_of_zero_le hx.1
 obtain⟨b,rfl⟩:=Int.eq_ofNat_of_zero_le hy
 have ha:a<2^k:=by have:=hx.2;exact_mod_cast this
 have e1:((b:Int)*2^k)=((b*2^k:Nat):Int):=by simp
 rw[e1]at hxy ⊢
 have:bits .or .i64 (a:Int) ((b*2^k:Nat):Int)=IntKind.i64.wrap ((b64 (a:Int) ||| b64 ((b*2^k:Nat):Int)).toNat:Int):=rfl
 rw[this,pB,pB]
 have e2:a ||| (b*2^k)=a+b*2^k:=by
  have:=Nat.shiftLeft_add_eq_or_of_lt ha b
  rw[Nat.shiftLeft_eq]at this
  rw[Nat.or_comm,←this];omega
 have e3:(BitVec.ofNat 64 a ||| BitVec.ofNat 64 (b*2^k)).toNat=a+b*2^k:=by
  rw[BitVec.toNat_or,BitVec.toNat_ofNat,BitVec.toNat_ofNat,Nat.mod_eq_of_lt (by omega),Nat.mod_eq_of_lt (by omega),e2]
 rw[e3,IntKind.wrap_i64];omega
def AP(bs:List Int)(o:Nat):Int:=bs.getD o 0+256*bs.getD (o+1) 0+65536*bs.getD (o+2) 0+16777216*bs.getD (o+3) 0
theorem or4{a b c d:Int}(ha:A4 a)(hb:A4 b)(hc:A4 c)(hd:A4 d):
  bits .or .i64 (bits .or .i64 (bits .or .i64 (IntKind.i64.wrap a) (IntKind.i64.wrap (IntKind.i64.wrap b*2^8))) (IntKind.i64.wrap (IntKind.i64.wrap c*2^16))) (IntKind.i64.wrap (IntKind.i64.wrap d*2^24))=a+256*b+65536*c+16777216*d:=by
 obtain⟨a1,a2⟩:=ha;obtain⟨b1,b2⟩:=hb;obtain⟨c1,c2⟩:=hc;obtain⟨d1,d2⟩:=hd
 have w:∀n:Int,0≤n/\n<2^40->IntKind.i64.wrap n=n:=fun n hn=>by rw[IntKind.wrap_i64];omega
 rw[w a (by omega),w b (by omega),w c (by omega),w d (by omega),w (b*2^8) (by omega),w (c*2^16) (by omega),w (d*2^24) (by omega)]
 rw[j0 8 (by omega) b1 (by omega),j0 16 (by omega) c1 (by omega),j0 24 (by omega) d1 (by omega)]
 omega
theorem U8{bs:List Int}(hb:AW bs)(o:Nat):0≤AP bs o/\AP bs o<2^32:=by
 have g:∀x,A4 (bs.getD x 0):=fun x=>by
  rw[List.getD_eq_getElem?_getD]
  cases e:bs[x]? with
  | none=>exact⟨by decide,by decide⟩
  | some v=>exact hb v (List.mem_iff_getElem?.2 ⟨x,e⟩)
 have g0:=g o;have g1:=g (o+1);have g2:=g (o+2);have g3:=g (o+3)
 unfold A4 at *
 unfold AP;omega
theorem EC{bs:List Int}(hb:AW bs)(x:Nat):A4 (bs.getD x 0):=by
 rw[List.getD_eq_getElem?_getD]
 cases e:bs[x]? with
 | none=>exact⟨by decide,by decide⟩
 | some v=>exact hb v (List.mem_iff_getElem?.2 ⟨x,e⟩)
theorem Y3{h:H}{q:Option Addr}{l o n m:Nat}{k:IntKind}{bs:List Int}(rd:hsv h q 1 l (AA k bs))(ho:o+n≤l)(hm:m=o->n=0):hsv h (AK q o m 1) 1 n (AA k ((bs.drop o).take n)):=by
 have hl:bs.length=l:=by have:=rd.1;simpa using this
 refine⟨by rw[BV,List.length_take,List.length_drop];omega,A9 _ _,?_⟩
 by_cases c:n=0
 ·subst c;exact Or.inl rfl
 unfold AK
 rw[if_neg (fun y=>c (hm y))]
 obtain⟨_,_,rd⟩:=rd
 rcases rd with rd | ⟨q',rfl,g⟩
 ·have:=congrArg List.length rd
  rw[BV,List.length_nil]at this;omega
 ·refine Or.inr ⟨_,rfl,?_⟩
  intro i v hv
  have hi:i<n:=by
   have h1:i<(AA k ((bs.drop o).take n)).length:=(List.getElem?_eq_some_iff.1 hv).1
   rw[BV,List.length_take]at h1
   exact Nat.lt_of_lt_of_le h1 (Nat.min_le_left _ _)
  have e:=g (o+i) v (by
   rw[BR]at hv ⊢
   rw[List.getElem?_take_of_lt hi,List.getElem?_drop]at hv
   exact hv)
  rw[Nat.mul_one,T4]
  exact e
theorem WX(bs:List Int)(o n x:Nat)(hx:x<n):((bs.drop o).take n).getD x 0=bs.getD (o+x) 0:=by
 rw[List.getD_eq_getElem?_getD,List.getD_eq_getElem?_getD,List.getElem?_take_of_lt hx,List.getElem?_drop]
theorem WW{bs:List Int}(hb:AW bs)(o n:Nat):AW ((bs.drop o).take n):=fun v hv=>hb v (List.mem_of_mem_drop (List.mem_of_mem_take hv))
theorem jT(bs:List Int)(o n:Nat)(hn:4≤n):AP ((bs.drop o).take n) 0=AP bs o:=by
 unfold AP
 rw[WX _ _ _ _ (by omega),WX _ _ _ _ (by omega),WX _ _ _ _ (by omega),WX _ _ _ _ (by omega)]
 rfl
def U6(x:Nat):Int:=(((ByteArray.mk #[80,67,85,76]).data.toList.getD x 0).toNat:Int)
def D6(x:Nat)(c:Int):Bool:=if x<4 then c == U6 x else if x=4 then c == 1 else if x=5 then decide (c<8) else if x=6 then decide (c<64) else if x=7 then c == 0 else true
def DE(bs:List Int):Nat->Nat->Option (Int×Int)
 | 0,_=>none
 | m+1,x=>if x=bs.length then some (6,x) else if D6 x (bs.getD x 0)=true then DE bs m (x+1) else some (5,x)
def BW(bs:List Int):Int×Int:=
 if 524288<bs.length then (4,524288) else match DE bs 16 0 with
 | some w=>w
 | none=>if 524240<AP bs 12 then (5,12) else if (bs.length:Int)<48+AP bs 12 then (6,bs.length) else if 48+AP bs 12<bs.length then (7,48+AP bs 12) else (0,0)
section
variable {h0 h:H} {A:List Ent} {i j p r b:Nat}
theorem jV{Q:Int->HP}{q:Option Addr}{l c:Nat}{bs:List Int}(rd:hsv h q 1 l (AA .u8 bs))(hb:AW bs)(hl:4≤l)(k:Q (AP bs 0) h):N2 q l c Q h:=by
 unfold N2 cE
 have g:∀x,x<l->∃q',q=some q'/\hc h (q'.add x)=some (.int .u8 (bs.getD x 0)):=fun x hx=>E7 rd hx
 obtain⟨q0,e0,g0⟩:=g 0 (by omega)
 obtain⟨q1,e1,g1⟩:=g 1 (by omega)
 obtain⟨q2,e2,g2⟩:=g 2 (by omega)
 obtain⟨q3,e3,g3⟩:=g 3 (by omega)
 rw[add_zero]at g0
 refine⟨_,e0,by omega,by omega,_,g0,_,e1,by omega,by omega,_,g1,by omega,_,e2,by omega,by omega,_,g2,by omega,_,e3,by omega,by omega,_,g3,by omega,?_⟩
 rw[or4 (EC hb _) (EC hb _) (EC hb _) (EC hb _)]
 exact k
theorem AiL{Q:Bool->HP}(x:Nat)(c:Int)(k:Q (D6 x c) h):N1 (x:Int) c Q h:=by
 unfold N1 cC
 unfold D6 at k
 by_cases g:x<4
 ·rw[if_pos g]at k
  rw[AD,if_pos (by simp;omega)]
  refine⟨by omega,by omega,?_⟩
  rw[Int.toNat_natCast];exact k
 rw[if_neg g]at k
 rw[AD,if_neg (by simp;omega)]
 by_cases g4:x=4
 ·rw[if_pos g4]at k;rw[if_pos (by simp;omega)];exact k
 rw[if_neg g4]at k;rw[if_neg (by simp;omega)]
 by_cases g5:x=5
 ·rw[if_pos g5]at k;rw[if_pos (by simp;omega),AD];exact k
 rw[if_neg g5]at k;rw[if_neg (by simp;omega)]
 by_cases g6:x=6
 ·rw[if_pos g6]at k;rw[if_pos (by simp;omega),AD];exact k
 rw[if_neg g6]at k;rw[if_neg (by simp;omega)]
 by_cases g7:x=7
 ·rw[if_pos g7]at k;rw[if_pos (by simp;omega)];exact k
 rw[if_neg g7]at k;rw[if_neg (by simp;omega)]
 exact k
end
abbrev AX(a b v:Int)(x:Sl)(t:List Int):List Value:=.int .i64 a::.int .i64 b::.int .i64 v::x.v::AA .u8 t
section
variable {h0 h:H} {A:List Ent} {i j p r b:Nat}
theorem DS{a b v:Int}{x:Sl}{t:List Int}(ht:t.length=32):(AX a b v x t).length=36:=by simp[ht]
theorem CM{a b' v:Int}{x:Sl}{t:List Int}(hs:Sat h0 A h)(m:At A i (blk b (AX a b' v x t)))(ht:t.length=32):hrow h ⟨b,4,none⟩ .u8 t:=by
 refine hs.cs m ?_
 show (AA .u8 t).take (AA .u8 t).length=_
 rw[List.take_length]
theorem sD{a b' v:Int}{x:Sl}{u:List Int}(hu:u.length=32):AO (AX a b' v x (AB 32)) 4 (AA .u8 u)=AX a b' v x u:=by
 have e:AX a b' v x (AB 32)=[.int .i64 a,.int .i64 b',.int .i64 v,x.v]++AA .u8 (AB 32):=rfl
 have e2:∀(vs xs:List Value) (o:Nat) (pre:List Value),AO (pre++vs) (pre.length+o) xs=pre++AO vs o xs:=by
  intro vs xs
  induction xs generalizing vs with
  | nil=>intro o pre;rfl
  | cons y ys ih=>
   intro o pre
   rw[GK,GK,Y0 pre vs [],Nat.add_assoc]
   exact ih (vs.set o y) (o+1) pre
 rw[e]
 have:=e2 (AA .u8 (AB 32)) (AA .u8 u) 0 [.int .i64 a,.int .i64 b',.int .i64 v,x.v]
 rw[kO _ _ (by simp[hu])]at this
 exact this
theorem mB{Q:Int->Int->Int->Option Addr->Nat->Nat->List Int->Value->HP}{q:Option Addr}{l c:Nat}{bs:List Int}(hs:Sat h0 A h)(rd:∀h',Sat h0 A h'->hsv h' q 1 l (AA .u8 bs))(hb:AW bs)(hlc:l≤c)(hl:l<2^50)
  (k1:∀e at_ w h',BW bs=(e,at_)->e≠0->Sat h0 (blk w [.int .i64 e,.int .i64 at_]::A) h'->Q 0 0 0 none 0 0 (AB 32) (.iface 162 (.pointer (some ⟨w,0,none⟩))) h')
  (k2:∀(own:Sl) (n:Nat) h',BW bs=(0,0)->AP bs 12=n->Sat h0 (sE own 1 (AA .u8 bs)::A) h'->Q (bs.getD 5 0) (bs.getD 6 0) (AP bs 8) (AK own.1 16 (16+n) 1) n n ((bs.drop (16+n)).take 32) .nilIface h'):
  JF q l c Q h:=by
 unfold JF cB
 try simp only[AI,Nat.zero_add,List.append_nil]
 have hbl:bs.length=l:=by have:=(rd _ hs).1;simpa using this
 intro n7 _ hn;replace hs:=Sat.new hs hn
 replace hs:Sat h0 (blk n7 (AX 0 0 0 (none,0,0) (AB 32))::A) _:=hs
 have bad:∀e at_ h',BW bs=(e,at_)->e≠0->Sat h0 (blk n7 (AX 0 0 0 (none,0,0) (AB 32))::A) h'->∀(n10:Nat) (h11:H),hnew h' n10 [.int .i64 e,.int .i64 at_] h11->AC h11 ⟨n7,0,none⟩ 36/\∀h13,h13=hwr h11 ⟨n7,0,none⟩ (AX 0 0 0 (none,0,0) (AB 32))->
   ∃i15:Int,hc h13 ⟨n7,0,none⟩=some (.int .i64 i15)/\∃i16:Int,hc h13 ⟨n7,1,none⟩=some (.int .i64 i16)/\∃i17:Int,hc h13 ⟨n7,2,none⟩=some (.int .i64 i17)/\∃(o18:Option Addr) (n19 n20:Nat),hc h13 ⟨n7,3,none⟩=some (.slice o18 n19 n20)/\
    ∃l21:List Int,l21.length=32/\hrow h13 ⟨n7,4,none⟩ .u8 l21/\Q i15 i16 i17 o18 n19 n20 l21 (.iface 162 (.pointer (some ⟨n10,0,none⟩))) h13:=by
  intro e at_ h' hw he hs n10 h11 hn
  replace hs:=Sat.new hs hn
  refine⟨Sat.can hs zs1 (by decide),?_⟩
  intro h13 e13
  replace hs:=Sat.wra hs zs1 e13 rfl
  simp only[put]at hs
  refine⟨_,Sat.ld hs zs1 rfl,_,Sat.ld hs zs1 rfl,_,Sat.ld hs zs1 rfl,_,_,_,Sat.ld hs zs1 rfl,_,rfl,CM hs zs1 rfl,?_⟩
  exact k1 e at_ n10 _ hw he (hs.sub (by(repeat (first | exact List.Sublist.refl _ | apply List.Sublist.cons_cons | apply List.Sublist.cons))))
 by_cases g1:524288<l
 ·rw[AD,if_pos (by simp;omega)]
  exact bad _ _ _ (by unfold BW;rw[if_pos (by omega)]) (by decide) hs
 rw[AD,if_neg (by simp;omega)]
 have hP:BW bs=match DE bs 16 0 with
  | some w=>w
  | none=>if 524240<AP bs 12 then (5,12) else if (bs.length:Int)<48+AP bs 12 then (6,bs.length) else if 48+AP bs 12<bs.length then (7,48+AP bs 12) else (0,0):=by
  unfold BW;rw[if_neg (by omega)];try rfl
 clear k1
 generalize hW:DE bs 16 0=W at hP
 intro J hJ
 refine BS 16 (fun x h=>Sat h0 (blk n7 (AX 0 0 0 (none,0,0) (AB 32))::A) h/\W=DE bs (16-x) x/\x≤l) ?_ ?_ 0 _ (by omega) ⟨hs,hW.symm,by omega⟩
 ·rintro x h1 hx ⟨hs,hh,hxl⟩ hk
  apply hJ
  rw[AD,if_pos (by simp;omega)]
  obtain⟨m,hm⟩:∃m,16-x=m+1:=⟨16-x-1,by omega⟩
  rw[hm]at hh
  unfold DE at hh
  by_cases g2:x=l
  ·rw[if_pos (show x=bs.length by omega)]at hh
   rw[if_pos (by simp;omega)]
   exact bad 6 x _ (by rw[hP,hh]) (by decide) hs
  rw[if_neg (show ¬x=bs.length by omega)]at hh
  rw[if_neg (by simp;omega)]
  obtain⟨q',hq,g⟩:=E7 (rd _ hs.drop) (x:=x) (by omega)
  refine⟨_,hq,by omega,by omega,_,by rw[Int.toNat_natCast,Nat.mul_one];exact g,?_⟩
  refine AiL x _ ?_
  by_cases g3:D6 x (bs.getD x 0)=true
  ·rw[if_pos g3]at hh
   rw[if_neg (by rw[g3];decide),A0 (by omega)]
   exact hk _ ⟨hs,by rw[hh,show 16-(x+1)=m by omega],by omega⟩
  ·rw[if_neg g3]at hh
   rw[if_pos (by rw[Bool.not_eq_true]at g3;rw[g3];rfl)]
   exact bad 5 x _ (by rw[hP,hh]) (by decide) hs
 rintro h1 ⟨hs,hh,hxl⟩
 apply hJ
 rw[AD,if_neg (by simp)]
 clear hJ J
 have hh:W=none:=hh
 rw[hh]at hP
 dsimp only at hP
 refine⟨by omega,by omega,?_⟩
 have rd12:=Y3 (o:=12) (n:=l-12) (m:=c) (rd _ hs.drop) (by omega) (by omega)
 refine jV rd12 (WW hb _ _) (by omega) ?_
 rw[jT _ _ _ (by omega)]
 obtain⟨r1,r2⟩:=U8 hb 12
 obtain⟨n,hnn⟩:=Int.eq_ofNat_of_zero_le r1
 rw[hnn]at hP r2 ⊢
 have ew:IntKind.i64.wrap (16+(n:Int))=((16+n:Nat):Int):=by rw[AQ (by omega)];omega
 have ew2:IntKind.i64.wrap (((16+n:Nat):Int)+32)=((48+n:Nat):Int):=by rw[AQ (by omega)];omega
 rw[ew,ew2]
 by_cases g2:524240<n
 ·rw[if_pos (by omega)]at hP
  rw[AD,if_pos (by simp;omega)]
  exact bad 5 12 _ hP (by decide) hs
 rw[if_neg (by omega)]at hP
 rw[AD,if_neg (by simp;omega)]
 by_cases g3:l<48+n
 ·rw[if_pos (by omega),hbl]at hP
  rw[AD,if_pos (by simp;omega)]
  exact bad 6 l _ hP (by decide) hs
 rw[if_neg (by omega)]at hP
 rw[AD,if_neg (by simp;omega)]
 by_cases g4:48+n<l
 ·rw[if_pos (by omega)]at hP
  rw[AD,if_pos (by simp;omega)]
  exact bad 7 _ _ (by rw[hP];congr 1) (by decide) hs
 rw[if_neg (by omega)]at hP
 rw[AD,if_neg (by simp;omega)]
 have hw:=hP
 clear bad hP
 have hl48:l=48+n:=by omega
 refine⟨_,rd _ hs.drop,?_⟩
 refine Sat.app_new hs (by simp[hbl]) rfl (A9 _ _) (by omega) ?_
 intro o c2 h2 hs
 obtain⟨own,hown⟩:∃own:Sl,own=(o,l,c2):=⟨_,rfl⟩
 have hcap:=kL hs .z
 replace hs:Sat h0 (sE own 1 (AA .u8 bs)::blk n7 (AX 0 0 0 (none,0,0) (AB 32))::A) h2:=by rw[hown];exact hs
 have eo1:o=own.1:=by rw[hown]
 have eo2:own.2.1=l:=by rw[hown]
 rw[eo1]
 have B:∀x,x<l->∀{A':List Ent} {h':H},Sat h0 A h'->∃q',q=some q'/\hc h' (q'.add x)=some (.int .u8 (bs.getD x 0)):=fun x hx A' h' hs'=>E7 (rd _ hs') hx
 obtain⟨q',hq,g5⟩:=E7 (rd _ hs.drop.drop) (x:=5) (by omega)
 obtain⟨q2,hq2,g6⟩:=E7 (rd _ hs.drop.drop) (x:=6) (by omega)
 rw[hq]at hq2
 injection hq2 with hq2
 subst hq2
 have c5:∀h',Sat h0 A h'->hcs h' (q'.add 5) [.int .u8 (bs.getD 5 0)]:=fun h' hs'=>by
  obtain⟨q2,hq2,g⟩:=E7 (rd _ hs') (x:=5) (by omega)
  rw[hq]at hq2;injection hq2 with hq2;subst hq2;exact AH g
 have c6:∀h',Sat h0 A h'->hcs h' (q'.add 6) [.int .u8 (bs.getD 6 0)]:=fun h' hs'=>by
  obtain⟨q2,hq2,g⟩:=E7 (rd _ hs') (x:=6) (by omega)
  rw[hq]at hq2;injection hq2 with hq2;subst hq2;exact AH g
 have b5:=EC hb 5
 have b6:=EC hb 6
 unfold A4 at b5 b6
 have w5:IntKind.i64.wrap (bs.getD 5 0)=bs.getD 5 0:=by rw[IntKind.wrap_i64];omega
 have w6:IntKind.i64.wrap (bs.getD 6 0)=bs.getD 6 0:=by rw[IntKind.wrap_i64];omega
 have ht32:((bs.drop (16+n)).take 32).length=32:=by rw[List.length_take,List.length_drop];omega
 refine⟨_,hq,by omega,by omega,_,g5,_,hq,by omega,by omega,_,g6,by omega,by omega,by omega,by omega,by omega,by omega,?_⟩
 rw[Int.toNat_natCast,Nat.add_sub_cancel_left]
 have rd8:∀h',Sat h0 A h'->hsv h' (AK q 8 c 1) 1 (l-8) (AA .u8 ((bs.drop 8).take (l-8))):=fun h' hs'=>Y3 (o:=8) (n:=l-8) (m:=c) (rd _ hs') (by omega) (by omega)
 rw[w5,w6,show Nat.min (l-(16+n)) 32=32 by show min _ _=_;omega]
 constructor
 ·refine jV (rd8 _ hs.drop.drop) (WW hb _ _) (by omega) ?_
  rw[jT _ _ _ (by omega)]
  refine⟨c6 _ hs.drop.drop,c5 _ hs.drop.drop,?_⟩
  intro nb _ hn;replace hs:=Sat.new hs hn
  refine⟨c6 _ hs.drop.drop.drop,c5 _ hs.drop.drop.drop,?_⟩
  (refine⟨Sat.can hs .z (by decide),?_⟩;intro h20 e20;replace hs:=Sat.wra hs .z e20 (by rfl);clear e20;simp only[put]at hs;replace hs:Sat h0 (blk nb (AX (bs.getD 5 0) (bs.getD 6 0) (AP bs 8) (AK own.1 16 (16+n) 1,n,n) (AB 32))::sE own 1 (AA .u8 bs)::blk n7 (AX 0 0 0 (none,0,0) (AB 32))::A) h20:=hs;refine⟨by omega,by omega,_,Y3 (n:=32) (hs.sv zs1) (by omega) (by omega),Or.inr ⟨_,rfl,Sat.can hs .z (by rw[DS rfl];decide)⟩,?_⟩;intro h21 e21;replace hs:=Sat.wr hs .z (o:=4) e21;clear e21;rw[sD (by rw[List.length_take,List.length_drop];omega)]at hs;simp only[put]at hs;refine⟨_,Sat.ld hs .z rfl,_,Sat.ld hs .z rfl,_,Sat.ld hs .z rfl,_,_,_,Sat.ld hs .z rfl,_,ht32,CM hs .z ht32,Sat.can hs zs2 (by decide),?_⟩;intro h22 e22;replace hs:=Sat.wra hs zs2 e22 (by rw[DS ht32];rfl);clear e22;simp only[put]at hs;replace hs:Sat h0 (blk nb (AX (bs.getD 5 0) (bs.getD 6 0) (AP bs 8) (AK own.1 16 (16+n) 1,n,n) ((bs.drop (16+n)).take 32))::sE own 1 (AA .u8 bs)::blk n7 (AX (bs.getD 5 0) (bs.getD 6 0) (AP bs 8) (AK own.1 16 (16+n) 1,n,n) ((bs.drop (16+n)).take 32))::A) h22:=hs;refine⟨_,Sat.ld hs zs2 rfl,_,Sat.ld hs zs2 rfl,_,Sat.ld hs zs2 rfl,_,_,_,Sat.ld hs zs2 rfl,_,ht32,CM hs zs2 ht32,?_⟩;exact k2 own n _ hw hnn (hs.sub (by(repeat (first | exact List.Sublist.refl _ | apply List.Sublist.cons_cons | apply List.Sublist.cons)))))
 ·intro nb _ hn;replace hs:=Sat.new hs hn
  refine⟨c6 _ hs.drop.drop.drop,c5 _ hs.drop.drop.drop,?_⟩
  refine jV (rd8 _ hs.drop.drop.drop) (WW hb _ _) (by omega) ?_
  rw[jT _ _ _ (by omega)]
  refine⟨c6 _ hs.drop.drop.drop,c5 _ hs.drop.drop.drop,?_⟩
  (refine⟨Sat.can hs .z (by decide),?_⟩;intro h20 e20;replace hs:=Sat.wra hs .z e20 (by rfl);clear e20;simp only[put]at hs;replace hs:Sat h0 (blk nb (AX (bs.getD 5 0) (bs.getD 6 0) (AP bs 8) (AK own.1 16 (16+n) 1,n,n) (AB 32))::sE own 1 (AA .u8 bs)::blk n7 (AX 0 0 0 (none,0,0) (AB 32))::A) h20:=hs;refine⟨by omega,by omega,_,Y3 (n:=32) (hs.sv zs1) (by omega) (by omega),Or.inr ⟨_,rfl,Sat.can hs .z (by rw[DS rfl];decide)⟩,?_⟩;intro h21 e21;replace hs:=Sat.wr hs .z (o:=4) e21;clear e21;rw[sD (by rw[List.length_take,List.length_drop];omega)]at hs;simp only[put]at hs;refine⟨_,Sat.ld hs .z rfl,_,Sat.ld hs .z rfl,_,Sat.ld hs .z rfl,_,_,_,Sat.ld hs .z rfl,_,ht32,CM hs .z ht32,Sat.can hs zs2 (by decide),?_⟩;intro h22 e22;replace hs:=Sat.wra hs zs2 e22 (by rw[DS ht32];rfl);clear e22;simp only[put]at hs;replace hs:Sat h0 (blk nb (AX (bs.getD 5 0) (bs.getD 6 0) (AP bs 8) (AK own.1 16 (16+n) 1,n,n) ((bs.drop (16+n)).take 32))::sE own 1 (AA .u8 bs)::blk n7 (AX (bs.getD 5 0) (bs.getD 6 0) (AP bs 8) (AK own.1 16 (16+n) 1,n,n) ((bs.drop (16+n)).take 32))::A) h22:=hs;refine⟨_,Sat.ld hs zs2 rfl,_,Sat.ld hs zs2 rfl,_,Sat.ld hs zs2 rfl,_,_,_,Sat.ld hs zs2 rfl,_,ht32,CM hs zs2 ht32,?_⟩;exact k2 own n _ hw hnn (hs.sub (by(repeat (first | exact List.Sublist.refl _ | apply List.Sublist.cons_cons | apply List.Sublist.cons)))))
end
def BG(C:Cm)(ar:Int):List Int:=CZ C ar (C.cfg.area.toNat*C.cfg.cells.toNat)
def AJ(C:Cm)(ar:Int):List Int×Int:=
 if AT C ar 2≠0 then ([],AT C ar 2)
 else if CN C.cfg<48 then ([],5)
 else if CN C.cfg<48+AP (BG C ar) 12 then ([],5)
 else if (BW ((BG C ar).take (48+AP (BG C ar) 12).toNat)).1≠0 then ([],5)
 else ((BG C ar).take (48+AP (BG C ar) 12).toNat,0)
theorem AdC(C:Cm)(ar:Int)(m:Nat):∀d,∃r,CZ C ar (m+d)=CZ C ar m++r:=by
 intro d
 induction d with
 | zero=>exact⟨[],by simp⟩
 | succ d ih=>
  obtain⟨r,hr⟩:=ih
  have e:CZ C ar (m+(d+1))=CZ C ar (m+d)++(CI C (2+ar*C.cfg.area+(((m+d) / C.cfg.cells.toNat:Nat):Int)) (((m+d) % C.cfg.cells.toNat:Nat):Int)).1:=rfl
  exact⟨_,by rw[e,hr,List.append_assoc]⟩
theorem T6{C:Cm}(ok:C.ok)(ar:Int)(m:Nat):(CZ C ar m).length=32*m:=by
 induction m with
 | zero=>rfl
 | succ m ih=>unfold CZ;rw[List.length_append,ih,YD ok];omega
theorem o4{C:Cm}(ok:C.ok)(ar:Int){m M n:Nat}(hm:m≤M)(hn:n≤32*m):(CZ C ar m).take n=(CZ C ar M).take n:=by
 obtain⟨r,hr⟩:=AdC C ar m (M-m)
 rw[show m+(M-m)=M by omega]at hr
 rw[hr,List.take_append_of_le_length (by rw[T6 ok];exact hn)]
theorem Ak1{C:Cm}(ok:C.ok)(page cell:Int):AW (CI C page cell).1:=by
 unfold CI
 split
 ·intro v hv
  dsimp only at hv
  unfold AB at hv
  have:=List.eq_of_mem_replicate hv
  subst this;exact⟨by decide,by decide⟩
 ·intro v hv
  dsimp only at hv
  have hv2:=PS hv
  by_cases c:page.toNat<C.s.pages.length
  ·have e:C.s.pages.getD page.toNat []=C.s.pages[page.toNat]:=by simp[List.getD,List.getElem?_eq_getElem c]
   unfold EZ at hv2
   rw[e]at hv2
   exact ok.typed.bytes _ (List.getElem_mem c) v hv2
  ·have e:C.s.pages.getD page.toNat []=[]:=by simp[List.getD,List.getElem?_eq_none (show C.s.pages.length≤page.toNat by omega)]
   unfold EZ at hv2
   rw[e]at hv2;cases hv2
theorem WJ{C:Cm}(ok:C.ok)(ar:Int)(m:Nat):AW (CZ C ar m):=by
 induction m with
 | zero=>intro v hv;cases hv
 | succ m ih=>
  unfold CZ
  intro v hv
  rcases List.mem_append.1 hv with y | y
  ·exact ih v y
  ·exact Ak1 ok _ _ v y
theorem AlL{c:Cfg}(m:c.may):CN c=((32*(c.area.toNat*c.cells.toNat):Nat):Int):=by
 have h1:=m.area
 have h2:=m.cells
 have h3:=m.slots
 unfold CN
 rw[if_pos m]
 have e1:(c.area.toNat:Int)=c.area:=by omega
 have e2:(c.cells.toNat:Int)=c.cells:=by omega
 rw[←e1,←e2,Int.natCast_mul,Int.natCast_mul]
 simp only[Int.toNat_natCast]
 rw[Int.mul_comm];rfl
theorem AgX(bs:List Int):∀m x w,DE bs m x=some w->w.1≠0:=by
 intro m
 induction m with
 | zero=>intro x w y;cases y
 | succ m ih=>
  intro x w y
  unfold DE at y
  split at y
  ·injection y with y;rw[←y];simp
  ·split at y
   ·exact ih _ _ y
   ·injection y with y;rw[←y];simp
theorem AjI{B:List Int}{n:Nat}(hpl:BW B=(0,0))(hnn:AP B 12=n):B.length=48+n:=by
 unfold BW at hpl
 split at hpl
 ·injection hpl with e1;cases e1
 ·split at hpl
  ·rename_i w _ hh
   exact absurd (by rw[hpl]) (AgX _ _ _ _ hh)
  ·split at hpl
   ·injection hpl with e1;cases e1
   ·split at hpl
    ·injection hpl with e1;cases e1
    ·split at hpl
     ·injection hpl with e1;cases e1
     ·omega
section
variable {h0 h:H} {A:List Ent} {i j p r b:Nat} {C:Cm}
theorem Af4(hs:Sat h0 A h){q:Option Addr}{l c n c2:Nat}{vs:List Value}(m:At A i (slE q l c 1 vs))(hn:n≤l)(hc:n≤c2)(hc2:c2≤c):Sat h0 (put A i (slE q n c2 1 (vs.take n))) h:=by
 refine hs.as m fun f hp=>?_
 obtain⟨bs,⟨h1,h2,h3,h4⟩,e⟩:=slE_P.1 hp
 refine slE_P.2 ⟨bs,⟨by rw[List.length_take];omega,hc,fun v hv=>h3 v (List.mem_of_mem_take hv),?_⟩,e⟩
 rcases h4 with⟨e1,e2,e3⟩ | ⟨b,rest,e1,e2,k,e3⟩
 ·exact Or.inl ⟨by omega,by omega,e3⟩
 ·refine Or.inr ⟨b,vs.drop n++rest,e1,e2,?_,?_⟩
  ·rw[←List.append_assoc,List.take_append_drop];exact k
  ·rw[List.length_append,List.length_drop];omega
theorem Ad3{Q:Option Addr->Nat->Nat->Int->HP}(hs:Sat h0 A h)(ci:At A i (AF p C))(ar:Int)
  (k1:(AJ C ar).2≠0->∀h',Sat h0 A h'->Q none 0 0 (AJ C ar).2 h')
  (k2:(AJ C ar).2=0->∀(o:Option Addr) (n:Nat) h',0<n->(AJ C ar).1.length=n->Sat h0 (slE o n n 1 (AA .u8 (AJ C ar).1)::A) h'->Q o n n 0 h'):M8 ⟨p,0,none⟩ ar Q h:=by
 unfold M8 ZU
 try simp only[AI,Nat.zero_add,List.append_nil]
 have ok:=CW hs ci
 refine oJ hs ci ar ?_
 unfold AJ at k1 k2
 by_cases g0:AT C ar 2=0
 case neg=>
  rw[if_pos (by simpa using g0)]at k1
  rw[if_pos (by simpa using g0)]
  exact k1 g0 _ hs
 rw[if_neg (by simpa using g0)]at k1 k2
 rw[if_neg (by simpa using g0)]
 obtain⟨ho,a1,a2⟩:=EA g0
 refine CO hs ci ?_
 intro h1 hs
 refine gY C.cfg hs ?_
 intro h2 hs
 have hsz:=AlL ok.may
 have hsl:=vG C.cfg
 by_cases g1:CN C.cfg<48
 ·rw[if_pos g1]at k1
  rw[AD,if_pos (by simpa using g1)]
  exact k1 (by simp) _ hs
 rw[if_neg g1]at k1 k2
 rw[AD,if_neg (by simpa using g1)]
 obtain⟨M,hM⟩:∃M,M=C.cfg.area.toNat*C.cfg.cells.toNat:=⟨_,rfl⟩
 rw[←hM]at hsz
 have hall:BG C ar=CZ C ar M:=by unfold BG;rw[hM]
 have hlen:=T6 ok ar M
 have hbb:=WJ ok ar M
 refine oL hs ci ho ar a1 a2 48 (by rw[←hM];omega) (by decide) ?_
 intro o c m h3 hm hs hm2
 have hm:m=2:=hm
 subst hm
 rw[if_neg (by simp)]
 obtain⟨q',hq,sv⟩:=Am0 hs .z (n:=48) (by decide) (by decide)
 have et:(CZ C ar 2).take 48=(BG C ar).take 48:=by rw[hall];exact o4 ok ar (by omega) (by decide)
 have el:∀x,x<48->((CZ C ar 2).take 48).getD x 0=(BG C ar).getD x 0:=by
  intro x hx
  rw[et,List.getD_eq_getElem?_getD,List.getD_eq_getElem?_getD,List.getElem?_take,if_pos hx]
 have ld:∀x,x<48->hc h3 (q'.add x)=some (.int .u8 ((BG C ar).getD x 0)):=by
  intro x hx
  obtain⟨q2,hq2,g⟩:=E7 sv hx
  injection hq2 with hq2
  subst hq2
  rw[el x hx]at g
  exact g
 refine⟨_,hq,by omega,by omega,_,ld 12 (by decide),_,hq,by omega,by omega,_,ld 13 (by decide),by omega,_,hq,by omega,by omega,_,ld 14 (by decide),by omega,_,hq,by omega,by omega,_,ld 15 (by decide),by omega,?_⟩
 rw[←hall]at hbb hlen
 have eor:=or4 (EC hbb 12) (EC hbb 13) (EC hbb 14) (EC hbb 15)
 obtain⟨r1,r2⟩:=U8 hbb 12
 have en:(BG C ar).getD 12 0+256*(BG C ar).getD 13 0+65536*(BG C ar).getD 14 0+16777216*(BG C ar).getD 15 0=AP (BG C ar) 12:=rfl
 rw[en]at eor
 have m8:min (Int.toNat 8) IntKind.i64.bits=8:=by decide
 have m16:min (Int.toNat 16) IntKind.i64.bits=16:=by decide
 have m24:min (Int.toNat 24) IntKind.i64.bits=24:=by decide
 rw[m8,m16,m24,eor]
 obtain⟨N,hN⟩:∃N:Nat,48+AP (BG C ar) 12=N:=⟨(48+AP (BG C ar) 12).toNat,by omega⟩
 have hN2:(48+AP (BG C ar) 12).toNat=N:=by rw[hN];rfl
 rw[hN,AQ (by omega)]
 rw[hN2,hN]at k1 k2
 clear eor en
 by_cases g2:CN C.cfg<(N:Int)
 ·rw[if_pos g2]at k1
  rw[AD,if_pos (by simpa using g2)]
  exact k1 (by simp) _ (hs.drop)
 rw[if_neg g2]at k1 k2
 rw[AD,if_neg (by simpa using g2)]
 replace hs:=hs.drop
 refine oL hs ci ho ar a1 a2 N (by rw[←hM];omega) (by omega) ?_
 intro o c m h4 hm hs hm2
 rw[if_neg (by simp)]
 have hN0:0<N:=by omega
 have hmM:m≤M:=by omega
 have et2:(CZ C ar m).take N=(BG C ar).take N:=by rw[hall];exact o4 ok ar hmM hm2
 have hcap:=kL hs .z
 obtain⟨b0,hb0⟩:=hs.sl_some .z (by omega)
 have eo:AK o 0 N 1=o:=by
  unfold AK
  rw[if_neg (by omega),hb0];rfl
 rw[eo]
 replace hs:=Af4 hs .z (n:=N) (c2:=N) hm2 (Nat.le_refl _) (by omega)
 simp only[put]at hs
 have eints:(AA .u8 (CZ C ar m)).take N=AA .u8 ((BG C ar).take N):=by rw[←et2];simp[AA,List.map_take]
 rw[eints]at hs
 have hbt:AW ((BG C ar).take N):=fun v hv=>hbb v (List.mem_of_mem_take hv)
 have hlt:((BG C ar).take N).length=N:=by rw[List.length_take];omega
 generalize (BG C ar).take N=B at *
 refine mB (bs:=B) hs (fun h' hs'=>hs'.sv .z) hbt (Nat.le_refl _) (by omega) ?_ ?_
 ·intro e at_ w h5 hw he hs
  intro n48 _ hn;replace hs:=Sat.new hs hn
  refine⟨Sat.can hs .z (by decide),?_⟩
  intro h6 e6
  replace hs:=Sat.wra hs .z e6 (by rfl)
  clear e6
  refine⟨rfl,?_⟩
  rw[if_pos (by rfl)]
  rw[if_pos (by rw[hw];exact he)]at k1
  exact k1 (by simp) _ hs.drop.drop.drop
 ·intro own n h5 hw hnn hs
  intro n48 _ hn;replace hs:=Sat.new hs hn
  have ht32:((B.drop (16+n)).take 32).length=32:=by
   have hl48:=AjI hw hnn
   rw[List.length_take,List.length_drop];omega
  refine⟨Sat.can hs .z (by decide),?_⟩
  intro h6 e6
  replace hs:=Sat.wra hs .z e6 (by simp[ht32])
  clear e6
  refine⟨rfl,?_⟩
  rw[if_neg (by decide)]
  rw[if_neg (by rw[hw];simp)]at k2
  exact k2 rfl o N _ hN0 hlt (by simp only[put]at hs;exact hs.drop.drop)
end
end Go.Proofs.YteedolonhdbieaaGreatDoor
end
section
namespace Go.Proofs.YteedolonhdbieaaGreatDoor
open Go Go.Vc
set_option maxRecDepth 100000
attribute [local irreducible] BC
def AN(C:Cm)(L:List Sec)(bs:List Int):Int:=
 if C.out=true then 8 else if (BW bs).1≠0 then (BW bs).1
 else if C.cfg.slots≤bs.getD 5 0 then 5
 else match L.find? (fun x=>x.1 == bs.getD 6 0) with
  | none=>13
  | some s=>if C.cfg.keys≤bs.getD 6 0 then 13 else if (CJ C (bs.getD 6 0)).1=true then 14
   else if BC s.2 (bs.take (bs.length-32))≠(bs.drop (bs.length-32)).take 32 then 15
   else if AP bs 8<(DN C (bs.getD 5 0)).1 then 16 else if FI C.cfg<AP bs 8 then 16 else 0
theorem XB{bs:List Int}:∀(m x:Nat),DE bs m x=none->∀y,x≤y->y<x+m->D6 y (bs.getD y 0)=true
 | 0,x,_,y,h1,h2=>by omega
 | m+1,x,h,y,h1,h2=>by
  unfold DE at h
  by_cases c:x=bs.length
  ·rw[if_pos c]at h;cases h
  rw[if_neg c]at h
  by_cases g:D6 x (bs.getD x 0)=true
  ·rw[if_pos g]at h
   by_cases e:y=x
   ·rw[e];exact g
   ·exact XB m (x+1) h y (by omega) (by omega)
  ·rw[if_neg g]at h;cases h
theorem VC{bs:List Int}(hb:AW bs){n:Nat}(h:BW bs=(0,0))(hn:AP bs 12=n):bs.length=48+n/\(0≤bs.getD 5 0/\bs.getD 5 0<8)/\(0≤bs.getD 6 0/\bs.getD 6 0<64)/\n≤524240:=by
 unfold BW at h
 by_cases c1:524288<bs.length
 ·rw[if_pos c1]at h;injection h with h;cases h
 rw[if_neg c1]at h
 have hh:DE bs 16 0=none:=by
  cases e:DE bs 16 0 with
  | none=>rfl
  | some w=>
   rw[e]at h
   dsimp only at h
   exfalso
   have key:∀m x,DE bs m x=some w->w.1≠0:=by
    intro m
    induction m with
    | zero=>intro x y;cases y
    | succ m ih=>
     intro x y
     unfold DE at y
     by_cases c:x=bs.length
     ·rw[if_pos c]at y;injection y with y;rw[←y];exact (by decide:(6:Int)≠0)
     rw[if_neg c]at y
     by_cases g:D6 x (bs.getD x 0)=true
     ·rw[if_pos g]at y;exact ih _ y
     ·rw[if_neg g]at y;injection y with y;rw[←y];exact (by decide:(5:Int)≠0)
   have:=key 16 0 e
   rw[h]at this
   exact this rfl
 rw[hh]at h
 dsimp only at h
 have m5:=XB 16 0 hh 5 (by decide) (by decide)
 have m6:=XB 16 0 hh 6 (by decide) (by decide)
 have e5:bs.getD 5 0<8:=by
  have:D6 5 (bs.getD 5 0)=decide (bs.getD 5 0<8):=rfl
  rw[this]at m5;exact of_decide_eq_true m5
 have e6:bs.getD 6 0<64:=by
  have:D6 6 (bs.getD 6 0)=decide (bs.getD 6 0<64):=rfl
  rw[this]at m6;exact of_decide_eq_true m6
 have b5:=EC hb 5
 have b6:=EC hb 6
 unfold A4 at b5 b6
 rw[hn]at h
 by_cases c2:(524240:Int)<(n:Int)
 ·rw[if_pos c2]at h;injection h with h;cases h
 rw[if_neg c2]at h
 by_cases c3:(bs.length:Int)<48+(n:Int)
 ·rw[if_pos c3]at h;injection h with h;cases h
 rw[if_neg c3]at h
 by_cases c4:48+(n:Int)<bs.length
 ·rw[if_pos c4]at h;injection h with h;cases h
 exact⟨by omega,⟨b5.1,e5⟩,⟨b6.1,e6⟩,by omega⟩
theorem AlU{C:Cm}(ho:¬C.out=true){slot:Int}(hs:0≤slot):(DN C slot).2=if C.cfg.slots≤slot then 2 else 0:=by
 have a:AT C slot C.cfg.slots=if C.cfg.slots≤slot then 2 else 0:=by unfold AT;rw[if_neg ho,if_neg (by omega)]
 unfold DN
 rw[a]
 by_cases g:C.cfg.slots≤slot
 ·rw[if_pos g,if_pos (by decide)]
 ·rw[if_neg g,if_neg (by decide)]
theorem PR{f:FuncId}{run:Run}{c:Array Value}{ds:List DV}{Q:List DV->HP}{h:H}(hr:AE PP f run)(hd:∀x,x∈ds->x.ok)(hc:c.toList=ds.map DV.flat)(hrun:run ds Q h):HM PP (.func (.func f) (Array.mk []) c) [] Q h:=by
 refine⟨f,Array.mk [],c,rfl,?_⟩
 have:=hr ds Q h hd hrun
 rw[←hc]at this
 simpa using this
theorem PM(l:List Addr):∀x,x∈l.map DV.addr->x.ok:=by
 intro x hx
 obtain⟨a,_,rfl⟩:=List.mem_map.1 hx
 trivial
section
variable {h0 h:H} {A:List Ent} {i j p r b s m:Nat} {C:Cm}
theorem AhO{Q:Bool->Int->HP}{key:Int}{bb tag:List Int}{bp:Option Addr}{bl bc:Nat}{R:List SR}{x:SR}(hs:Sat h0 A h)(cr:At A i (blk r [.map (some m)]))(cm:At A j (EQ m (R.map SR.ent)))(gd:SR.good R)
  (rR:∀x,x∈R->∀h',Sat h0 A h'->hsv h' x.p 1 x.bytes.length (AA .u8 x.bytes)) (hx:SR.at_ R key=some x) (ht:tag.length=32) (htb:BX tag) (hbc:bl≤bc) (hbl:bl<2^40)
  (rb:∀h',Sat h0 A h'->hsv h' bp 1 bl (AA .u8 bb)) (k:∀h',Sat h0 A h'->Q (decide (BC x.bytes bb=tag)) 0 h'):N3 ⟨r,0,none⟩ key bp bl bc tag Q h:=by
 unfold N3 cG
 try simp only[AI,Nat.zero_add,List.append_nil]
 have hx2:x∈R:=List.mem_of_find?_eq_some hx
 have hg:=gd x hx2
 have ml:D7 (.int .i64 key) (.one (.slice none 0 0)) (R.map SR.ent)=some (.one (.slice x.p x.bytes.length x.c),true):=by rw[jQ,hx]
 intro tb _ hn;replace hs:=Sat.new hs hn
 refine AlJ hs cr.s cm.s ml hg.2.1 (by omega) hbc hbl (fun h' hs'=>rR x hx2 _ hs'.drop) (fun h' hs'=>rb _ hs'.drop) ?_
 intro h3 hs
 intro nb _ hn;replace hs:=Sat.new hs hn
 refine⟨Sat.can hs .z (by simp[AB]),?_⟩
 intro h4 e
 replace hs:=Sat.wra (xs:=AA .u8 (BC x.bytes bb)) hs .z e (by simp[AB,G3])
 clear e
 simp only[AG]at hs
 rw[if_neg (by decide)]
 refine AfL (sK _ _) htb (G3 _ _) ht (hs.row0 .z) (hs.row0 zs1) ?_
 exact k _ hs.drop.drop
theorem AhA{Q:Option Addr->Nat->Nat->HP}{bs:List Int}{q:Option Addr}{l c:Nat}(hs:Sat h0 A h)(rd:hsv h q 1 l (AA .u8 bs))(hl:32≤l)(hlc:l≤c)(hl2:l<2^40)
  (k:∀p' c' h',l-32≤c'->Sat h0 (slE p' (l-32) c' 1 (AA .u8 (bs.take (l-32)))::A) h'->Q p' (l-32) c' h'):N0 q l c Q h:=by
 unfold N0 cA
 have hbl:bs.length=l:=by have:=rd.1;simpa using this
 rw[AD,if_neg (by rw[decide_eq_true_iff];omega)]
 have e:IntKind.i64.wrap ((l:Int)-32)=((l-32:Nat):Int):=by rw[AQ (by omega)];omega
 rw[e]
 refine⟨by omega,by omega,?_⟩
 simp only[Int.toNat_natCast,Nat.sub_zero]
 have R:=M2 (o:=0) (n:=l-32) (m:=c) rd (by omega) (by omega)
 rw[List.drop_zero]at R
 refine⟨_,R,?_⟩
 replace hs:=hs.sl_nil 1 none
 refine Sat.app hs (i:=0) (vs:=AA .u8 (bs.take (l-32))) .z (by simp;omega) rfl (A9 _ _) (by dsimp only;omega) ?_
 intro p' c' h' hs
 simp only[AG,List.nil_append,Nat.zero_add]at hs ⊢
 exact k p' c' h' (UF hs .z) hs
theorem IY{Q:Int->Int->Int->Option Addr->Nat->Nat->List Int->Int->HP}{nb:Nat}{a1 a2 a3:Int}{x:Sl}{t:List Int}(e:Int)(ht:t.length=32)(hs:Sat h0 A h)(a:At A i (blk nb (AX a1 a2 a3 x t)))(k:∀h',Sat h0 (put A i (blk nb (AX 0 0 0 (none,0,0) (AB 32)))) h'->Q 0 0 0 none 0 0 (AB 32) e h'):
  AC h ⟨nb,0,none⟩ 36/\∀h1,h1=hwr h ⟨nb,0,none⟩ (.int .i64 0::.int .i64 0::.int .i64 0::.slice none 0 0::AA .u8 (AB 32))->∃i1:Int,hc h1 ⟨nb,0,none⟩=some (.int .i64 i1)/\∃i2:Int,hc h1 ⟨nb,1,none⟩=some (.int .i64 i2)/\∃i3:Int,hc h1 ⟨nb,2,none⟩=some (.int .i64 i3)/\
   ∃(o:Option Addr) (n m:Nat),hc h1 ⟨nb,3,none⟩=some (.slice o n m)/\∃l:List Int,l.length=32/\hrow h1 ⟨nb,4,none⟩ .u8 l/\Q i1 i2 i3 o n m l e h1:=by
 refine⟨Sat.can hs a (by simp[ht]),?_⟩
 intro h1 e1
 replace hs:=Sat.wra (xs:=AX 0 0 0 (none,0,0) (AB 32)) hs a e1 (by simp[ht,AB])
 exact⟨_,hs.ld (a.put _) rfl,_,hs.ld (a.put _) rfl,_,hs.ld (a.put _) rfl,_,_,_,hs.ld (a.put _) rfl,_,DL 32,CM hs (a.put _) (DL 32),k _ hs⟩
theorem qV{Q:Int->Int->Int->Option Addr->Nat->Nat->List Int->Int->HP}{mm rr jm jr:Nat}{bs:List Int}{q:Option Addr}{l c:Nat}{R:List SR}(hg:hc h0 ⟨0,0,none⟩=some GB)(hs:Sat h0 A h)(ci:At A i (AF p C))(cl':At A j (CE r p))(st:At A m (C8 s p r))
  (cr:At A jr (blk rr [.map (some mm)])) (cm:At A jm (EQ mm (R.map SR.ent))) (gd:SR.good R) (rR:∀x,x∈R->∀h',Sat h0 A h'->hsv h' x.p 1 x.bytes.length (AA .u8 x.bytes))
  (rd:∀h',Sat h0 A h'->hsv h' q 1 l (AA .u8 bs)) (hb:AW bs) (hlc:l≤c) (hl:l<2^50)
  (k1:∀e,e=AN C (R.map SR.kv) bs->e≠0->∀h',Sat h0 A h'->Q 0 0 0 none 0 0 (AB 32) e h')
  (k2:∀(own:Sl) (n:Nat),AN C (R.map SR.kv) bs=0->BW bs=(0,0)->AP bs 12=n->bs.length=48+n->∀h',Sat h0 (sE own 1 (AA .u8 bs)::A) h'->Q (bs.getD 5 0) (bs.getD 6 0) (AP bs 8) (AK own.1 16 (16+n) 1) n n ((bs.drop (16+n)).take 32) 0 h'):
  GO ⟨s,0,none⟩ ⟨rr,0,none⟩ q l c Q h:=by
 unfold GO bT
 try simp only[AI,Nat.zero_add,List.append_nil]
 have hbl:bs.length=l:=by have:=(rd _ hs).1;simpa using this
 have ok:=CW hs ci
 have w1:IntKind.i64.wrap (0+1)=1:=by decide
 have w2:IntKind.i64.wrap (1+1)=2:=by decide
 have w3:IntKind.i64.wrap (2+1)=3:=by decide
 have w4:IntKind.i64.wrap (3+1)=4:=by decide
 have w5:IntKind.i64.wrap (4+1)=5:=by decide
 have w6:IntKind.i64.wrap (5+1)=6:=by decide
 obtain⟨G,hG⟩:∃G,G=AN C (R.map SR.kv) bs:=⟨_,rfl⟩
 have hG0:=hG
 rw[←hG]at k1 k2
 unfold AN at hG
 intro n13 _ hn;replace hs:=Sat.new hs hn
 intro n16 _ hn;replace hs:=Sat.new hs hn
 intro n19 _ hn;replace hs:=Sat.new hs hn
 intro n22 _ hn;replace hs:=Sat.new hs hn
 intro n25 _ hn;replace hs:=Sat.new hs hn
 intro n28 _ hn;replace hs:=Sat.new hs hn
 obtain⟨FS,hFS⟩:∃FS:List Value,FS=[.func (.func rX) (Array.mk []) (Array.mk [.pointer (some ⟨n13,0,none⟩)]),.func (.func rY) (Array.mk []) (Array.mk [.pointer (some ⟨n19,0,none⟩),.pointer (some ⟨n25,0,none⟩)]),.func (.func rZ) (Array.mk []) (Array.mk [.pointer (some ⟨n13,0,none⟩),.pointer (some ⟨n25,0,none⟩)]),.func (.func sA) (Array.mk []) (Array.mk [.pointer (some ⟨n13,0,none⟩),.pointer (some ⟨n25,0,none⟩),.pointer (some ⟨n16,0,none⟩)]),.func (.func sB) (Array.mk []) (Array.mk [.pointer (some ⟨n16,0,none⟩),.pointer (some ⟨n25,0,none⟩),.pointer (some ⟨n19,0,none⟩)]),.func (.func sC) (Array.mk []) (Array.mk [.pointer (some ⟨n13,0,none⟩),.pointer (some ⟨n25,0,none⟩)])]:=⟨_,rfl⟩
 rw[←hFS]at hs
 replace hs:Sat h0 (blk n28 FS::blk n25 (AX 0 0 0 (none,0,0) (AB 32))::blk n22 (AX 0 0 0 (none,0,0) (AB 32))::blk n19 [.slice q l c]::blk n16 [.pointer (some ⟨rr,0,none⟩)]::blk n13 [.pointer (some ⟨s,0,none⟩)]::A) _:=hs
 intro J31 hJ31
 apply hJ31
 rw[AD,if_pos (by decide)]
 refine⟨_,rfl,by decide,by decide,_,hs.ld (o:=0) .z (by rw[hFS];rfl),rfl,?_⟩
 refine PR (ds:=[⟨n13,0,none⟩].map DV.addr) mW (PM _) rfl ?_
 show NU ⟨n13,0,none⟩ _ _
 unfold NU bU
 refine⟨_,hs.ld zs5 rfl,_,rfl,?_⟩
 refine YM hs ci.s.s.s.s.s.s cl'.s.s.s.s.s.s st.s.s.s.s.s.s ?_
 intro h1 hs
 refine⟨_,_,rfl,_,rfl,rfl,?_⟩
 rw[kH ok]
 by_cases ho:C.out=true
 ·rw[if_pos ho]at hG ⊢
  rw[if_pos (by decide)]
  refine IY 8 (DL 32) hs zs2 ?_
  intro h2 hs
  exact k1 8 hG.symm (by decide) _ hs.drop.drop.drop.drop.drop.drop
 rw[if_neg ho]at hG ⊢
 rw[if_neg (by decide),w1]
 -- the image
 apply hJ31
 rw[AD,if_pos (by decide)]
 refine⟨_,rfl,by decide,by decide,_,hs.ld (o:=1) .z (by rw[hFS];rfl),rfl,?_⟩
 refine PR (ds:=[⟨n19,0,none⟩,⟨n25,0,none⟩].map DV.addr) mX (PM _) rfl ?_
 show NV ⟨n19,0,none⟩ ⟨n25,0,none⟩ _ _
 unfold NV bV
 try simp only[AI,Nat.zero_add,List.append_nil]
 refine⟨_,_,_,hs.ld zs3 rfl,?_⟩
 refine mB hs (fun h' hs'=>rd _ hs'.drop.drop.drop.drop.drop.drop) hb hlc hl ?_ ?_
 ·intro e at_ w h2 hp he hs
  refine⟨Sat.can hs zs2 (by simp[AB]),?_⟩
  intro h3 e3
  replace hs:=Sat.wra (xs:=AX 0 0 0 (none,0,0) (AB 32)) hs zs2 e3 rfl
  clear e3
  simp only[AV,AG]at hs
  refine⟨rfl,?_⟩
  rw[if_neg (nIF _ _)]
  intro n20 _ hn;replace hs:=Sat.new hs hn
  refine⟨Sat.can hs .z (by simp),?_⟩
  intro h4 e4
  replace hs:=Sat.wra hs .z e4 rfl
  clear e4
  simp only[AG]at hs
  unfold NQ
  refine Or.inl (Or.inr ⟨⟨w,0,none⟩,n20,0,e,rfl,rfl,IR hs.ex hg (fun y=>y),⟨_,hs.ld .z rfl⟩,?_,hs.ld zs1 rfl,?_⟩)
  ·have:=(Sat.can hs (i:=0) (o:=0) (n:=1) .z (by simp)) 0 (by decide)
   rw[add_zero]at this
   exact this.2
  intro b1 _ hn;replace hs:=Sat.new hs hn
  intro b2 _ hn;replace hs:=Sat.new hs hn
  intro b3 _ hn;replace hs:=Sat.new hs hn
  intro b4 _ hn;replace hs:=Sat.new hs hn
  intro h5 e5
  replace hs:=Sat.wr hs zs4 e5
  clear e5
  simp only[AV,AG]at hs
  replace hs:=hs.drop.drop.drop.drop
  replace hs:Sat h0 (blk n20 [.int .i64 e]::_) h5:=hs
  refine⟨_,hs.ld .z rfl,?_⟩
  refine⟨_,_,rfl,_,rfl,rfl,?_⟩
  rw[if_pos (by simpa using he)]
  replace hs:=hs.drop.drop
  refine IY e (DL 32) hs zs2 ?_
  intro h6 hs
  refine k1 e ?_ he _ hs.drop.drop.drop.drop.drop.drop
  rw[hp,if_pos he]at hG
  exact hG.symm
 intro own n h2 hp hnn hs
 obtain⟨pl,p5,p6,pn⟩:=VC hb hp hnn
 have htl:((bs.drop (16+n)).take 32).length=32:=by rw[List.length_take,List.length_drop];omega
 have htb:BX ((bs.drop (16+n)).take 32):=WW hb _ _
 refine⟨Sat.can hs zs2 (by simp[AB]),?_⟩
 intro h3 e3
 replace hs:=Sat.wra (xs:=AX (bs.getD 5 0) (bs.getD 6 0) (AP bs 8) (AK own.1 16 (16+n) 1,n,n) ((bs.drop (16+n)).take 32)) hs zs2 e3 (by rw[DS htl];rfl)
 clear e3
 simp only[AV,AG]at hs
 refine⟨rfl,?_⟩
 rw[if_pos (by rfl)]
 refine⟨_,_,rfl,_,rfl,rfl,?_⟩
 rw[if_neg (by decide),w2]
 rw[hp,if_neg (by decide)]at hG
 -- the slot
 apply hJ31
 rw[AD,if_pos (by decide)]
 refine⟨_,rfl,by decide,by decide,_,hs.ld (o:=2) zs1 (by rw[hFS];rfl),rfl,?_⟩
 refine PR (ds:=[⟨n13,0,none⟩,⟨n25,0,none⟩].map DV.addr) mY (PM _) rfl ?_
 show NW ⟨n13,0,none⟩ ⟨n25,0,none⟩ _ _
 unfold NW bW
 refine⟨_,hs.ld zs6 rfl,_,hs.ld zs2 rfl,_,rfl,?_⟩
 refine kK hs ci.s.s.s.s.s.s.s cl'.s.s.s.s.s.s.s st.s.s.s.s.s.s.s _ ?_
 intro h4 hs
 have er:=AlU ho p5.1
 by_cases gs:C.cfg.slots≤bs.getD 5 0
 ·rw[if_pos gs]at er hG
  rw[er,if_pos (by decide)]
  refine⟨_,_,rfl,_,rfl,rfl,?_⟩
  rw[if_pos (by decide)]
  refine IY 5 (DL 32) hs zs3 ?_
  intro h6 hs
  exact k1 5 hG.symm (by decide) _ hs.drop.drop.drop.drop.drop.drop.drop
 rw[if_neg gs]at er hG
 rw[er,if_neg (by decide)]
 refine⟨_,_,rfl,_,rfl,rfl,?_⟩
 rw[if_neg (by decide),w3]
 -- the key
 apply hJ31
 rw[AD,if_pos (by decide)]
 refine⟨_,rfl,by decide,by decide,_,hs.ld (o:=3) zs1 (by rw[hFS];rfl),rfl,?_⟩
 refine PR (ds:=[⟨n13,0,none⟩,⟨n25,0,none⟩,⟨n16,0,none⟩].map DV.addr) mZ (PM _) rfl ?_
 show NX ⟨n13,0,none⟩ ⟨n25,0,none⟩ ⟨n16,0,none⟩ _ _
 unfold NX bX
 try simp only[AI,Nat.zero_add]
 refine⟨_,hs.ld zs6 rfl,_,hs.ld zs2 rfl,_,rfl,?_⟩
 refine Al2 hs ci.s.s.s.s.s.s.s st.s.s.s.s.s.s.s _ ?_
 intro h5 hs
 refine⟨_,hs.ld zs5 rfl,_,hs.ld zs2 rfl,_,rfl,?_⟩
 refine rC _ hs cr.s.s.s.s.s.s.s cm.s.s.s.s.s.s.s ?_
 have ekv:=iC R (bs.getD 6 0)
 cases ex:SR.at_ R (bs.getD 6 0) with
 | none=>
  rw[←ekv,ex]at hG
  rw[if_pos (by simp)]
  refine⟨_,_,rfl,_,rfl,rfl,?_⟩
  rw[if_pos (by decide)]
  refine IY 13 (DL 32) hs zs3 ?_
  intro h6 hs
  exact k1 13 hG.symm (by decide) _ hs.drop.drop.drop.drop.drop.drop.drop
 | some x=>
 rw[←ekv,ex]at hG
 dsimp only[Option.map_some]at hG
 rw[if_neg (by simp)]
 have rv:=AkE ho p6.1
 by_cases gk:C.cfg.keys≤bs.getD 6 0
 ·rw[if_pos gk]at rv hG
  rw[rv,if_pos (by decide)]
  refine⟨_,_,rfl,_,rfl,rfl,?_⟩
  rw[if_pos (by decide)]
  refine IY 13 (DL 32) hs zs3 ?_
  intro h6 hs
  exact k1 13 hG.symm (by decide) _ hs.drop.drop.drop.drop.drop.drop.drop
 rw[if_neg gk]at rv hG
 rw[rv,if_neg (by decide)]
 by_cases gr:(CJ C (bs.getD 6 0)).1=true
 ·rw[if_pos gr]at hG ⊢
  refine⟨_,_,rfl,_,rfl,rfl,?_⟩
  rw[if_pos (by decide)]
  refine IY 14 (DL 32) hs zs3 ?_
  intro h6 hs
  exact k1 14 hG.symm (by decide) _ hs.drop.drop.drop.drop.drop.drop.drop
 rw[if_neg gr]at hG ⊢
 refine⟨_,_,rfl,_,rfl,rfl,?_⟩
 rw[if_neg (by decide),w4]
 -- the tag
 apply hJ31
 rw[AD,if_pos (by decide)]
 refine⟨_,rfl,by decide,by decide,_,hs.ld (o:=4) zs1 (by rw[hFS];rfl),rfl,?_⟩
 refine PR (ds:=[⟨n16,0,none⟩,⟨n25,0,none⟩,⟨n19,0,none⟩].map DV.addr) m9 (PM _) rfl ?_
 show NY ⟨n16,0,none⟩ ⟨n25,0,none⟩ ⟨n19,0,none⟩ _ _
 unfold NY bY
 try simp only[AI,Nat.zero_add,List.append_nil]
 refine⟨_,hs.ld zs5 rfl,_,hs.ld zs2 rfl,_,_,_,hs.ld zs4 rfl,_,htl,CM hs zs2 htl,?_⟩
 refine AhA hs (rd _ hs.drop.drop.drop.drop.drop.drop.drop) (by omega) hlc (by omega) ?_
 intro p' c' h6 hc' hs
 refine⟨Sat.cs hs zs3 (by show (List.drop 4 (AX _ _ _ _ _)).take _=_;rw[List.take_of_length_le (by simp[htl])];rfl),Sat.cs hs zs3 rfl,Sat.cs hs zs6 rfl,_,rfl,?_⟩
 refine AhO (bb:=bs.take (l-32)) hs cr.s.s.s.s.s.s.s.s cm.s.s.s.s.s.s.s.s gd (fun y hy h' hs'=>rR y hy _ hs'.drop.drop.drop.drop.drop.drop.drop.drop) ex htl htb hc' (by omega) (fun h' hs'=>hs'.sv .z) ?_
 intro h7 hs
 replace hs:=hs.drop
 have et:(bs.drop (bs.length-32)).take 32=(bs.drop (16+n)).take 32:=by rw[show bs.length-32=16+n by omega]
 rw[hbl]at hG et
 rw[et]at hG
 by_cases gt:BC x.bytes (bs.take (l-32))=(bs.drop (16+n)).take 32
 case neg=>
  rw[if_pos gt]at hG
  rw[if_pos (by simp[gt])]
  refine⟨_,_,rfl,_,rfl,rfl,?_⟩
  rw[if_pos (by decide)]
  refine IY 15 (DL 32) hs zs3 ?_
  intro h6 hs
  exact k1 15 hG.symm (by decide) _ hs.drop.drop.drop.drop.drop.drop.drop
 rw[if_neg (by simpa using gt)]at hG
 rw[if_neg (by simp[gt]),if_neg (by decide)]
 refine⟨_,_,rfl,_,rfl,rfl,?_⟩
 rw[if_neg (by decide),w5]
 -- the version
 apply hJ31
 rw[AD,if_pos (by decide)]
 refine⟨_,rfl,by decide,by decide,_,hs.ld (o:=5) zs1 (by rw[hFS];rfl),rfl,?_⟩
 refine PR (ds:=[⟨n13,0,none⟩,⟨n25,0,none⟩].map DV.addr) nB (PM _) rfl ?_
 show NZ ⟨n13,0,none⟩ ⟨n25,0,none⟩ _ _
 unfold NZ bZ
 try simp only[AI,Nat.zero_add]
 refine⟨_,hs.ld zs6 rfl,_,hs.ld zs2 rfl,_,rfl,?_⟩
 refine kK hs ci.s.s.s.s.s.s.s cl'.s.s.s.s.s.s.s st.s.s.s.s.s.s.s _ ?_
 intro h8 hs
 rw[er,if_neg (by decide)]
 refine⟨_,hs.ld zs2 rfl,?_⟩
 rw[AD]
 by_cases gv:AP bs 8<(DN C (bs.getD 5 0)).1
 ·rw[if_pos gv]at hG
  rw[if_pos (by simpa using gv)]
  refine⟨_,_,rfl,_,rfl,rfl,?_⟩
  rw[if_pos (by decide)]
  refine IY 16 (DL 32) hs zs3 ?_
  intro h6 hs
  exact k1 16 hG.symm (by decide) _ hs.drop.drop.drop.drop.drop.drop.drop
 rw[if_neg gv]at hG
 rw[if_neg (by simpa using gv)]
 refine⟨_,hs.ld zs2 rfl,_,hs.ld zs6 rfl,_,rfl,?_⟩
 refine u7 hs ci.s.s.s.s.s.s.s st.s.s.s.s.s.s.s ?_
 intro h9 hs
 refine⟨Sat.cs hs zs2 rfl,?_⟩
 rw[AD]
 by_cases gl:FI C.cfg<AP bs 8
 ·rw[if_pos gl]at hG
  rw[if_pos (by simpa using gl)]
  refine⟨_,_,rfl,_,rfl,rfl,?_⟩
  rw[if_pos (by decide)]
  refine IY 16 (DL 32) hs zs3 ?_
  intro h6 hs
  exact k1 16 hG.symm (by decide) _ hs.drop.drop.drop.drop.drop.drop.drop
 rw[if_neg gl]at hG
 rw[if_neg (by simpa using gl)]
 refine⟨_,_,rfl,_,rfl,rfl,?_⟩
 rw[if_neg (by decide),w6]
 apply hJ31
 rw[AD,if_neg (by decide)]
 refine⟨_,hs.ld zs2 rfl,_,hs.ld zs2 rfl,_,hs.ld zs2 rfl,_,_,_,hs.ld zs2 rfl,_,htl,CM hs zs2 htl,?_⟩
 refine⟨Sat.can hs zs3 (by simp[AB]),?_⟩
 intro h10 e10
 replace hs:=Sat.wra (xs:=AX (bs.getD 5 0) (bs.getD 6 0) (AP bs 8) (AK own.1 16 (16+n) 1,n,n) ((bs.drop (16+n)).take 32)) hs zs3 e10 (by rw[DS htl];rfl)
 clear e10
 simp only[AV,AG]at hs
 refine⟨_,hs.ld zs3 rfl,_,hs.ld zs3 rfl,_,hs.ld zs3 rfl,_,_,_,hs.ld zs3 rfl,_,htl,CM hs zs3 htl,?_⟩
 exact k2 own n hG hp hnn pl _ (hs.sub (by
  refine List.Sublist.cons_cons _ ?_
  exact (((((List.sublist_cons_self _ _).trans (List.sublist_cons_self _ _)).trans (List.sublist_cons_self _ _)).trans (List.sublist_cons_self _ _)).trans (List.sublist_cons_self _ _)).trans (List.sublist_cons_self _ _)))
end
end Go.Proofs.YteedolonhdbieaaGreatDoor
end
section
namespace Go.Proofs.YteedolonhdbieaaGreatDoor
open Go Go.Vc
set_option maxRecDepth 100000
attribute [local irreducible] BC AN
def B6(C:Cm)(L:List Sec)(ar:Int):Bool:=(AJ C ar).2 == 0&&AN C L (AJ C ar).1 == 0
def AR(C:Cm):Int:=(C4 C).1 % 2
def A5(C:Cm)(L:List Sec):Option Int:=if B6 C L (AR C)=true then some (AR C) else if B6 C L (1-AR C)=true then some (1-AR C) else none
def BZ(C:Cm)(L:List Sec):Int:=match A5 C L with
 | some a=>1-a
 | none=>1-AR C
def FU(C:Cm):Bool:=(decide (GD C≠0) || !(VT C))&&decide ((C4 C).1<2^62)
def DO(C:Cm)(L:List Sec)(b:List Int):Cm×Int:=
 if C.out=true then (C,8) else if AN C L b≠0 then (C,AN C L b) else if CN C.cfg<b.length then (C,4)
 else if (DX C (BZ C L)).1=true∨BZ C L≠AR C/\FU C=false then (C,9)
 else if (FD C (BZ C L) b).2≠0∨BZ C L=AR C then FD C (BZ C L) b
 else QD (FD C (BZ C L) b).1 ((C4 C).1+1)
end Go.Proofs.YteedolonhdbieaaGreatDoor
end
section
namespace Go.Proofs.YteedolonhdbieaaGreatDoor
open Go Go.Vc
set_option maxRecDepth 100000
attribute [local irreducible] BC
def DQ(v:Int)(t:Nat):List Int:=(List.range t).map fun j=>IntKind.u8.wrap (v.fdiv (2^(8*j)))
theorem qL(v:Int)(t:Nat):(DQ v t).length=t:=by simp[DQ]
theorem Ag6(v:Int)(t:Nat):DQ v (t+1)=DQ v t++[IntKind.u8.wrap (v.fdiv (2^(8*t)))]:=by
 unfold DQ;rw[List.range_succ,List.map_append];rfl
def CA(slot key ver:Int)(pay:List Int):List Int:=[80,67,85,76,1,IntKind.u8.wrap slot,IntKind.u8.wrap key,0]++DQ ver 4++DQ (pay.length:Int) 4++pay
theorem AeV(slot key ver:Int)(pay:List Int):(CA slot key ver pay).length=16+pay.length:=by
 unfold CA
 rw[List.length_append,List.length_append,List.length_append,qL,qL];rfl
def X0(slot key ver:Int)(n:Nat):Int:=
 if slot<0∨7<slot∨key<0∨63<key∨ver<0∨4294967295<ver then 2 else if 524240<n then 4 else 0
section
variable {h0 h:H} {A:List Ent} {i j p r b s m:Nat} {C:Cm}
theorem uU{Q:Option Addr->Nat->Nat->HP}{q:Option Addr}{l c:Nat}{xs:List Int}(v:Int)(hs:Sat h0 (slE q l c 1 (AA .u8 xs)::A) h)(hl:l<2^45)
  (k:∀p' c' h',Sat h0 (slE p' (l+4) c' 1 (AA .u8 (xs++DQ v 4))::A) h'->Q p' (l+4) c' h'):O3 q l c v Q h:=by
 unfold O3 eY
 intro J hJ
 refine jO 4 (fun t (s:Option Addr×Nat)=>[.dv (.one (.slice s.1 (l+t) s.2)),si t]) (fun t s h=>Sat h0 (slE s.1 (l+t) s.2 1 (AA .u8 (xs++DQ v t))::A) h) ?_ ?_ 0 (q,c) _ (by omega) (by simpa[DQ]using hs)
 ·clear hs
  rintro t ⟨p2,c2⟩ h2 ht hs hk
  dsimp only at hs hk ⊢
  apply hJ
  rw[AD,if_pos (by rw[decide_eq_true_iff];omega)]
  have e:IntKind.i64.wrap (8*(t:Int))=((8*t:Nat):Int):=by rw[AQ (by omega)];push_cast;rfl
  rw[e]
  refine⟨by omega,?_⟩
  rw[Int.toNat_natCast,show min (8*t) 64=8*t by omega]
  intro nb _ hn;replace hs:=Sat.new hs hn
  refine⟨_,hs.bv (i:=0) (l:=1) .z rfl (A9 .u8 [_]),?_⟩
  refine Sat.app hs (i:=1) (vs:=AA .u8 [_]) zs1 rfl rfl (A9 .u8 [_]) (by omega) ?_
  intro p3 c3 h3 hs
  simp only[AV,AG]at hs
  rw[A0 (by omega)]
  refine hk (p3,c3) h3 ?_
  dsimp only
  rw[Ag6,←List.append_assoc,UX .u8 _ [_]]
  exact hs.drop
 ·clear hs
  rintro⟨p2,c2⟩ h2 hs
  dsimp only at hs ⊢
  apply hJ
  rw[AD,if_neg (by decide)]
  exact k _ _ _ hs
theorem uK{Q:Option Addr->Nat->Nat->HP}{slot key ver:Int}{pay tag:List Int}{pp:Option Addr}{pl pc:Nat}(hs:Sat h0 A h)(hp:pl<2^44)(rd:∀h',Sat h0 A h'->hsv h' pp 1 pl (AA .u8 pay))
  (k:∀p' c' h',Sat h0 (slE p' (16+pl) c' 1 (AA .u8 (CA slot key ver pay))::A) h'->Q p' (16+pl) c' h'):JQ slot key ver pp pl pc tag Q h:=by
 unfold JQ eS
 try simp only[AI,Nat.zero_add,List.append_nil]
 have hpl:pay.length=pl:=by have:=(rd _ hs).1;simpa using this
 intro n10 _ hn;replace hs:=Sat.new hs hn
 replace hs:Sat h0 (blk n10 (AX slot key ver (pp,pl,pc) tag)::A) _:=hs
 refine⟨_,hs.ld .z rfl,_,hs.ld .z rfl,?_⟩
 intro n15 _ hn;replace hs:=Sat.new hs hn
 refine⟨_,hs.ld zs1 rfl,?_⟩
 replace hs:=hs.as_sl (i:=0) (l:=8) (sz:=1) .z rfl (A9 .u8 [80,67,85,76,1,IntKind.u8.wrap slot,IntKind.u8.wrap key,0])
 simp only[AG]at hs
 refine uU (xs:=[80,67,85,76,1,IntKind.u8.wrap slot,IntKind.u8.wrap key,0]) ver hs (by decide) ?_
 intro p2 c2 h2 hs
 refine⟨_,_,_,hs.ld zs1 rfl,?_⟩
 refine uU (pl:Int) hs (by decide) ?_
 intro p3 c3 h3 hs
 refine⟨_,_,_,hs.ld zs1 rfl,_,rd _ hs.drop.drop,?_⟩
 refine Sat.app hs (i:=0) (vs:=AA .u8 pay) .z (by simp[hpl]) rfl (A9 _ _) (by dsimp only;omega) ?_
 intro p4 c4 h4 hs
 simp only[AG]at hs
 have e:AA .u8 ([80,67,85,76,1,IntKind.u8.wrap slot,IntKind.u8.wrap key,0]++DQ ver 4++DQ (pl:Int) 4)++AA .u8 pay=AA .u8 (CA slot key ver pay):=by
  unfold CA;rw[hpl,←UX]
 rw[e]at hs
 have K:=k p4 c4 h4
 rw[show 16+pl=8+4+4+pl by omega]at K
 exact K (hs.sub (by(repeat (first | exact List.Sublist.refl _ | apply List.Sublist.cons_cons | apply List.Sublist.cons))))
theorem YI{Q:Option Addr->Nat->Nat->HP}{slot key ver:Int}{pay tag:List Int}{pp:Option Addr}{pl pc:Nat}(hs:Sat h0 A h)(ht:tag.length=32)(hp:pl<2^44)(rd:∀h',Sat h0 A h'->hsv h' pp 1 pl (AA .u8 pay))
  (k:∀p' c' h',Sat h0 (slE p' (48+pl) c' 1 (AA .u8 (CA slot key ver pay++tag))::A) h'->48+pl≤c'->Q p' (48+pl) c' h'):FP slot key ver pp pl pc tag Q h:=by
 unfold FP eX
 try simp only[AI,Nat.zero_add,List.append_nil]
 intro n10 _ hn;replace hs:=Sat.new hs hn
 replace hs:Sat h0 (blk n10 (AX slot key ver (pp,pl,pc) tag)::A) _:=hs
 refine⟨_,hs.ld .z rfl,_,hs.ld .z rfl,_,hs.ld .z rfl,_,_,_,hs.ld .z rfl,tag,ht,CM hs .z ht,?_⟩
 refine uK (pay:=pay) hs hp (fun h' hs'=>rd _ hs'.drop) ?_
 intro p2 c2 h2 hs
 intro J hJ
 refine jO 32 (fun t (s:Option Addr×Nat)=>[.dv (.one (.slice s.1 (16+pl+t) s.2)),si t]) (fun t s h=>Sat h0 (slE s.1 (16+pl+t) s.2 1 (AA .u8 (CA slot key ver pay++tag.take t))::blk n10 (AX slot key ver (pp,pl,pc) tag)::A) h) ?_ ?_ 0 (p2,c2) _ (by omega) (by simpa using hs)
 ·clear hs
  rintro t ⟨p6,c6⟩ h6 ht2 hs hk
  dsimp only at hs hk ⊢
  apply hJ
  rw[AD,if_pos (by rw[decide_eq_true_iff];omega)]
  have ht3:t<tag.length:=by omega
  refine⟨by omega,by omega,tag[t],?_,?_⟩
  ·simp only[Int.toNat_natCast,Nat.mul_one]
   have:=CM hs zs1 ht t (.int .u8 tag[t]) (by rw[BR,List.getElem?_eq_getElem ht3];rfl)
   first | exact this | (rw[AI]at this;exact this)
  intro b3 _ hn;replace hs:=Sat.new hs hn
  refine⟨_,hs.bv (i:=0) (l:=1) .z rfl (A9 .u8 [tag[t]]),?_⟩
  refine Sat.app hs (i:=1) (vs:=AA .u8 [tag[t]]) zs1 rfl rfl (A9 _ _) (by omega) ?_
  intro p7 c7 h7 hs
  simp only[AV,AG]at hs
  rw[A0 (by omega)]
  refine hk (p7,c7) h7 ?_
  dsimp only
  rw[kS _ ht3,←List.append_assoc,UX .u8 _ [tag[t]]]
  exact hs.drop
 ·clear hs
  rintro⟨p6,c6⟩ h6 hs
  dsimp only at hs ⊢
  apply hJ
  rw[AD,if_neg (by decide)]
  rw[List.take_of_length_le (by omega)]at hs
  have hc:=UF hs .z
  have K:=k p6 c6 h6
  rw[show 48+pl=16+pl+32 by omega]at K
  exact K (hs.sub (by(repeat (first | exact List.Sublist.refl _ | apply List.Sublist.cons_cons | apply List.Sublist.cons)))) hc
theorem AkL{Q:Int->HP}{slot key ver:Int}{tag:List Int}{pp:Option Addr}{pl pc:Nat}(hs:Sat h0 A h)(k:∀h',Sat h0 A h'->Q (X0 slot key ver pl) h'):O1 slot key ver pp pl pc tag Q h:=by
 unfold O1 eV
 try simp only[AI,Nat.zero_add,List.append_nil]
 intro n9 _ hn;replace hs:=Sat.new hs hn
 replace hs:Sat h0 (blk n9 (AX slot key ver (pp,pl,pc) tag)::A) _:=hs
 have K:=k _ hs.drop
 clear k
 unfold X0 at K
 intro J hJ
 refine⟨_,hs.ld .z rfl,?_⟩
 rw[AD]
 by_cases g1:slot<0
 ·rw[if_pos (by simpa using g1)]
  rw[if_pos (Or.inl g1)]at K;exact K
 rw[if_neg (by simpa using g1)]
 refine⟨_,hs.ld .z rfl,?_⟩
 rw[AD]
 by_cases g2:7<slot
 ·rw[if_pos (by simpa using g2)]
  rw[if_pos (Or.inr (Or.inl g2))]at K;exact K
 rw[if_neg (by simpa using g2)]
 refine⟨_,hs.ld .z rfl,?_⟩
 rw[AD]
 by_cases g3:key<0
 ·rw[if_pos (by simpa using g3)]
  rw[if_pos (by omega)]at K;exact K
 rw[if_neg (by simpa using g3)]
 refine⟨_,hs.ld .z rfl,?_⟩
 rw[AD]
 by_cases g4:63<key
 ·rw[if_pos (by simpa using g4)]
  rw[if_pos (by omega)]at K;exact K
 rw[if_neg (by simpa using g4)]
 refine⟨_,hs.ld .z rfl,?_⟩
 rw[AD]
 by_cases g5:ver<0
 ·rw[if_pos (by simpa using g5)]
  rw[if_pos (by omega)]at K;exact K
 rw[if_neg (by simpa using g5)]
 refine⟨_,hs.ld .z rfl,?_⟩
 intro v25 hv
 subst hv
 rw[AD]
 by_cases g6:4294967295<ver
 ·rw[if_pos (by simpa using g6)]
  rw[if_pos (by omega)]at K;exact K
 rw[if_neg (by simpa using g6)]
 rw[if_neg (by omega)]at K
 apply hJ
 refine⟨_,_,_,hs.ld .z rfl,?_⟩
 dsimp only
 rw[AD]
 by_cases g7:524240<pl
 ·rw[if_pos (by rw[decide_eq_true_iff];omega)]
  rw[if_pos g7]at K;exact K
 ·rw[if_neg (by rw[decide_eq_true_iff];omega)]
  rw[if_neg g7]at K;exact K
theorem AkK{Q:Option Addr->Nat->Nat->Int->HP}{slot key ver:Int}{sec pay tag:List Int}{sp pp:Option Addr}{sl sc pl pc:Nat}(hs:Sat h0 A h)(ht:tag.length=32)(hm:X0 slot key ver pl=0)(hsb:BX sec)(hsl:sl<2^40)(hpb:BX pay)
  (rs:∀h',Sat h0 A h'->hsv h' sp 1 sl (AA .u8 sec)) (rd:∀h',Sat h0 A h'->hsv h' pp 1 pl (AA .u8 pay))
  (k:∀p' c' h',Sat h0 (slE p' (48+pl) c' 1 (AA .u8 (CA slot key ver pay++BC sec (CA slot key ver pay)))::A) h'->48+pl≤c'->Q p' (48+pl) c' 0 h'):O0 sp sl sc slot key ver pp pl pc tag Q h:=by
 unfold O0 eU
 try simp only[AI,Nat.zero_add,List.append_nil]
 have hpl:pay.length=pl:=by have:=(rd _ hs).1;simpa using this
 have hp:pl≤524240:=by
  unfold X0 at hm
  by_cases g:slot<0∨7<slot∨key<0∨63<key∨ver<0∨4294967295<ver
  ·rw[if_pos g]at hm;cases hm
  ·rw[if_neg g]at hm
   by_cases g2:524240<pl
   ·rw[if_pos g2]at hm;cases hm
   ·omega
 have hcb:BX (CA slot key ver pay):=by
  intro v hv
  unfold CA at hv
  have w8:∀n,0≤IntKind.u8.wrap n/\IntKind.u8.wrap n<256:=fun n=>by rw[IntKind.wrap_u8];omega
  have f8:∀v t x,x∈DQ v t->0≤x/\x<256:=by
   intro v t x hx
   unfold DQ at hx
   obtain⟨j,_,rfl⟩:=List.mem_map.1 hx
   exact w8 _
  rcases List.mem_append.1 hv with hv | hv
  ·rcases List.mem_append.1 hv with hv | hv
   ·rcases List.mem_append.1 hv with hv | hv
    ·simp only[List.mem_cons,List.not_mem_nil,or_false]at hv
     rcases hv with rfl | rfl | rfl | rfl | rfl | rfl | rfl | rfl
     ·decide
     ·decide
     ·decide
     ·decide
     ·decide
     ·exact w8 _
     ·exact w8 _
     ·decide
    ·exact f8 _ _ _ hv
   ·exact f8 _ _ _ hv
  ·exact hpb v hv
 intro n16 _ hn;replace hs:=Sat.new hs hn
 replace hs:Sat h0 (blk n16 (AX slot key ver (pp,pl,pc) tag)::A) _:=hs
 refine⟨_,hs.ld .z rfl,_,hs.ld .z rfl,_,hs.ld .z rfl,_,_,_,hs.ld .z rfl,tag,ht,CM hs .z ht,?_⟩
 refine AkL hs ?_
 intro h2 hs
 rw[hm,if_neg (by decide)]
 refine⟨_,hs.ld .z rfl,_,hs.ld .z rfl,_,hs.ld .z rfl,_,_,_,hs.ld .z rfl,tag,ht,CM hs .z ht,?_⟩
 refine uK (pay:=pay) hs (by dsimp only;omega) (fun h' hs'=>rd _ hs'.drop) ?_
 intro p2 c2 h3 hs
 refine AkJ (key:=sec) (b:=CA slot key ver pay) hs hsb hcb (by omega) (by dsimp only;omega) (fun h' hs'=>rs _ hs'.drop.drop) (fun h' hs'=>hs'.sv .z) ?_
 intro h4 hs
 replace hs:=hs.drop
 refine⟨Sat.can hs .z (by simp[ht]),?_⟩
 intro h5 e5
 replace hs:=Sat.wr hs (i:=0) (o:=4) .z e5
 clear e5
 simp only[AG]at hs
 have es:AO (AX slot key ver (pp,pl,pc) tag) 4 (AA .u8 (BC sec (CA slot key ver pay)))=AX slot key ver (pp,pl,pc) (BC sec (CA slot key ver pay)):=by
  have:=TB [Value.int .i64 slot,.int .i64 key,.int .i64 ver,.slice pp pl pc] (AA .u8 tag) [] (AA .u8 (BC sec (CA slot key ver pay))) (by simp[ht,G3])
  simpa using this
 rw[es]at hs
 refine⟨_,hs.ld .z rfl,_,hs.ld .z rfl,_,hs.ld .z rfl,_,_,_,hs.ld .z rfl,_,G3 _ _,CM hs .z (G3 _ _),?_⟩
 refine YI (pay:=pay) hs (G3 _ _) (by dsimp only;omega) (fun h' hs'=>rd _ hs'.drop) ?_
 intro p6 c6 h6 hs hc
 exact k _ _ _ (hs.sub (by(repeat (first | exact List.Sublist.refl _ | apply List.Sublist.cons_cons | apply List.Sublist.cons)))) hc
end
end Go.Proofs.YteedolonhdbieaaGreatDoor
end
section
namespace Go.Proofs.YteedolonhdbieaaGreatDoor
open Go Go.Vc
set_option maxRecDepth 1000000
theorem n13:DT [(1,[7])]=none:=by decide
end Go.Proofs.YteedolonhdbieaaGreatDoor
end
section
namespace Go.Proofs.YteedolonhdbieaaGreatDoor
open Go Go.Vc
set_option maxRecDepth 100000
attribute [local irreducible] BC
structure TkIn (h:H) (key:Int) (id tag:List Int) (cs:List CvM) (ip:Option Addr) (il:Nat) (cp:Option Addr) (cl:Nat):Prop where
 ri:hsv h ip 1 il (AA .u8 id)
 rb:BX id
 ii:il+4096≤2^47
 rc:hsv h cp 5 cl (iQ cs)
 tl:tag.length=32
 tb:BX tag
section
variable {h0 h:H} {A:List Ent} {i j p r b s m:Nat} {C:Cm}
end
end Go.Proofs.YteedolonhdbieaaGreatDoor
end
section
namespace Go.Proofs.YteedolonhdbieaaGreatDoor
open Go Go.Vc
set_option maxRecDepth 100000
theorem X8(C:Cm)(t q:Int)(x:List Int):(CH C t q x).1.s.blown=C.s.blown:=by
 unfold CH
 split
 ·rfl
 ·show C.act.s.blown=_;rw[B3]
theorem pY(C:Cm)(t:Int):(CP C t).1.s.blown=C.s.blown:=by
 unfold CP
 split
 ·rfl
 ·split
  ·rfl
  ·show C.act.s.blown=_;rw[B3]
theorem AhW(C:Cm)(slot n:Int):(EF C slot n).1.s.blown=C.s.blown:=by
 have ep:∀(t:Int) (nums:List Int) (m x a:Nat) (D:Cm),(EJ t nums m x a D).1.s.blown=D.s.blown:=by
  intro t nums m
  induction m with
  | zero=>intro x a D;rfl
  | succ m ih=>
   intro x a D
   unfold EJ
   split
   ·exact ih _ _ _
   ·split
    ·exact X8 _ _ _ _
    ·exact (ih _ _ _).trans (X8 _ _ _ _)
 have ea:∀(g t:Int) (nums:List Int) (m:Nat) (D:Cm),(E3 g t nums m D).1.s.blown=D.s.blown:=by
  intro g t nums m D
  unfold E3
  split
  ·exact ep _ _ _ _ _ _
  ·exact (X8 _ _ _ _).trans (ep _ _ _ _ _ _)
 unfold EF
 (repeat' split) <;> first | rfl | exact X8 _ _ _ _ | skip
 unfold I1
 split
 ·exact ea _ _ _ _ _
 ·split
  ·exact pY _ _
  ·exact (ea _ _ _ _ _).trans (pY _ _)
theorem iH(C:Cm)(k:Int):(B9 C k).1.s.pages=C.s.pages/\(B9 C k).1.s.erases=C.s.erases/\(B9 C k).1.cfg=C.cfg:=by
 unfold B9
 split
 ·exact⟨rfl,rfl,rfl⟩
 ·dsimp only
  split
  ·exact⟨rfl,rfl,DA C⟩
  ·rw[B3];exact⟨rfl,rfl,DA C⟩
theorem uJ(a f:Nat)(n:Int):∀(m:Nat) (C:Cm),(D8 a f n m C).1.s.pages=C.s.pages/\(D8 a f n m C).1.cfg=C.cfg
 | 0,C=>⟨rfl,rfl⟩
 | m+1,C=>by
  unfold D8
  split
  ·exact⟨rfl,rfl⟩
  ·split
   ·exact⟨rfl,rfl⟩
   ·rename_i k _
    have b:=iH C k
    split
    ·exact⟨b.1,b.2.2⟩
    ·have r:=uJ a f n m (B9 C k).1
     exact⟨r.1.trans b.1,r.2.trans b.2.2⟩
theorem pG{C:Cm}(h:C.left<0)(k:Int):(B9 C k).1.left<0:=by
 unfold B9
 split
 ·exact h
 ·dsimp only
  split
  ·exact WE h
  ·exact WE h
theorem uI(a f:Nat)(n:Int):∀(m:Nat) (C:Cm),C.left<0->(D8 a f n m C).1.left<0
 | 0,C,h=>h
 | m+1,C,h=>by
  unfold D8
  split
  ·exact h
  ·split
   ·exact h
   ·rename_i k _
    have b:=pG h k
    split
    ·exact b
    ·exact uI a f n m _ b
theorem vJ{u:Bool}{C D:Cm}(hc:D.cfg=C.cfg)(hp:D.s.pages=C.s.pages)(hl:C.left<0->D.left<0)(h:CU u C):CU u D:=by
 cases u
 ·intro x hx
  have:=h x hx
  unfold Cm.pg at this ⊢
  rw[hp,hc]
  exact this
 ·exact hl h
def DJ(C:Cm)(k:Nat):Nat:=cnt C.s.blown (((k:Nat):Int)*C.cfg.fuses).toNat C.cfg.fuses.toNat
def B8(C:Cm)(k:Nat):Int:=if (DJ C k:Int)*C.cfg.step<BI C k then BI C k else (DJ C k:Int)*C.cfg.step
theorem AmJ{C:Cm}(ho:C.out=false){k:Nat}(hk:(k:Int)<C.cfg.slots):M6 C (k:Int)=B8 C k:=by
 have e:D0 C (k:Int)=(((cnt C.s.blown (((k:Nat):Int)*C.cfg.fuses).toNat C.cfg.fuses.toNat:Nat):Int),0):=by
  unfold D0
  rw[DB ho (by omega) hk,if_neg (by simp)]
 unfold M6 B8 DJ
 rw[e,Int.toNat_natCast]
theorem jU{C D:Cm}(hc:D.cfg=C.cfg)(hp:D.s.pages=C.s.pages)(k:Nat):BI D k=BI C k:=by
 have e:∀t,pI D t=pI C t:=fun t=>by unfold pI Cm.pg;rw[hc,hp]
 unfold BI AS AU
 rw[e,e,e]
structure Bumped (u:Bool) (C D:Cm) (slot:Nat) (v e:Int):Prop where
 cfg:D.cfg=C.cfg
 snd:CU u D
 keys:∀q:Nat,C.cfg.slots*C.cfg.fuses≤(q:Int)->D.s.blown.getD q false=C.s.blown.getD q false
 other:∀k:Nat,(k:Int)<C.cfg.slots->k≠slot->B8 D k=B8 C k
 me:B8 D slot=B8 C slot∨(B8 D slot=v/\B8 C slot<v)
 done:e=0->B8 D slot=max v (B8 C slot)
 bad:e≠0->e≠8->D=C
theorem iN{x y:List Bool}{a:Nat}:∀{n:Nat},(∀k,a≤k->k<a+n->x.getD k false=y.getD k false)->cnt x a n=cnt y a n
 | 0,_=>rfl
 | n+1,h=>by
  unfold cnt
  rw[iN (n:=n) fun k h1 h2=>h k h1 (by omega),h (a+n) (by omega) (by omega)]
theorem Ae0{u:Bool}{C:Cm}(ok:C.ok)(ho:C.out=false)(snd:CU u C){slot:Nat}(hs:(slot:Int)<C.cfg.slots)(v:Int):
  Bumped u C (G6 C (slot:Int) v).1 slot v (G6 C (slot:Int) v).2:=by
 have hms:=ok.may.slots
 have hst:=ok.may.step
 have hfu:=ok.may.fuses
 have hr:DN C (slot:Int)=(B8 C slot,0):=by
  unfold DN
  rw[DB ho (by omega) hs,if_neg (by simp),AmJ ho hs]
 have hmv:=P5
 have hlast:=jG ok.may
 unfold G6
 rw[hr]
 dsimp only
 rw[if_neg (by simp)]
 have idle:∀e,(e=0->v≤B8 C slot)->Bumped u C C slot v e:=fun e he=>
  ⟨rfl,snd,fun _ _=>rfl,fun _ _ _=>rfl,Or.inl rfl,fun y=>by have:=he y;omega,fun _ _=>rfl⟩
 by_cases g1:v<0
 ·rw[if_pos g1];exact idle 2 (fun y=>absurd y (by decide))
 rw[if_neg g1]
 by_cases g2:v≤B8 C slot
 ·rw[if_pos g2];exact idle 0 (fun _=>g2)
 rw[if_neg g2]
 by_cases g3:FI C.cfg<v
 ·rw[if_pos g3];exact idle 10 (fun y=>absurd y (by decide))
 rw[if_neg g3]
 have hnum:BI C slot≤B8 C slot:=by unfold B8;split <;> omega
 have hcnt:(DJ C slot:Int)*C.cfg.step≤B8 C slot:=by unfold B8;split <;> omega
 have hc0:0≤(DJ C slot:Int)*C.cfg.step:=Int.mul_nonneg (by omega) (by omega)
 obtain⟨D,e,hL,L⟩:=tA (u:=u) ok ho snd (slot:=slot) (n:=v) (by omega) (by omega) (by omega) (by omega)
 have hbl:=AhW C (slot:Int) v
 rw[hL]at hbl ⊢
 dsimp only at hbl ⊢
 have cD:∀k,DJ D k=DJ C k:=fun k=>by unfold DJ;rw[hbl,L.cfg]
 have vD:∀k:Nat,(k:Int)<C.cfg.slots->k≠slot->B8 D k=B8 C k:=fun k h1 h2=>by
  unfold B8
  rw[cD,L.cfg,L.other k (by omega) h2]
 by_cases ge:e=0
 case neg=>
  rw[if_pos ge]
  refine⟨L.cfg,L.snd,fun q _=>by rw[hbl],vD,?_,fun y=>absurd y ge,fun _ h8=>L.e9 (by have:=L.ec;omega)⟩
  rcases L.me with y | y
  ·left;unfold B8;rw[cD,L.cfg,y]
  ·right
   refine⟨?_,by omega⟩
   unfold B8
   rw[cD,L.cfg,y,if_pos (by omega)]
 rw[if_neg (fun y=>y ge)]
 have okD:=L.ok
 have hoD:=L.out0 ge
 have hn:=L.done ge
 have hsD:(slot:Int)<D.cfg.slots:=by rw[L.cfg];exact hs
 obtain⟨r1,r2,r3,r4,r5,r6⟩:=kD okD (slot:=(slot:Int)) (by omega) hsD
 have hd0:0≤v.tdiv C.cfg.step:=Int.tdiv_nonneg (by omega) (by omega)
 have hdq:v.tdiv C.cfg.step*C.cfg.step≤v:=by
  rw[Int.tdiv_eq_ediv_of_nonneg (by omega)]
  exact Int.ediv_mul_le v (by omega)
 have hdf:v.tdiv C.cfg.step≤C.cfg.fuses:=by
  rw[Int.tdiv_eq_ediv_of_nonneg (by omega)]
  have:v / C.cfg.step<C.cfg.fuses+1:=Int.ediv_lt_of_lt_mul (by omega) (by
   rw[Int.add_mul,Int.one_mul,Int.mul_comm]
   unfold FI at g3
   omega)
  omega
 unfold QA
 rw[DB hoD (by omega) hsD,if_neg (by simp),if_neg (by omega),if_neg (by rw[L.cfg];omega)]
 have R:=AjZ ((slot:Int)*D.cfg.fuses).toNat D.cfg.fuses.toNat (v.tdiv C.cfg.step) (by rw[L.cfg];rw[L.cfg]at r2;omega) D.cfg.fuses.toNat D hoD okD.left r3 (by
  have:=Int.natCast_nonneg (cnt D.s.blown ((slot:Int)*D.cfg.fuses).toNat D.cfg.fuses.toNat)
  rw[L.cfg]at r2 ⊢
  omega)
 have P:=uJ ((slot:Int)*D.cfg.fuses).toNat D.cfg.fuses.toNat (v.tdiv C.cfg.step) D.cfg.fuses.toNat D
 have PL:=uI ((slot:Int)*D.cfg.fuses).toNat D.cfg.fuses.toNat (v.tdiv C.cfg.step) D.cfg.fuses.toNat D
 generalize D8 ((slot:Int)*D.cfg.fuses).toNat D.cfg.fuses.toNat (v.tdiv C.cfg.step) D.cfg.fuses.toNat D=X at *
 have cX:X.1.cfg=C.cfg:=R.cfg.trans L.cfg
 have nX:∀k,BI X.1 k=BI D k:=fun k=>jU R.cfg P.1 k
 have sX:CU u X.1:=vJ R.cfg P.1 PL L.snd
 have hfm:(C.cfg.fuses.toNat:Int)=C.cfg.fuses:=by omega
 have cXme:((DJ X.1 slot:Nat):Int)*C.cfg.step≤v:=by
  have:=R.le
  have e1:cnt D.s.blown ((slot:Int)*D.cfg.fuses).toNat D.cfg.fuses.toNat=DJ C slot:=(show DJ D slot=_ from cD slot)
  have e2:cnt X.1.s.blown ((slot:Int)*D.cfg.fuses).toNat D.cfg.fuses.toNat=DJ X.1 slot:=by unfold DJ;rw[R.cfg]
  rw[e1,e2]at this
  rcases Int.le_total (v.tdiv C.cfg.step) (DJ C slot:Int) with y | y
  ·have z:((DJ X.1 slot:Nat):Int)≤(DJ C slot:Int):=by omega
   have:=Int.mul_le_mul_of_nonneg_right z (show 0≤C.cfg.step by omega)
   omega
  ·have z:((DJ X.1 slot:Nat):Int)≤v.tdiv C.cfg.step:=by omega
   have:=Int.mul_le_mul_of_nonneg_right z (show 0≤C.cfg.step by omega)
   omega
 have vme:B8 X.1 slot=v:=by
  unfold B8
  rw[nX,hn,cX]
  split <;> omega
 refine⟨cX,sX,?_,?_,Or.inr ⟨vme,by omega⟩,fun _=>by rw[vme];omega,fun h1 h2=>absurd (R.bad h1).1 h2⟩
 ·intro q hq
  rw[←hbl]
  refine R.same q (Or.inr ?_)
  have:((slot:Int)+1)*C.cfg.fuses≤C.cfg.slots*C.cfg.fuses:=Int.mul_le_mul_of_nonneg_right (by omega) (by omega)
  rw[Int.add_mul,Int.one_mul]at this
  rw[L.cfg]at r1 r2 ⊢
  omega
 ·intro k hk hne
  rw[←vD k hk hne]
  have hce:DJ X.1 k=DJ D k:=by
   unfold DJ
   rw[R.cfg]
   refine iN fun q h1 h2=>R.same q ?_
   rw[L.cfg]at h1 h2 r1 r2 ⊢
   have k0:0≤(k:Int)*C.cfg.fuses:=Int.mul_nonneg (by omega) (by omega)
   rcases Nat.lt_or_ge k slot with y | y
   ·left
    have:((k:Int)+1)*C.cfg.fuses≤(slot:Int)*C.cfg.fuses:=Int.mul_le_mul_of_nonneg_right (by omega) (by omega)
    rw[Int.add_mul,Int.one_mul]at this
    omega
   ·right
    have:((slot:Int)+1)*C.cfg.fuses≤(k:Int)*C.cfg.fuses:=Int.mul_le_mul_of_nonneg_right (by omega) (by omega)
    rw[Int.add_mul,Int.one_mul]at this
    omega
  unfold B8
  rw[hce,nX,R.cfg]
def GF(C:Cm)(k:Nat):Bool:=C.s.blown.getD (C.cfg.slots*C.cfg.fuses+(k:Int)).toNat false
structure RevokedL (u:Bool) (C D:Cm) (key:Nat) (e:Int):Prop where
 cfg:D.cfg=C.cfg
 snd:CU u D
 vals:∀k:Nat,(k:Int)<C.cfg.slots->B8 D k=B8 C k
 other:∀k:Nat,k≠key->GF D k=GF C k
 up:GF C key=true->GF D key=true
 done:e=0->GF D key=true/\D.out=false
 bad:e≠0->e≠8->D=C
theorem AkD{u:Bool}{C:Cm}(ok:C.ok)(ho:C.out=false)(snd:CU u C){key:Nat}(hk:(key:Int)<C.cfg.keys):RevokedL u C (FA C (key:Int)).1 key (FA C (key:Int)).2:=by
 have hms:=ok.may.slots
 have hfu:=ok.may.fuses
 have h0:0≤C.cfg.slots*C.cfg.fuses:=Int.mul_nonneg (by omega) (by omega)
 have hbl:=ok.fits.blown
 have hnf:C.cfg.nf=C.cfg.slots*C.cfg.fuses+C.cfg.keys:=rfl
 have er:CJ C (key:Int)=(GF C key,0):=by
  unfold CJ
  rw[DB ho (by omega) hk,if_neg (by simp)];rfl
 unfold FA
 rw[er]
 dsimp only
 rw[if_neg (by simp)]
 by_cases g:GF C key=true
 ·rw[if_pos g]
  exact⟨rfl,snd,fun _ _=>rfl,fun _ _=>rfl,fun y=>y,fun _=>⟨g,ho⟩,fun y=>absurd rfl y⟩
 rw[if_neg g]
 obtain⟨q,hq⟩:∃q:Nat,C.cfg.slots*C.cfg.fuses+(key:Int)=(q:Int):=Int.eq_ofNat_of_zero_le (by omega)
 rw[hq]
 have hql:q<C.s.blown.length:=by omega
 have B:=iH C (q:Int)
 have BL:=fun h=>pG (C:=C) h (q:Int)
 have hb:(B9 C (q:Int)).1.s.blown=C.s.blown∨(B9 C (q:Int)).1.s.blown=C.s.blown.set q true:=by
  by_cases hl:C.left=0
  ·exact (UD ho hql hl).2.2
  ·right;rw[UE ho hql hl]
 have he:(B9 C (q:Int)).2=0->(B9 C (q:Int)).1.s.blown=C.s.blown.set q true/\(B9 C (q:Int)).1.out=false:=by
  intro y
  by_cases hl:C.left=0
  ·rw[(UD ho hql hl).1]at y;exact absurd y (by decide)
  ·rw[UE ho hql hl];exact⟨rfl,JX ho hl⟩
 have hbad:(B9 C (q:Int)).2=0∨(B9 C (q:Int)).2=8:=by
  by_cases hl:C.left=0
  ·exact Or.inr (UD ho hql hl).1
  ·left;rw[UE ho hql hl]
 generalize B9 C (q:Int)=X at *
 obtain⟨b1,_,b3⟩:=B
 have same:∀k,k≠q->X.1.s.blown.getD k false=C.s.blown.getD k false:=by
  intro k hne
  rcases hb with y | y
  ·rw[y]
  ·rw[y];simp only[List.getD,List.getElem?_set_ne (Ne.symm hne)]
 refine⟨b3,vJ b3 b1 BL snd,?_,?_,fun y=>absurd y g,?_,fun h1 h2=>by rcases hbad with y | y;exact absurd y h1;exact absurd y h2⟩
 ·intro k hk2
  have k0:0≤(k:Int)*C.cfg.fuses:=Int.mul_nonneg (by omega) (by omega)
  have k1:((k:Int)+1)*C.cfg.fuses≤C.cfg.slots*C.cfg.fuses:=Int.mul_le_mul_of_nonneg_right (by omega) (by omega)
  rw[Int.add_mul,Int.one_mul]at k1
  have hce:DJ X.1 k=DJ C k:=by
   unfold DJ
   rw[b3]
   refine iN fun z h1 h2=>same z ?_
   omega
  unfold B8
  rw[hce,jU b3 b1,b3]
 ·intro k hne
  unfold GF
  rw[b3]
  exact same _ (by omega)
 ·intro y
  refine⟨?_,(he y).2⟩
  unfold GF
  rw[b3,hq,Int.toNat_natCast,(he y).1]
  simp[List.getD,hql]
end Go.Proofs.YteedolonhdbieaaGreatDoor
end
section
namespace Go.Proofs.YteedolonhdbieaaGreatDoor
open Go Go.Vc
set_option maxRecDepth 100000
attribute [local irreducible] BC
structure Hands (C:Cm) (L:List Sec) (bs:List Int) (x y:Nat) (s:Sec):Prop where
 on:C.out=false
 fine:(BW bs).1=0
 slot:bs.getD 5 0=(x:Int)
 key:bs.getD 6 0=(y:Int)
 slots:(x:Int)<C.cfg.slots
 keys:(y:Int)<C.cfg.keys
 has:L.find? (fun z=>z.1 == (y:Int))=some s
 may:GF C y=false
 tag:BC s.2 (bs.take (bs.length-32))=(bs.drop (bs.length-32)).take 32
 low:B8 C x≤AP bs 8
 high:AP bs 8≤FI C.cfg
structure Lifted (C D:Cm):Prop where
 cfg:D.cfg=C.cfg
 vals:∀k:Nat,(k:Int)<C.cfg.slots->B8 C k≤B8 D k
 keys:∀k:Nat,(k:Int)<C.cfg.keys->GF C k=true->GF D k=true
end Go.Proofs.YteedolonhdbieaaGreatDoor
end
section
namespace Go.Proofs.YteedolonhdbieaaGreatDoor
open Go Go.Vc
set_option maxRecDepth 100000
attribute [local irreducible] BC
def kV(C:Cm)(L:List Sec)(B:List Int):Int:=
 if (BW B).1≠0/\(BW B).1≠6 then (BW B).1
 else if 5<B.length/\C.cfg.slots≤B.getD 5 0 then 5
 else if 6<B.length/\(C.cfg.keys≤B.getD 6 0∨L.find? (fun x=>x.1 == B.getD 6 0)=none) then 13
 else if 6<B.length/\(CJ C (B.getD 6 0)).1=true then 14 else 0
theorem rI{bs:List Int}:∀(m x:Nat) (w:Int×Int),DE bs m x=some w->w.1=5∨w.1=6
 | 0,x,w,h=>by cases h
 | m+1,x,w,h=>by
  unfold DE at h
  by_cases c:x=bs.length
  ·rw[if_pos c]at h;cases h;exact Or.inr rfl
  rw[if_neg c]at h
  by_cases g:D6 x (bs.getD x 0)=true
  ·rw[if_pos g]at h;exact rI m (x+1) w h
  ·rw[if_neg g]at h;cases h;exact Or.inl rfl
theorem qU{C:Cm}{L:List Sec}{b:List Int}(ho:C.out=false)(h:(BW b).1≠0):AN C L b=(BW b).1:=by
 unfold AN
 rw[if_neg (by rw[ho];decide),if_pos h]
end Go.Proofs.YteedolonhdbieaaGreatDoor
end
section
namespace Go.Proofs.YteedolonhdbieaaGreatDoor
open Go Go.Vc
set_option maxRecDepth 100000
attribute [local irreducible] BC
theorem k6(n:Int):0≤IntKind.u8.wrap n/\IntKind.u8.wrap n<256:=by rw[IntKind.wrap_u8];omega
theorem AeX{slot key ver:Int}{pay:List Int}(hpb:BX pay):BX (CA slot key ver pay):=by
 intro v hv
 unfold CA at hv
 have f8:∀v t x,x∈DQ v t->0≤x/\x<256:=by
  intro v t x hx
  unfold DQ at hx
  obtain⟨j,_,rfl⟩:=List.mem_map.1 hx
  exact k6 _
 rcases List.mem_append.1 hv with hv | hv
 ·rcases List.mem_append.1 hv with hv | hv
  ·rcases List.mem_append.1 hv with hv | hv
   ·simp only[List.mem_cons,List.not_mem_nil,or_false]at hv
    rcases hv with rfl | rfl | rfl | rfl | rfl | rfl | rfl | rfl
    ·decide
    ·decide
    ·decide
    ·decide
    ·decide
    ·exact k6 _
    ·exact k6 _
    ·decide
   ·exact f8 _ _ _ hv
  ·exact f8 _ _ _ hv
 ·exact hpb v hv
theorem Ag5(v:Int):DQ v 4=[IntKind.u8.wrap v,IntKind.u8.wrap (v.fdiv (2^8)),IntKind.u8.wrap (v.fdiv (2^16)),IntKind.u8.wrap (v.fdiv (2^24))]:=by
 show [IntKind.u8.wrap (v.fdiv (2^0)),IntKind.u8.wrap (v.fdiv (2^8)),IntKind.u8.wrap (v.fdiv (2^16)),IntKind.u8.wrap (v.fdiv (2^24))]=_
 rw[show (2:Int)^0=1 by decide,Int.fdiv_one]
structure Made (bs:List Int) (slot key ver:Int) (pay t:List Int):Prop where
 fine:BW bs=(0,0)
 atSlot:bs.getD 5 0=slot
 atKey:bs.getD 6 0=key
 atVer:AP bs 8=ver
 n:AP bs 12=pay.length
 len:bs.length=48+pay.length
 body:bs.take (bs.length-32)=CA slot key ver pay
 tag:(bs.drop (bs.length-32)).take 32=t
 load:(bs.drop 16).take pay.length=pay
 tag2:(bs.drop (16+pay.length)).take 32=t
section
variable {h0 h:H} {A:List Ent} {i j p r b s m:Nat} {C:Cm}
end
end Go.Proofs.YteedolonhdbieaaGreatDoor
end
