/- LoaderWhole and its parts, laid together by a program of ours: GtA Sp2 SpW Sp3 Rg0 Rg1 Rg2 Ld1 Ld2 Lx1 Ly4 Ld3 Ld4 Sd1 Sd3 Ld5 LdW Ld7 ScE Lh0 Lh1 -/
import Derived.Test.YteedolonhdbieaaGreatDoorK14
set_option autoImplicit false
set_option linter.all false
section
namespace Go.Proofs.YteedolonhdbieaaGreatDoor
open Go Go.Vc
set_option maxRecDepth 100000
attribute [local irreducible] BC AN
@[irreducible] def VF(P:Option Addr)(n:Nat)(xs:List Int)(h:H)(f:Nat->Prop):Prop:=
 xs.length=n/\((n=0/\∀x,¬f x)∨∃b pre post,(n=0∨P=some ⟨b,pre.length,none⟩)/\Blk h b (pre++AA .u8 xs++post)/\∀x,f x↔x=b)
def ER(P:Option Addr)(n:Nat)(xs:List Int):Ent where
 tag:=.of 77
 P:=VF P n xs
 st:=by
  unfold VF;rintro h h' f ⟨e,k⟩ hs
  refine⟨e,?_⟩
  rcases k with k | ⟨b,pre,post,k1,k2,k3⟩
  ·exact Or.inl k
  ·exact Or.inr ⟨b,pre,post,k1,k2.of_eq (hs b ((k3 b).2 rfl)),k3⟩
 lt:=by
  unfold VF;rintro h f x ⟨e,k⟩ hx
  rcases k with k | ⟨b,pre,post,k1,k2,k3⟩
  ·exact absurd hx (k.2 x)
  ·rw[(k3 x).1 hx];exact k2.lt
theorem prtE_P{P:Option Addr}{n:Nat}{xs:List Int}{h:H}{f:Nat->Prop}:(ER P n xs).P h f↔xs.length=n/\((n=0/\∀x,¬f x)∨∃b pre post,(n=0∨P=some ⟨b,pre.length,none⟩)/\Blk h b (pre++AA .u8 xs++post)/\∀x,f x↔x=b):=by
 show VF P n xs h f↔_;unfold VF;rfl
section
variable {h0 h:H} {A:List Ent} {i j p r b s m:Nat} {C:Cm}
theorem VG{P:Option Addr}{n:Nat}{xs:List Int}(hs:Sat h0 A h)(a:At A i (ER P n xs)):hsv h P 1 n (AA .u8 xs):=by
 obtain⟨f,hp,_⟩:=hs.take a
 obtain⟨e,k⟩:=prtE_P.1 hp
 refine⟨by rw[BV,e,Nat.mul_one],A9 _ _,?_⟩
 have nl:n=0->AA .u8 xs=[]:=fun y=>by rw[List.eq_nil_of_length_eq_zero (e.trans y)];rfl
 rcases k with k | ⟨b,pre,post,k1,k2,k3⟩
 ·exact Or.inl (nl k.1)
 ·rcases k1 with k1 | k1
  ·exact Or.inl (nl k1)
  ·refine Or.inr ⟨_,k1,k2.hcs fun x hx=>?_⟩
   rw[List.append_assoc,List.getElem?_append_right (by omega),Nat.add_sub_cancel_left,List.getElem?_append_left hx]
theorem YA{c sz:Nat}(hs:Sat h0 A h)(a:At A i (sE (none,0,0) sz [])):Sat h0 (put A i (ER none 0 [])) h:=by
 refine hs.as a fun f hp=>?_
 obtain⟨bs,⟨_,_,_,h4⟩,hf⟩:=slE_P.1 hp
 refine prtE_P.2 ⟨rfl,Or.inl ⟨rfl,fun x hx=>?_⟩⟩
 rcases h4 with⟨_,_,rfl⟩ | ⟨b,rest,y,_⟩
 ·simpa using (hf x).1 hx
 ·cases y
theorem uB{own:Sl}{bs:List Int}{n:Nat}(hs:Sat h0 A h)(a:At A i (sE own 1 (AA .u8 bs)))(hl:bs.length=48+n):Sat h0 (put A i (ER (AK own.1 16 (16+n) 1) n ((bs.drop 16).take n))) h:=by
 refine hs.as a fun f hp=>?_
 obtain⟨B,⟨h1,h2,h3,h4⟩,hf⟩:=slE_P.1 hp
 have hlen:own.2.1=48+n:=by simp at h1;omega
 refine prtE_P.2 ⟨by rw[List.length_take,List.length_drop];omega,Or.inr ?_⟩
 rcases h4 with⟨y,_,_⟩ | ⟨b,rest,e1,rfl,k,_⟩
 ·omega
 refine⟨b,AA .u8 (bs.take 16),AA .u8 (bs.drop (16+n))++rest,?_,?_,?_⟩
 ·by_cases g:n=0
  ·exact Or.inl g
  ·right
   unfold AK
   rw[if_neg (by omega),e1]
   show some ((⟨b,0,none⟩:Addr).add (16*1))=_
   rw[AI,BV,List.length_take,Nat.min_eq_left (by omega)]
 ·have e2:bs=bs.take 16++(bs.drop 16).take n++bs.drop (16+n):=by
   rw[List.append_assoc,←List.drop_drop,List.take_append_drop,List.take_append_drop]
  have e3:=congrArg (AA .u8) e2
  rw[UX,UX]at e3
  rw[e3]at k
  have e4:AA .u8 (bs.take 16)++AA .u8 ((bs.drop 16).take n)++(AA .u8 (bs.drop (16+n))++rest)=AA .u8 (bs.take 16)++AA .u8 ((bs.drop 16).take n)++AA .u8 (bs.drop (16+n))++rest:=by simp only[List.append_assoc]
  rw[e4]
  exact k
 ·intro x;rw[hf];simp
end
def BN(G:Int)(bs:List Int):Int:=if G=0 then bs.getD 5 0 else 0
def BM(G:Int)(bs:List Int):Int:=if G=0 then bs.getD 6 0 else 0
def BJ(G:Int)(bs:List Int):Int:=if G=0 then AP bs 8 else 0
def AL(G:Int)(bs:List Int):List Int:=if G=0 then (bs.drop 16).take (AP bs 12).toNat else []
def A6(G:Int)(bs:List Int):List Int:=if G=0 then (bs.drop (16+(AP bs 12).toNat)).take 32 else AB 32
section
variable {h0 h:H} {A:List Ent} {i j p r b s m:Nat} {C:Cm}
theorem qS{K:Nat->Int->HP}{mm rr jm jr:Nat}{bs:List Int}{q:Option Addr}{l c:Nat}{R:List SR}{L:List Sec}(hg:hc h0 ⟨0,0,none⟩=some GB)(hs:Sat h0 A h)(ci:At A i (AF p C))(cl':At A j (CE r p))(st:At A m (C8 s p r))
  (cr:At A jr (blk rr [.map (some mm)])) (cm:At A jm (EQ mm (R.map SR.ent))) (eR:R.map SR.kv=L) (gd:SR.good R) (rR:∀x,x∈R->∃y,At A y x.sl)
  (rd:∀h',Sat h0 A h'->hsv h' q 1 l (AA .u8 bs)) (hb:AW bs) (hlc:l≤c) (hl:l<2^50)
  (k:∀nb P h',(A6 (AN C L bs) bs).length=32->(AL (AN C L bs) bs).length<2^40->Sat h0 (blk nb (AX (BN (AN C L bs) bs) (BM (AN C L bs) bs) (BJ (AN C L bs) bs) (P,(AL (AN C L bs) bs).length,(AL (AN C L bs) bs).length) (A6 (AN C L bs) bs))::ER P (AL (AN C L bs) bs).length (AL (AN C L bs) bs)::A) h'->K nb (AN C L bs) h'):
  GO ⟨s,0,none⟩ ⟨rr,0,none⟩ q l c (fun i1 i2 i3 o n m l e h=>∀nb h',hnew h nb (.int .i64 0::.int .i64 0::.int .i64 0::.slice none 0 0::AA .u8 (AB 32)) h'->AC h' ⟨nb,0,none⟩ 36/\∀h'',h''=hwr h' ⟨nb,0,none⟩ (.int .i64 i1::.int .i64 i2::.int .i64 i3::.slice o n m::AA .u8 l)->K nb e h'') h:=by
 refine qV (bs:=bs) hg hs ci cl' st cr cm gd (fun x hx h' hs'=>hs'.sv (rR x hx).choose_spec) rd hb hlc hl ?_ ?_
 ·intro e he hne h5 hs
  rw[eR]at he
  subst he
  replace hs:=hs.sl_nil 1 none
  intro n113 _ hn;replace hs:=Sat.new hs hn
  refine⟨Sat.can hs .z (by simp[AB]),?_⟩
  intro h6 e6
  replace hs:=Sat.wra (xs:=AX 0 0 0 (none,0,0) (AB 32)) hs .z e6 rfl
  clear e6
  simp only[AG]at hs
  replace hs:=YA (c:=0) hs zs1
  simp only[AV,AG]at hs
  have e1:BN (AN C L bs) bs=0:=if_neg hne
  have e2:BM (AN C L bs) bs=0:=if_neg hne
  have e3:BJ (AN C L bs) bs=0:=if_neg hne
  have e4:AL (AN C L bs) bs=[]:=if_neg hne
  have e5:A6 (AN C L bs) bs=AB 32:=if_neg hne
  have:=k n113 none h6
  rw[e1,e2,e3,e4,e5]at this
  exact this (DL 32) (by decide) hs
 ·intro own n hz hp hnn hln h5 hs
  rw[eR]at hz
  have tl32:((bs.drop (16+n)).take 32).length=32:=by rw[List.length_take,List.length_drop];omega
  have pl:((bs.drop 16).take n).length=n:=by rw[List.length_take,List.length_drop];omega
  intro n113 _ hn;replace hs:=Sat.new hs hn
  refine⟨Sat.can hs .z (by simp[AB]),?_⟩
  intro h6 e6
  replace hs:=Sat.wra (xs:=AX (bs.getD 5 0) (bs.getD 6 0) (AP bs 8) (AK own.1 16 (16+n) 1,n,n) ((bs.drop (16+n)).take 32)) hs .z e6 (by rw[DS tl32];rfl)
  clear e6
  simp only[AG]at hs
  replace hs:=uB hs zs1 hln
  simp only[AV,AG]at hs
  have en:(AP bs 12).toNat=n:=by omega
  have e1:BN (AN C L bs) bs=bs.getD 5 0:=if_pos hz
  have e2:BM (AN C L bs) bs=bs.getD 6 0:=if_pos hz
  have e3:BJ (AN C L bs) bs=AP bs 8:=if_pos hz
  have e4:AL (AN C L bs) bs=(bs.drop 16).take n:=by rw[←en];exact if_pos hz
  have e5:A6 (AN C L bs) bs=(bs.drop (16+n)).take 32:=by rw[←en];exact if_pos hz
  have:=k n113 (AK own.1 16 (16+n) 1) h6
  rw[e1,e2,e3,e4,e5,hz,pl]at this
  exact this tl32 (by have:=(VC hb hp hnn).2.2.2;omega) hs
end
end Go.Proofs.YteedolonhdbieaaGreatDoor
end
section
namespace Go.Proofs.YteedolonhdbieaaGreatDoor
open Go Go.Vc
set_option maxRecDepth 100000
attribute [local irreducible] BC AN
theorem kR{G:Int}{bs:List Int}(h:G≠0):BN G bs=0/\BM G bs=0/\BJ G bs=0/\AL G bs=[]:=by
 unfold BN BM BJ AL
 rw[if_neg h,if_neg h,if_neg h,if_neg h]
 exact⟨rfl,rfl,rfl,rfl⟩
section
variable {h0 h:H} {A:List Ent} {i j p r b s m:Nat} {C:Cm}
attribute [local irreducible] BN BM BJ AL A6 in
end
end Go.Proofs.YteedolonhdbieaaGreatDoor
end
section
namespace Go.Proofs.YteedolonhdbieaaGreatDoor
open Go Go.Vc
set_option maxRecDepth 1000000
def b26:List Int:=CA 0 0 5 [1,2,3]++BC [7] (CA 0 0 5 [1,2,3])
theorem n26:DT [(0,[7])]=none:=by decide
end Go.Proofs.YteedolonhdbieaaGreatDoor
end
section
namespace Go.Proofs.YteedolonhdbieaaGreatDoor
open Go Go.Vc
set_option maxRecDepth 100000
attribute [local irreducible] BC AN BN BM BJ AL A6 kV
abbrev L9(n:Nat)(c:Cfg):Ent:=blk n [.int .i64 c.cells,.int .i64 c.slots,.int .i64 c.fuses,.int .i64 c.step,.int .i64 c.keys,.int .i64 c.erases,.int .i64 c.area]
section
variable {h0 h:H} {A:List Ent} {i j p r b s m:Nat} {C:Cm}
end
end Go.Proofs.YteedolonhdbieaaGreatDoor
end
section
namespace Go.Proofs.YteedolonhdbieaaGreatDoor
open Go Go.Vc
set_option maxRecDepth 100000
attribute [local irreducible] BC
theorem E2{bs:List Int}{n:Nat}(h:n<bs.length):bs.take (n+1)=bs.take n++[bs.getD n 0]:=by
 rw[List.take_succ,List.getElem?_eq_getElem h,List.getD_eq_getElem?_getD,List.getElem?_eq_getElem h];rfl
theorem Am5{bs:List Int}(h:16≤bs.length):bs.take 16=[bs.getD 0 0,bs.getD 1 0,bs.getD 2 0,bs.getD 3 0,bs.getD 4 0,bs.getD 5 0,bs.getD 6 0,bs.getD 7 0,bs.getD 8 0,bs.getD 9 0,bs.getD 10 0,bs.getD 11 0,bs.getD 12 0,bs.getD 13 0,bs.getD 14 0,bs.getD 15 0]:=by
 rw[E2 (n:=15) (by omega),E2 (n:=14) (by omega),E2 (n:=13) (by omega),E2 (n:=12) (by omega),E2 (n:=11) (by omega),E2 (n:=10) (by omega),E2 (n:=9) (by omega),E2 (n:=8) (by omega),E2 (n:=7) (by omega),E2 (n:=6) (by omega),E2 (n:=5) (by omega),E2 (n:=4) (by omega),E2 (n:=3) (by omega),E2 (n:=2) (by omega),E2 (n:=1) (by omega),E2 (n:=0) (by omega)]
 rfl
theorem qM{bs:List Int}(hb:AW bs)(o:Nat):DQ (AP bs o) 4=[bs.getD o 0,bs.getD (o+1) 0,bs.getD (o+2) 0,bs.getD (o+3) 0]:=by
 have b0:=EC hb o
 have b1:=EC hb (o+1)
 have b2:=EC hb (o+2)
 have b3:=EC hb (o+3)
 unfold A4 at b0 b1 b2 b3
 rw[Ag5]
 unfold AP
 generalize bs.getD o 0=x0 at *
 generalize bs.getD (o+1) 0=x1 at *
 generalize bs.getD (o+2) 0=x2 at *
 generalize bs.getD (o+3) 0=x3 at *
 rw[Int.fdiv_eq_ediv_of_nonneg _ (by decide),Int.fdiv_eq_ediv_of_nonneg _ (by decide),Int.fdiv_eq_ediv_of_nonneg _ (by decide),IntKind.wrap_u8,IntKind.wrap_u8,IntKind.wrap_u8,IntKind.wrap_u8]
 have e1:(x0+256*x1+65536*x2+16777216*x3) % 256=x0:=by omega
 have e2:(x0+256*x1+65536*x2+16777216*x3) / 256 % 256=x1:=by omega
 have e3:(x0+256*x1+65536*x2+16777216*x3) / 65536 % 256=x2:=by omega
 have e4:(x0+256*x1+65536*x2+16777216*x3) / 16777216 % 256=x3:=by omega
 show [(x0+256*x1+65536*x2+16777216*x3) % 256,(x0+256*x1+65536*x2+16777216*x3) / 256 % 256,(x0+256*x1+65536*x2+16777216*x3) / 65536 % 256,(x0+256*x1+65536*x2+16777216*x3) / 16777216 % 256]=_
 rw[e1,e2,e3,e4]
theorem AgZ{bs:List Int}(h:BW bs=(0,0)):DE bs 16 0=none:=by
 unfold BW at h
 by_cases c1:524288<bs.length
 ·rw[if_pos c1]at h;injection h with h;cases h
 rw[if_neg c1]at h
 cases e:DE bs 16 0 with
 | none=>rfl
 | some w=>
  rw[e]at h
  dsimp only at h
  have key:∀m x,DE bs m x=some w->w.1≠0:=by
   intro m
   induction m with
   | zero=>intro x y;cases y
   | succ m ih=>
    intro x y
    unfold DE at y
    by_cases c:x=bs.length
    ·rw[if_pos c]at y;injection y with y;rw[←y];exact (by decide:(6:Int)≠0)
    rw[if_neg c]at y
    by_cases g:D6 x (bs.getD x 0)=true
    ·rw[if_pos g]at y;exact ih _ y
    ·rw[if_neg g]at y;injection y with y;rw[←y];exact (by decide:(5:Int)≠0)
  exact absurd (by rw[h]) (key 16 0 e)
theorem AeW{bs:List Int}(hb:AW bs){n:Nat}(h:BW bs=(0,0))(hn:AP bs 12=n):
  CA (bs.getD 5 0) (bs.getD 6 0) (AP bs 8) ((bs.drop 16).take n)++(bs.drop (16+n)).take 32=bs:=by
 have hl:=(VC hb h hn).1
 have ha:=XB 16 0 (AgZ h)
 have m0:bs.getD 0 0=80:=by have:=ha 0 (by decide) (by decide);simpa[D6,U6]using this
 have m1:bs.getD 1 0=67:=by have:=ha 1 (by decide) (by decide);simpa[D6,U6]using this
 have m2:bs.getD 2 0=85:=by have:=ha 2 (by decide) (by decide);simpa[D6,U6]using this
 have m3:bs.getD 3 0=76:=by have:=ha 3 (by decide) (by decide);simpa[D6,U6]using this
 have m4:bs.getD 4 0=1:=by have:=ha 4 (by decide) (by decide);simpa[D6]using this
 have m7:bs.getD 7 0=0:=by have:=ha 7 (by decide) (by decide);simpa[D6]using this
 have b5:=EC hb 5
 have b6:=EC hb 6
 unfold A4 at b5 b6
 have pl:((bs.drop 16).take n).length=n:=by rw[List.length_take,List.length_drop];omega
 have e16:[80,67,85,76,1,IntKind.u8.wrap (bs.getD 5 0),IntKind.u8.wrap (bs.getD 6 0),0]++DQ (AP bs 8) 4++DQ (((bs.drop 16).take n).length:Int) 4=bs.take 16:=by
  rw[pl,←hn,qM hb,qM hb,Am5 (by omega),m0,m1,m2,m3,m4,m7,lC (by omega),lC (by omega)]
  rfl
 have e1:CA (bs.getD 5 0) (bs.getD 6 0) (AP bs 8) ((bs.drop 16).take n)=bs.take 16++(bs.drop 16).take n:=by
  unfold CA
  rw[e16]
 rw[e1]
 rw[show (bs.drop (16+n)).take 32=(bs.drop 16).drop n from by rw[List.drop_drop,List.take_of_length_le (by rw[List.length_drop];omega)],List.append_assoc,List.take_append_drop,List.take_append_drop]
end Go.Proofs.YteedolonhdbieaaGreatDoor
end
section
namespace Go.Proofs.YteedolonhdbieaaGreatDoor
open Go Go.Vc
set_option maxRecDepth 100000
attribute [local irreducible] BC AN BN BM BJ AL A6
abbrev Ev:=List Int×Int
theorem FC(p:Option Addr)(m sz:Nat):AK p 0 m sz=p:=by
 unfold AK
 split
 ·rfl
 ·cases p with
  | none=>rfl
  | some a=>simp[Addr.add]
structure Rm where
 handed:Bool
 slot:Int
 ver:Int
 evs:List Ev
 own:List Int
structure RW where
 lo:Nat
 ev:Nat
 eo:Option Addr
 ec:Nat
 own:Sl
section
variable {h0 h:H} {A:List Ent} {i j p r b s m:Nat} {C:Cm}
end
end Go.Proofs.YteedolonhdbieaaGreatDoor
end
section
namespace Go.Proofs.YteedolonhdbieaaGreatDoor
open Go Go.Vc
set_option maxRecDepth 100000
attribute [local irreducible] BC AN BN BM BJ AL A6
theorem j6{bs:List Int}(h:(BW bs).1=0):BW bs=(0,0):=by
 unfold BW at h ⊢
 by_cases c1:524288<bs.length
 ·rw[if_pos c1]at h;exact absurd h (by decide)
 rw[if_neg c1]at h ⊢
 cases e:DE bs 16 0 with
 | some w=>
  rw[e]at h
  rcases rI _ _ _ e with y | y
  ·dsimp only at h;rw[y]at h;exact absurd h (by decide)
  ·dsimp only at h;rw[y]at h;exact absurd h (by decide)
 | none=>
  rw[e]at h
  dsimp only at h ⊢
  by_cases g1:(524240:Int)<AP bs 12
  ·rw[if_pos g1]at h;exact absurd (show (5:Int)=0 from h) (by decide)
  rw[if_neg g1]at h ⊢
  by_cases g2:(bs.length:Int)<48+AP bs 12
  ·rw[if_pos g2]at h;exact absurd (show (6:Int)=0 from h) (by decide)
  rw[if_neg g2]at h ⊢
  by_cases g3:48+AP bs 12<(bs.length:Int)
  ·rw[if_pos g3]at h;exact absurd (show (7:Int)=0 from h) (by decide)
  rw[if_neg g3]
theorem AgI{C:Cm}{L:List Sec}{bs:List Int}(ho:C.out=false)(hb:AW bs)(h:AN C L bs=0):∃n:Nat,BW bs=(0,0)/\AP bs 12=n:=by
 have hp:(BW bs).1=0:=by
  by_cases c:(BW bs).1=0
  ·exact c
  ·rw[qU ho c]at h;exact absurd h c
 have:=(U8 hb 12).1
 exact⟨(AP bs 12).toNat,j6 hp,by omega⟩
section
variable {h0 h:H} {A:List Ent} {i j p r b s m:Nat} {C:Cm}
theorem qT{K:Int->HP}{mm rr jm jr nb:Nat}{bs:List Int}{q:Option Addr}{l c:Nat}{R:List SR}{L:List Sec}(hg:hc h0 ⟨0,0,none⟩=some GB)(hs:Sat h0 (blk nb (AX 0 0 0 (none,0,0) (AB 32))::A) h)(ci:At A i (AF p C))(cl':At A j (CE r p))(st:At A m (C8 s p r))
  (cr:At A jr (blk rr [.map (some mm)])) (cm:At A jm (EQ mm (R.map SR.ent))) (eR:R.map SR.kv=L) (gd:SR.good R) (rR:∀x,x∈R->∃y,At A y x.sl)
  (rd:∀B h',Sat h0 (B++A) h'->hsv h' q 1 l (AA .u8 bs)) (hb:AW bs) (hlc:l≤c) (hl:l<2^50)
  (k:∀P h',(A6 (AN C L bs) bs).length=32->(AL (AN C L bs) bs).length<2^40->Sat h0 (blk nb (AX (BN (AN C L bs) bs) (BM (AN C L bs) bs) (BJ (AN C L bs) bs) (P,(AL (AN C L bs) bs).length,(AL (AN C L bs) bs).length) (A6 (AN C L bs) bs))::ER P (AL (AN C L bs) bs).length (AL (AN C L bs) bs)::A) h'->K (AN C L bs) h'):
  GO ⟨s,0,none⟩ ⟨rr,0,none⟩ q l c (fun i1 i2 i3 o n m l e h=>AC h ⟨nb,0,none⟩ 36/\∀h'',h''=hwr h ⟨nb,0,none⟩ (.int .i64 i1::.int .i64 i2::.int .i64 i3::.slice o n m::AA .u8 l)->K e h'') h:=by
 refine qV (bs:=bs) hg hs ci.s cl'.s st.s cr.s cm.s gd (fun x hx h' hs'=>hs'.sv (rR x hx).choose_spec.s) (fun h' hs'=>rd [_] h' hs') hb hlc hl ?_ ?_
 ·intro e he hne h5 hs
  rw[eR]at he
  subst he
  replace hs:=(hs.sl_nil 1 none).perm (List.Perm.swap _ _ _)
  refine⟨Sat.can hs .z (by simp[AB]),?_⟩
  intro h6 e6
  replace hs:=Sat.wra (xs:=AX 0 0 0 (none,0,0) (AB 32)) hs .z e6 rfl
  clear e6
  simp only[AG]at hs
  replace hs:=YA (c:=0) hs zs1
  simp only[AV,AG]at hs
  obtain⟨e1,e2,e3,e4⟩:=kR (bs:=bs) hne
  have e5:A6 (AN C L bs) bs=AB 32:=by unfold A6;rw[if_neg hne]
  have:=k none h6
  rw[e1,e2,e3,e4,e5]at this
  exact this (DL 32) (by decide) hs
 ·intro own n hz hp hnn hln h5 hs
  rw[eR]at hz
  have tl32:((bs.drop (16+n)).take 32).length=32:=by rw[List.length_take,List.length_drop];omega
  have pl:((bs.drop 16).take n).length=n:=by rw[List.length_take,List.length_drop];omega
  replace hs:=hs.perm (List.Perm.swap _ _ _)
  refine⟨Sat.can hs .z (by simp[AB]),?_⟩
  intro h6 e6
  replace hs:=Sat.wra (xs:=AX (bs.getD 5 0) (bs.getD 6 0) (AP bs 8) (AK own.1 16 (16+n) 1,n,n) ((bs.drop (16+n)).take 32)) hs .z e6 (by rw[DS tl32];rfl)
  clear e6
  simp only[AG]at hs
  replace hs:=uB hs zs1 hln
  simp only[AV,AG]at hs
  have en:(AP bs 12).toNat=n:=by omega
  have e1:BN (AN C L bs) bs=bs.getD 5 0:=by unfold BN;rw[if_pos hz]
  have e2:BM (AN C L bs) bs=bs.getD 6 0:=by unfold BM;rw[if_pos hz]
  have e3:BJ (AN C L bs) bs=AP bs 8:=by unfold BJ;rw[if_pos hz]
  have e4:AL (AN C L bs) bs=(bs.drop 16).take n:=by unfold AL;rw[if_pos hz,en]
  have e5:A6 (AN C L bs) bs=(bs.drop (16+n)).take 32:=by unfold A6;rw[if_pos hz,en]
  have:=k (AK own.1 16 (16+n) 1) h6
  rw[e1,e2,e3,e4,e5,hz,pl]at this
  exact this tl32 (by have:=(VC hb hp hnn).2.2.2;omega) hs
end
end Go.Proofs.YteedolonhdbieaaGreatDoor
end
section
namespace Go.Proofs.YteedolonhdbieaaGreatDoor
open Go Go.Vc
set_option maxRecDepth 100000
attribute [local irreducible] BC AN BN BM BJ AL A6
/-! ### Objects that are no cells -/
@[irreducible] def U9(k:Nat)(o:Obj)(h:H)(f:Nat->Prop):Prop:=h[k]?=some o/\∀x,f x↔x=k
def HW(k:Nat)(o:Obj):Ent where
 tag:=.of 8
 P:=U9 k o
 st:=by unfold U9;rintro h h' f ⟨a,e⟩ hs;exact⟨by rw[hs k ((e k).2 rfl)];exact a,e⟩
 lt:=by unfold U9;rintro h f x ⟨a,e⟩ hx;rw[(e x).1 hx];exact (Array.getElem?_eq_some_iff.1 a).1
theorem objE_P{k:Nat}{o:Obj}{h:H}{f:Nat->Prop}:(HW k o).P h f↔h[k]?=some o/\∀x,f x↔x=k:=by
 show U9 k o h f↔_;unfold U9;rfl
theorem tP{h0 h:H}{A:List Ent}(hs:Sat h0 A h)(o:Obj):Sat h0 (HW (BE h) o::A) (EX h o):=by
 refine hs.add (h':=EX h o) ⟨by unfold EX;simp,fun b hb _=>by unfold EX;rw[Array.getElem?_push,if_neg (by omega)]⟩ (e:=HW (BE h) o) (f:=fun x=>x=BE h) (objE_P.2 ⟨by unfold EX BE;simp,fun _=>Iff.rfl⟩) ?_
 intro b hb;rw[hb];exact Nat.le_refl _
theorem MR{h0 h:H}{A:List Ent}{i k:Nat}{o:Obj}(hs:Sat h0 A h)(a:At A i (HW k o)):C2 h k o:=by
 obtain⟨f,hp,_⟩:=hs.take a
 exact (objE_P.1 hp).1
theorem IU{h0 h h':H}{A:List Ent}{i k:Nat}{o:Obj}(hs:Sat h0 A h)(a:At A i (HW k o))(o':Obj)(e:h'=A3 h k o'):Sat h0 (put A i (HW k o')) h':=by
 subst e
 refine hs.upd a fun f hp=>?_
 obtain⟨x,y⟩:=objE_P.1 hp
 have hk:=(Array.getElem?_eq_some_iff.1 x).1
 refine⟨f,objE_P.2 ⟨by unfold A3;rw[Array.getElem?_setIfInBounds_self_of_lt hk],y⟩,fun _=>Or.inl,by unfold A3;simp,fun b hb nb=>?_⟩
 unfold A3
 rw[Array.getElem?_setIfInBounds,if_neg (fun z=>nb ((y b).2 z.symm))]
theorem AiZ{h0 h h':H}{A:List Ent}(hs:Sat h0 A h){x y z:Obj}(e:h'=A3 (EX (EX h x) y) (BE h+1) z):Sat h0 (HW (BE h+1) z::HW (BE h) x::A) h':=by
 have h1:=tP (tP hs x) y
 have hz:BE (EX h x)=BE h+1:=by unfold BE EX;simp
 rw[hz]at h1
 exact IU (i:=0) h1 .z z e
/-! ### What a gate needs -/
def atN(A:List Ent)(i:Nat)(e:Ent):Prop:=∃j,j≠i/\At A j e
theorem atN.s{A:List Ent}{i:Nat}{e:Ent}(a:atN A i e){x:Ent}:atN (x::A) (i+1) e:=by
 obtain⟨j,h,a⟩:=a;exact⟨j+1,by omega,a.s⟩
theorem atN.put{A:List Ent}{i:Nat}{e:Ent}(a:atN A i e)(x:Ent):atN (put A i x) i e:=by
 obtain⟨j,h,a⟩:=a;exact⟨j,h,a.put_ne h x⟩
structure Gx (A:List Ent) (i p:Nat) (C:Cm) (lg st rr:Nat) (R:List SR) (L:List Sec):Prop where
 ci:At A i (AF p C)
 cl:atN A i (CE lg p)
 cs:atN A i (C8 st p lg)
 cr:∃mm,atN A i (blk rr [.map (some mm)])/\atN A i (EQ mm (R.map SR.ent))
 rR:∀x,x∈R->atN A i x.sl
 eR:R.map SR.kv=L
 gd:SR.good R
theorem Gx.s{A:List Ent}{i p:Nat}{C:Cm}{lg st rr:Nat}{R:List SR}{L:List Sec}(g:Gx A i p C lg st rr R L){x:Ent}:Gx (x::A) (i+1) p C lg st rr R L:=
 ⟨g.ci.s,g.cl.s,g.cs.s,by obtain⟨mm,a,b⟩:=g.cr;exact⟨mm,a.s,b.s⟩,fun x hx=>(g.rR x hx).s,g.eR,g.gd⟩
theorem Gx.put{A:List Ent}{i p:Nat}{C:Cm}{lg st rr:Nat}{R:List SR}{L:List Sec}(g:Gx A i p C lg st rr R L)(D:Cm):Gx (put A i (AF p D)) i p D lg st rr R L:=
 ⟨g.ci.put _,g.cl.put _,g.cs.put _,by obtain⟨mm,a,b⟩:=g.cr;exact⟨mm,a.put _,b.put _⟩,fun x hx=>(g.rR x hx).put _,g.eR,g.gd⟩
/-! ### What is told -/
def sG(C:Cm)(L:List Sec)(ar:Int):Int:=if (AJ C ar).2=0 then AN C L (AJ C ar).1 else 1
theorem YN(C:Cm)(L:List Sec)(ar:Int):(sG C L ar == 0)=B6 C L ar:=by
 unfold sG B6
 by_cases e:(AJ C ar).2=0
 ·rw[if_pos e,e];simp
 ·rw[if_neg e,beq_eq_false_iff_ne.2 e];rfl
def BO(C:Cm)(L:List Sec):Int:=if C.out=true then 8 else match A5 C L with
 | some _=>0
 | none=>17
def BY(C:Cm)(L:List Sec):List Int:=match A5 C L with
 | some a=>(AJ C a).1
 | none=>[]
def DF(C:Cm)(L:List Sec):Int:=if C.out=true then 0 else match A5 C L with
 | some a=>a
 | none=>0
theorem WK{C:Cm}(ok:C.ok)(ar:Int):AW (AJ C ar).1:=by
 have hall:AW (BG C ar):=WJ ok ar _
 have nil:AW []:=fun v hv=>by cases hv
 unfold AJ
 split
 ·exact nil
 split
 ·exact nil
 split
 ·exact nil
 split
 ·exact nil
 ·exact fun v hv=>hall v (List.mem_of_mem_take hv)
theorem AdD{C:Cm}(ok:C.ok)(ar:Int):(AJ C ar).1.length≤2^20:=by
 have hall:(BG C ar).length≤2^20:=by
  unfold BG;rw[T6 ok]
  have h1:C.cfg.area.toNat≤64:=by have:=ok.may.area;omega
  have h2:C.cfg.cells.toNat≤256:=by have:=ok.may.cells;omega
  have:=Nat.mul_le_mul h1 h2
  omega
 have nil:([]:List Int).length≤2^20:=by decide
 unfold AJ
 split
 ·exact nil
 split
 ·exact nil
 split
 ·exact nil
 split
 ·exact nil
 ·exact Nat.le_trans (List.length_take_le' _ _) hall
theorem vQ{G:Int}{bs:List Int}(h:G≠0):A6 G bs=AB 32:=by unfold A6;rw[if_neg h]
section
variable {h0 h:H} {A:List Ent} {i j p r b s m:Nat} {C:Cm}
theorem rN{Q:Int->Int->Int->Option Addr->Nat->Nat->List Int->Bool->HP}{lg st rr lo z:Nat}{R:List SR}{L:List Sec}(hg:hc h0 ⟨0,0,none⟩=some GB)(hs:Sat h0 A h)(ok:C.ok)
  (g:Gx A i p C lg st rr R L) (al:At A z (blk lo [.pointer (some ⟨p,0,none⟩),.pointer (some ⟨st,0,none⟩),.pointer (some ⟨rr,0,none⟩)])) (ar:Int)
  (k:∀P h',(A6 (sG C L ar) (AJ C ar).1).length=32->(AL (sG C L ar) (AJ C ar).1).length<2^40->Sat h0 (ER P (AL (sG C L ar) (AJ C ar).1).length (AL (sG C L ar) (AJ C ar).1)::A) h'->
   Q (BN (sG C L ar) (AJ C ar).1) (BM (sG C L ar) (AJ C ar).1) (BJ (sG C L ar) (AJ C ar).1) P (AL (sG C L ar) (AJ C ar).1).length (AL (sG C L ar) (AJ C ar).1).length (A6 (sG C L ar) (AJ C ar).1) (sG C L ar == 0) h'):LU ⟨lo,0,none⟩ ar Q h:=by
 unfold LU cK
 try simp only[AI,Nat.zero_add,List.append_nil]
 intro n6 _ hn;replace hs:=Sat.new hs hn
 replace hs:Sat h0 (blk n6 (AX 0 0 0 (none,0,0) (AB 32))::A) _:=hs
 refine⟨_,hs.ld (i:=z+1) al.s rfl,_,rfl,?_⟩
 refine Ad3 hs g.ci.s ar ?_ ?_
 ·intro ne h1 hs
  rw[if_pos (by simpa using ne)]
  refine⟨Sat.can hs .z (by simp[AB]),?_⟩
  intro h2 e2
  replace hs:=Sat.wra (xs:=AX 0 0 0 (none,0,0) (AB 32)) hs .z e2 rfl
  clear e2
  simp only[AG]at hs
  have hG:sG C L ar≠0:=by unfold sG;rw[if_neg ne];decide
  obtain⟨e1,e2,e3,e4⟩:=kR (bs:=(AJ C ar).1) hG
  refine⟨_,hs.ld .z rfl,_,hs.ld .z rfl,_,hs.ld .z rfl,_,_,_,hs.ld .z rfl,_,DL 32,CM hs .z (DL 32),?_⟩
  have k:=k none h2
  rw[e1,e2,e3,e4,vQ hG,beq_eq_false_iff_ne.2 hG]at k
  have hs:=YA (c:=0) ((hs.drop).sl_nil 1 none) .z
  exact k (DL 32) (by decide) hs
 ·intro ez o n h1 hn hl hs
  rw[if_neg (by decide)]
  have hb:AW (AJ C ar).1:=WK ok ar
  have hl5:n<2^50:=by have:=AdD ok ar;omega
  have hG:sG C L ar=AN C L (AJ C ar).1:=by unfold sG;rw[if_pos ez]
  rw[hG]at k
  obtain⟨mm,⟨_,_,cr⟩,_,_,cm⟩:=g.cr
  obtain⟨_,_,cl⟩:=g.cl
  obtain⟨_,_,cs⟩:=g.cs
  refine⟨_,hs.ld (i:=z+2) al.s.s rfl,_,hs.ld (i:=z+2) al.s.s rfl,⟨_,rfl,_,rfl,?_⟩,?_⟩
  ·refine qS (L:=L) (bs:=(AJ C ar).1) hg hs g.ci.s.s cl.s.s cs.s.s cr.s.s cm.s.s g.eR g.gd (fun x hx=>⟨_,(g.rR x hx).choose_spec.2.s.s⟩) (fun h' hs'=>hs'.sv .z) hb (Nat.le_refl _) hl5 ?_
   intro nb P h2 tl pl hs
   refine⟨_,hs.ld .z rfl,_,hs.ld .z rfl,_,hs.ld .z rfl,_,_,_,hs.ld .z rfl,_,tl,CM hs .z tl,Sat.can hs zs3 (by simp[AB]),?_⟩
   intro h5 e5
   replace hs:=Sat.wra (xs:=AX (BN (AN C L (AJ C ar).1) (AJ C ar).1) (BM (AN C L (AJ C ar).1) (AJ C ar).1) (BJ (AN C L (AJ C ar).1) (AJ C ar).1) (P,(AL (AN C L (AJ C ar).1) (AJ C ar).1).length,(AL (AN C L (AJ C ar).1) (AJ C ar).1).length) (A6 (AN C L (AJ C ar).1) (AJ C ar).1)) hs zs3 e5 (by rw[DS tl,DS (DL 32)])
   clear e5
   simp only[AV,AG]at hs
   refine⟨_,hs.ld zs3 rfl,_,hs.ld zs3 rfl,_,hs.ld zs3 rfl,_,_,_,hs.ld zs3 rfl,_,tl,CM hs zs3 tl,?_⟩
   exact k P h5 tl pl (hs.drop.sub (List.Sublist.cons_cons _ ((List.sublist_cons_self _ _).trans (List.sublist_cons_self _ _))))
  ·intro n59 _ hn;replace hs:=Sat.new hs hn
   refine⟨AH (hs.ld (i:=z+3) al.s.s.s rfl),AH (hs.ld (i:=z+3) al.s.s.s rfl),_,rfl,_,rfl,?_⟩
   refine qT (L:=L) (bs:=(AJ C ar).1) hg hs g.ci.s.s cl.s.s cs.s.s cr.s.s cm.s.s g.eR g.gd (fun x hx=>⟨_,(g.rR x hx).choose_spec.2.s.s⟩) (fun B h' hs'=>(hs'.sub (List.sublist_append_right B _)).sv .z) hb (Nat.le_refl _) hl5 ?_
   intro P h2 tl pl hs
   refine⟨_,hs.ld .z rfl,_,hs.ld .z rfl,_,hs.ld .z rfl,_,_,_,hs.ld .z rfl,_,tl,CM hs .z tl,Sat.can hs zs3 (by simp[AB]),?_⟩
   intro h5 e5
   replace hs:=Sat.wra (xs:=AX (BN (AN C L (AJ C ar).1) (AJ C ar).1) (BM (AN C L (AJ C ar).1) (AJ C ar).1) (BJ (AN C L (AJ C ar).1) (AJ C ar).1) (P,(AL (AN C L (AJ C ar).1) (AJ C ar).1).length,(AL (AN C L (AJ C ar).1) (AJ C ar).1).length) (A6 (AN C L (AJ C ar).1) (AJ C ar).1)) hs zs3 e5 (by rw[DS tl,DS (DL 32)])
   clear e5
   simp only[AV,AG]at hs
   refine⟨_,hs.ld zs3 rfl,_,hs.ld zs3 rfl,_,hs.ld zs3 rfl,_,_,_,hs.ld zs3 rfl,_,tl,CM hs zs3 tl,?_⟩
   exact k P h5 tl pl (hs.drop.sub (List.Sublist.cons_cons _ ((List.sublist_cons_self _ _).trans (List.sublist_cons_self _ _))))
end
end Go.Proofs.YteedolonhdbieaaGreatDoor
end
section
namespace Go.Proofs.YteedolonhdbieaaGreatDoor
open Go Go.Vc
set_option maxRecDepth 100000
attribute [local irreducible] BC AN BN BM BJ AL A6 B6 sG
theorem oQ{C:Cm}(ok:C.ok):0≤(C4 C).1/\(C4 C).1≤BA:=by
 unfold C4 HV
 split
 ·exact⟨by decide,by decide⟩
 split
 ·exact⟨by decide,by decide⟩
 ·exact (KA ok).nums _
theorem UN(C:Cm):AR C=0∨AR C=1:=by unfold AR;omega
theorem kP{C:Cm}{L:List Sec}{a:Int}(h:A5 C L=some a):a=0∨a=1:=by
 have:=UN C
 unfold A5 at h
 split at h
 ·injection h with h;omega
 split at h
 ·injection h with h;omega
 ·cases h
section
variable {h0 h:H} {A:List Ent} {i j p r b s m:Nat} {C:Cm}
theorem XG{a b' v:Int}{x:Sl}{t:List Int}{K:Int->Int->Int->Option Addr->Nat->Nat->List Int->Prop}(hs:Sat h0 A h)(m:At A i (blk b (AX a b' v x t)))(ht:t.length=32)(k:K a b' v x.1 x.2.1 x.2.2 t):
  ∃i1:Int,hc h ⟨b,0,none⟩=some (.int .i64 i1)/\∃i2:Int,hc h ⟨b,1,none⟩=some (.int .i64 i2)/\∃i3:Int,hc h ⟨b,2,none⟩=some (.int .i64 i3)/\∃(o:Option Addr) (n c:Nat),hc h ⟨b,3,none⟩=some (.slice o n c)/\∃l:List Int,l.length=32/\hrow h ⟨b,4,none⟩ .u8 l/\K i1 i2 i3 o n c l:=
 ⟨_,hs.ld m rfl,_,hs.ld m rfl,_,hs.ld m rfl,_,_,_,hs.ld m rfl,_,ht,CM hs m ht,k⟩
theorem wO{Q:Int->Int->Int->Option Addr->Nat->Nat->List Int->Int->Int->HP}{n6 n9 n12 n15 n60 d:Nat}{v6 v12 v15:Value}{a b' v ar:Int}{x:Sl}{t:List Int}{z:Ent}{oD oB:Obj}(ht:t.length=32)
  (hs:Sat h0 (blk n60 (AX a b' v x t)::z::HW (d+1) oB::HW d oD::blk n15 [v15]::blk n12 [v12]::blk n9 (AX 0 0 0 (none,0,0) (AB 32))::blk n6 [v6]::A) h)
  (k:∀h',Sat h0 (z::A) h'->Q a b' v x.1 x.2.1 x.2.2 t ar 0 h'):
  ∃(i65:Int),hc h (Addr.mk n60 0 none)=some (Value.int IntKind.i64 i65)/\∃(i66:Int),hc h (Addr.mk n60 1 none)=some (Value.int IntKind.i64 i66)/\∃(i67:Int),hc h (Addr.mk n60 2 none)=some (Value.int IntKind.i64 i67)/\∃(o68:Option Addr),∃
     (n69:Nat),∃(n70:Nat),hc h (Addr.mk n60 3 none)=some (Value.slice o68 n69 n70)/\∃(l71:List Int),l71.length=32/\hrow h (Addr.mk n60 4 none) IntKind.u8 l71/\AC h (Addr.mk n9 0 none) 36/\∀(h72:H),h72=hwr h (Addr.mk n9 0 none) (Value.int IntKind.i64 i65::Value.int IntKind.i64 i66::Value.int
     IntKind.i64 i67::Value.slice o68 n69 n70::AA IntKind.u8 l71)->AC h72 (Addr.mk n12 0 none) 1/\∀(h74:H),h74=hwr h72 (Addr.mk n12 0 none) [Value.int IntKind.i64 ar]->AC h74 (Addr.mk n15 0 none) 1/\∀(h76:H),h76=hwr h74 (Addr.mk n15 0 none) [Value.int IntKind.i64
     0]->C2 h76 d oD/\C2 h76 (d+1) oB/\∀(x78 x79 x80:Obj) (h81:H),h81=A3 (A3 (A3 h76 (d+1) x78) (d+1) x79) d x80->∃(i83:Int),hc h81 (Addr.mk n9 0 none)=some (Value.int IntKind.i64 i83)/\∃(i84:Int),hc h81 (Addr.mk n9 1 none)
     = some (Value.int IntKind.i64 i84)/\∃(i85:Int),hc h81 (Addr.mk n9 2 none)=some (Value.int IntKind.i64 i85)/\∃(o86:Option Addr),∃
     (n87:Nat),∃(n88:Nat),hc h81 (Addr.mk n9 3 none)=some (Value.slice o86 n87 n88)/\∃(l89:List Int),l89.length=32/\hrow h81 (Addr.mk
     n9 4 none) IntKind.u8 l89/\∃(i90:Int),hc h81 (Addr.mk n12 0 none)=some (Value.int IntKind.i64 i90)/\∃(i91:Int),hc h81 (Addr.mk n15 0
     none)=some (Value.int IntKind.i64 i91)/\Q i83 i84 i85 o86 n87 n88 l89 i90 i91 h81:=by
 refine XG hs .z ht ?_
 refine⟨Sat.can hs zs6 (by simp[AB]),?_⟩
 intro h1 e1
 replace hs:=Sat.wra (xs:=AX a b' v x t) hs zs6 e1 (by rw[DS ht,DS (DL 32)])
 clear e1;simp only[AV,AG]at hs
 refine⟨Sat.can hs zs5 (by simp),?_⟩
 intro h2 e2
 replace hs:=Sat.wra (xs:=[.int .i64 ar]) hs zs5 e2 rfl
 clear e2;simp only[AV,AG]at hs
 refine⟨Sat.can hs zs4 (by simp),?_⟩
 intro h3 e3
 replace hs:=Sat.wra (xs:=[.int .i64 0]) hs zs4 e3 rfl
 clear e3;simp only[AV,AG]at hs
 refine⟨MR hs zs3,MR hs zs2,?_⟩
 intro x1 x2 x3 h4 e4
 subst e4
 replace hs:=IU (i:=2) hs zs2 x1 rfl
 simp only[AV,AG]at hs
 replace hs:=IU (i:=2) hs zs2 x2 rfl
 simp only[AV,AG]at hs
 replace hs:=IU (i:=3) hs zs3 x3 rfl
 simp only[AV,AG]at hs
 refine XG hs zs6 ht ?_
 refine⟨_,hs.ld zs5 rfl,_,hs.ld zs4 rfl,?_⟩
 refine k _ (hs.drop.sub (List.Sublist.cons_cons _ ?_))
 exact (List.sublist_cons_self _ _).trans ((List.sublist_cons_self _ _).trans ((List.sublist_cons_self _ _).trans ((List.sublist_cons_self _ _).trans ((List.sublist_cons_self _ _).trans (List.sublist_cons_self _ _)))))
theorem T2{Q:Int->Int->Int->Option Addr->Nat->Nat->List Int->Int->Int->HP}{lg st rr lo z:Nat}{R:List SR}{L:List Sec}(hg:hc h0 ⟨0,0,none⟩=some GB)(hs:Sat h0 A h)(ok:C.ok)
  (g:Gx A i p C lg st rr R L) (al:At A z (blk lo [.pointer (some ⟨p,0,none⟩),.pointer (some ⟨st,0,none⟩),.pointer (some ⟨rr,0,none⟩)]))
  (k:∀P h',(A6 (BO C L) (BY C L)).length=32->(AL (BO C L) (BY C L)).length<2^40->Sat h0 (ER P (AL (BO C L) (BY C L)).length (AL (BO C L) (BY C L))::A) h'->
   Q (BN (BO C L) (BY C L)) (BM (BO C L) (BY C L)) (BJ (BO C L) (BY C L)) P (AL (BO C L) (BY C L)).length (AL (BO C L) (BY C L)).length (A6 (BO C L) (BY C L)) (DF C L) (BO C L) h'):IP ⟨lo,0,none⟩ Q h:=by
 unfold IP iX
 try simp only[AI,Nat.zero_add,List.append_nil]
 intro n6 _ hn;replace hs:=Sat.new hs hn
 intro n9 _ hn;replace hs:=Sat.new hs hn
 intro n12 _ hn;replace hs:=Sat.new hs hn
 intro n15 _ hn;replace hs:=Sat.new hs hn
 replace hs:Sat h0 (blk n15 [.int .i64 0]::blk n12 [.int .i64 0]::blk n9 (AX 0 0 0 (none,0,0) (AB 32))::blk n6 [.pointer (some ⟨lo,0,none⟩)]::A) _:=hs
 refine⟨_,hs.ld zs3 rfl,_,rfl,?_⟩
 refine⟨_,hs.ld (i:=z+4) al.s.s.s.s rfl,_,rfl,?_⟩
 obtain⟨_,_,cl⟩:=g.cl
 obtain⟨_,_,cs⟩:=g.cs
 refine YM hs g.ci.s.s.s.s cl.s.s.s.s cs.s.s.s.s ?_
 intro h1 hs
 have kz:BO C L≠0->DF C L=0->∀e h',e=BO C L->Sat h0 A h'->Q 0 0 0 none 0 0 (AB 32) 0 e h':=by
  intro ne en e h' he hs'
  obtain⟨e1,e2,e3,e4⟩:=kR (bs:=BY C L) ne
  have k:=k none h'
  rw[e1,e2,e3,e4,vQ ne,en]at k
  rw[he]
  exact k (DL 32) (by decide) (YA (c:=0) (hs'.sl_nil 1 none) .z)
 rw[kH ok]
 by_cases ho:C.out=true
 ·rw[if_pos ho,if_pos (by decide)]
  refine⟨Sat.can hs zs2 (by simp[AB]),?_⟩
  intro h2 e2
  replace hs:=Sat.wra (xs:=AX 0 0 0 (none,0,0) (AB 32)) hs zs2 e2 rfl
  clear e2;simp only[AV,AG]at hs
  refine⟨Sat.can hs zs1 (by simp),?_⟩
  intro h2 e2
  replace hs:=Sat.wra (xs:=[.int .i64 0]) hs zs1 e2 rfl
  clear e2;simp only[AV,AG]at hs
  refine⟨Sat.can hs .z (by simp),?_⟩
  intro h3 e3
  replace hs:=Sat.wra (xs:=[.int .i64 8]) hs .z e3 rfl
  clear e3;simp only[AV,AG]at hs
  refine XG hs zs2 (DL 32) ?_
  refine⟨_,hs.ld zs1 rfl,_,hs.ld .z rfl,?_⟩
  have eG:BO C L=8:=by unfold BO;rw[if_pos ho]
  exact kz (by rw[eG];decide) (by unfold DF;rw[if_pos ho]) _ _ eG.symm hs.drop.drop.drop.drop
 rw[if_neg ho,if_neg (by decide)]
 obtain⟨r1,r2⟩:=oQ ok
 have hf:(C4 C).1.tmod 2=AR C:=by unfold AR;rw[Int.tmod_eq_emod_of_nonneg r1]
 have f01:=UN C
 have hw:IntKind.i64.wrap (1-AR C)=1-AR C:=by rcases f01 with y | y <;> rw[y] <;> decide
 unfold N5 cM
 intro n3 _ hn;replace hs:=Sat.new hs hn
 refine⟨_,rfl,_,hs.ld .z rfl,?_⟩
 rw[hf,hw]
 intro x44 x45 x46 h47 e47
 replace hs:=AiZ hs e47
 generalize BE _=d at hs ⊢
 clear e47
 replace hs:=hs.sub (List.Sublist.cons_cons _ (List.Sublist.cons_cons _ (List.sublist_cons_self _ _)))
 refine⟨_,hs.ld zs5 rfl,_,rfl,?_⟩
 refine rN (L:=L) hg hs ok g.s.s.s.s.s.s (z:=z+6) al.s.s.s.s.s.s (AR C) ?_
 intro P h2 tl pl hs
 intro n60 _ hn;replace hs:=Sat.new hs hn
 refine⟨Sat.can hs .z (by simp[AB]),?_⟩
 intro h3 e3
 replace hs:=Sat.wra (xs:=AX (BN (sG C L (AR C)) (AJ C (AR C)).1) (BM (sG C L (AR C)) (AJ C (AR C)).1) (BJ (sG C L (AR C)) (AJ C (AR C)).1) (P,(AL (sG C L (AR C)) (AJ C (AR C)).1).length,(AL (sG C L (AR C)) (AJ C (AR C)).1).length) (A6 (sG C L (AR C)) (AJ C (AR C)).1)) hs .z e3 (by rw[DS tl];rfl)
 clear e3;simp only[AG]at hs
 rw[YN]
 by_cases c1:B6 C L (AR C)=true
 ·rw[if_pos c1]
  have ez:sG C L (AR C)=0:=by have:=YN C L (AR C);rw[c1]at this;simpa using this
  have ea:A5 C L=some (AR C):=by unfold A5;rw[if_pos c1]
  have eG:BO C L=0:=by unfold BO;rw[if_neg ho,ea]
  have eB:BY C L=(AJ C (AR C)).1:=by unfold BY;rw[ea]
  have eN:DF C L=AR C:=by unfold DF;rw[if_neg ho,ea]
  rw[eG,eB,eN]at k
  rw[ez]at hs tl pl
  exact wO tl hs (fun h' hs'=>k P h' tl pl hs')
 rw[if_neg c1]
 refine⟨MR hs zs3,MR hs zs2,?_⟩
 intro x92 x93 h94 e94
 subst e94
 replace hs:=IU (i:=2) hs zs2 x92 rfl
 simp only[AV,AG]at hs
 replace hs:=IU (i:=2) hs zs2 x93 rfl
 simp only[AV,AG]at hs
 replace hs:=hs.drop.drop
 clear tl pl
 refine⟨_,hs.ld zs5 rfl,_,rfl,?_⟩
 refine rN (L:=L) hg hs ok g.s.s.s.s.s.s (z:=z+6) al.s.s.s.s.s.s (1-AR C) ?_
 intro P2 h4 tl pl hs
 intro n107 _ hn;replace hs:=Sat.new hs hn
 refine⟨Sat.can hs .z (by simp[AB]),?_⟩
 intro h5 e5
 replace hs:=Sat.wra (xs:=AX (BN (sG C L (1-AR C)) (AJ C (1-AR C)).1) (BM (sG C L (1-AR C)) (AJ C (1-AR C)).1) (BJ (sG C L (1-AR C)) (AJ C (1-AR C)).1) (P2,(AL (sG C L (1-AR C)) (AJ C (1-AR C)).1).length,(AL (sG C L (1-AR C)) (AJ C (1-AR C)).1).length) (A6 (sG C L (1-AR C)) (AJ C (1-AR C)).1)) hs .z e5 (by rw[DS tl];rfl)
 clear e5;simp only[AG]at hs
 rw[YN]
 by_cases c2:B6 C L (1-AR C)=true
 ·rw[if_pos c2]
  have ez:sG C L (1-AR C)=0:=by have:=YN C L (1-AR C);rw[c2]at this;simpa using this
  have ea:A5 C L=some (1-AR C):=by unfold A5;rw[if_neg c1,if_pos c2]
  have eG:BO C L=0:=by unfold BO;rw[if_neg ho,ea]
  have eB:BY C L=(AJ C (1-AR C)).1:=by unfold BY;rw[ea]
  have eN:DF C L=1-AR C:=by unfold DF;rw[if_neg ho,ea]
  rw[eG,eB,eN]at k
  rw[ez]at hs tl pl
  exact wO tl hs (fun h' hs'=>k P2 h' tl pl hs')
 rw[if_neg c2]
 have ea:A5 C L=none:=by unfold A5;rw[if_neg c1,if_neg c2]
 have eG:BO C L=17:=by unfold BO;rw[if_neg ho,ea]
 have eN:DF C L=0:=by unfold DF;rw[if_neg ho,ea]
 refine⟨MR hs zs3,MR hs zs2,?_⟩
 intro x139 x140 h141 e141
 subst e141
 replace hs:=IU (i:=2) hs zs2 x139 rfl
 simp only[AV,AG]at hs
 replace hs:=IU (i:=2) hs zs2 x140 rfl
 simp only[AV,AG]at hs
 replace hs:=hs.drop.drop
 refine⟨Sat.can hs zs4 (by simp[AB]),?_⟩
 intro h6 e6
 replace hs:=Sat.wra (xs:=AX 0 0 0 (none,0,0) (AB 32)) hs zs4 e6 rfl
 clear e6;simp only[AV,AG]at hs
 refine⟨Sat.can hs zs3 (by simp),?_⟩
 intro h7 e7
 replace hs:=Sat.wra (xs:=[.int .i64 0]) hs zs3 e7 rfl
 clear e7;simp only[AV,AG]at hs
 refine⟨Sat.can hs zs2 (by simp),?_⟩
 intro h8 e8
 replace hs:=Sat.wra (xs:=[.int .i64 17]) hs zs2 e8 rfl
 clear e8;simp only[AV,AG]at hs
 refine⟨MR hs zs1,?_⟩
 intro x149 h150 e150
 subst e150
 replace hs:=IU (i:=1) hs zs1 x149 rfl
 simp only[AV,AG]at hs
 refine XG hs zs4 (DL 32) ?_
 refine⟨_,hs.ld zs3 rfl,_,hs.ld zs2 rfl,?_⟩
 exact kz (by rw[eG];decide) eN _ _ eG.symm hs.drop.drop.drop.drop.drop.drop
end
end Go.Proofs.YteedolonhdbieaaGreatDoor
end
section
namespace Go.Proofs.YteedolonhdbieaaGreatDoor
open Go Go.Vc
set_option maxRecDepth 100000
section
variable {h0 h:H} {A:List Ent} {i j p r b:Nat} {C:Cm}
end
structure LyE where
 slot:Int
 over:Int
 at_:Int
 mask:List Int
structure LyE.ok (s:LyE):Prop where
 at_:s.at_<2^63
 mb:AW s.mask
 ml:s.mask.length+4096≤2^47
structure ScriptL (h:H) (p:Option Addr) (l:Nat) (sc:List LyE):Prop where
 len:sc.length=l
 lt:l<2^50
 at_:∀i (hi:i<sc.length),∃q mp ml mc,p=some q/\hc h (q.add (i*4))=some (.int .i64 sc[i].slot)/\hc h ((q.add (i*4)).add 1)=some (.int .i64 sc[i].over)/\hc h ((q.add (i*4)).add 2)=some (.int .i64 sc[i].at_)/\
  hc h ((q.add (i*4)).add 3)=some (.slice mp ml mc)/\hsv h mp 1 ml (AA .u8 sc[i].mask)/\sc[i].ok
section
variable {h0 h:H} {A B:List Ent} {i j p r b q px l pr m:Nat} {C:Cm}
theorem Ad1{Q:Bool->HP}(hs:Sat h0 A h)(ci:At A i (AF p C))(cl:At A j (CE r p))(k:∀h',Sat h0 A h'->Q (VT C) h'):N7 ⟨r,0,none⟩ Q h:=by
 unfold N7 cQ
 try simp only[AI,Nat.zero_add]
 refine XT hs ci cl ?_
 intro h1 hs
 obtain⟨lp,lq⟩:=XU C
 intro n17 _ hn;replace hs:=Sat.new hs hn
 refine⟨Sat.can hs .z (by decide),?_⟩
 intro h2 e
 replace hs:=Sat.wra hs .z e (by rw[FH lp lq];rfl)
 clear e
 replace hs:Sat h0 (blk n17 (A8 (BK C).1.p (BK C).1.q (BK C).1.n)::A) h2:=hs
 unfold VT at k
 by_cases ho:C.out=true
 ·have e:BK C=(⟨inf0,inf0,0⟩,8):=by unfold BK;rw[if_pos ho]
  rw[if_pos ho]at k
  rw[e,if_neg (by simp)]
  exact k _ hs.drop
 have e:BK C=(⟨pI C 0,pI C 1,AU C⟩,0):=by unfold BK;rw[if_neg ho]
 rw[if_neg ho]at k
 rw[e]at hs lp lq ⊢
 dsimp only at hs lp lq ⊢
 rw[if_pos (by simp)]
 have L:=hs.fnd .z lp lq
 refine⟨_,L.a0,_,‹_›,L.a1,_,L.a10,_,L.a11,_,L.a12,_,L.a13,_,‹_›,L.a14,_,L.a23,_,L.a24,_,L.a25,_,L.a26,?_⟩
 refine wP hs ci.s cl.s (by simpa using ho) ?_
 intro h4 hs
 exact k _ hs.drop
end
structure StL where
 kind:Int
 slot:Int
 n:Int
 up:Bool
 mask:List Int
 x:List Int
structure StL.ok (s:StL):Prop where
 slot:s.slot<2^63
 x:s.x.length=32
 mb:AW s.mask
 ml:s.mask.length+4096≤2^47
section
variable {h0 h:H} {A B:List Ent} {i j p r b q px l pr m:Nat} {C:Cm}
end
end Go.Proofs.YteedolonhdbieaaGreatDoor
end
section
namespace Go.Proofs.YteedolonhdbieaaGreatDoor
open Go Go.Vc
set_option maxRecDepth 100000
attribute [local irreducible] BC AN BN BM BJ AL A6 B6 sG
theorem AmT{C:Cm}(ho:¬C.out=true){a:Int}(h:a=0∨a=1):(DX C a).2=0:=by
 have e:AT C a 2=0:=by unfold AT;rw[if_neg ho,if_neg (by omega),if_neg (by omega)]
 unfold DX;rw[if_neg (by rw[e];decide)]
theorem Am6(C:Cm)(L:List Sec):BZ C L=0∨BZ C L=1:=by
 have f:=UN C
 unfold BZ
 cases h:A5 C L with
 | none=>dsimp only;omega
 | some a=>dsimp only;have:=kP h;omega
section
variable {h0 h:H} {A:List Ent} {i j p r b s m:Nat} {C:Cm}
theorem Ai5{Q:Bool->HP}{lg st rr lo z:Nat}{R:List SR}{L:List Sec}(hs:Sat h0 A h)(ok:C.ok)(ho:¬C.out=true)
  (ci:At A i (AF p C)) (al:At A z (blk lo [.pointer (some ⟨p,0,none⟩),.pointer (some ⟨st,0,none⟩),.pointer (some ⟨rr,0,none⟩)]))
  (k:∀h',Sat h0 A h'->Q (FU C) h'):TM ⟨lo,0,none⟩ (C4 C).1 Q h:=by
 unfold TM cL
 refine⟨_,hs.ld al rfl,_,rfl,?_⟩
 refine l7 hs ci (fun y=>absurd y ho) ?_
 intro _ l h1 hs
 rw[if_pos (by decide)]
 refine⟨_,rfl,?_⟩
 refine zB (j:=0) hs ci.s .z ?_
 intro h2 hs
 obtain⟨f1,f2⟩:=qO ok
 have ew:IntKind.i64.wrap (GD C)=GD C:=AQ ⟨by omega,by omega⟩
 rw[ew]
 unfold FU at k
 by_cases c:0<GD C
 ·rw[AD,if_pos (by simpa using c)]
  intro n en
  subst en
  rw[AD]
  have:=k h2 hs.drop
  rw[show decide (GD C≠0)=true by simp;omega,Bool.true_or,Bool.true_and]at this
  exact this
 ·rw[AD,if_neg (by simpa using c)]
  refine⟨_,rfl,?_⟩
  refine Ad1 (j:=0) hs ci.s .z ?_
  intro h3 hs
  rw[show decide (GD C≠0)=false by simp;omega,Bool.false_or]at k
  cases hw:VT C
  ·rw[if_pos (by decide)]
   intro n en
   subst en
   rw[AD]
   have:=k h3 hs.drop
   rw[hw,Bool.not_false,Bool.true_and]at this
   exact this
  ·rw[if_neg (by decide)]
   have:=k h3 hs.drop
   rw[hw,Bool.not_true,Bool.false_and]at this
   exact this
theorem AgG{K:Int->HP}{lg st rr lo z:Nat}{bs:List Int}{q:Option Addr}{l c:Nat}{R:List SR}{L:List Sec}(hg:hc h0 ⟨0,0,none⟩=some GB)(hs:Sat h0 A h)
  (g:Gx A i p C lg st rr R L) (al:At A z (blk lo [.pointer (some ⟨p,0,none⟩),.pointer (some ⟨st,0,none⟩),.pointer (some ⟨rr,0,none⟩)]))
  (rd:∀B h',Sat h0 (B++A) h'->hsv h' q 1 l (AA .u8 bs)) (hb:AW bs) (hlc:l≤c) (hl:l<2^50)
  (k:∀nb P h',(A6 (AN C L bs) bs).length=32->(AL (AN C L bs) bs).length<2^40->Sat h0 (blk nb (AX (BN (AN C L bs) bs) (BM (AN C L bs) bs) (BJ (AN C L bs) bs) (P,(AL (AN C L bs) bs).length,(AL (AN C L bs) bs).length) (A6 (AN C L bs) bs))::ER P (AL (AN C L bs) bs).length (AL (AN C L bs) bs)::A) h'->K (AN C L bs) h'):
  (∃p22:Addr,(some ⟨st,0,none⟩:Option Addr)=some p22/\∃p23:Addr,(some ⟨rr,0,none⟩:Option Addr)=some p23/\GO p22 p23 q l c (fun i1 i2 i3 o n m l e h=>∀nb h',hnew h nb (.int .i64 0::.int .i64 0::.int .i64 0::.slice none 0 0::AA .u8 (AB 32)) h'->AC h' ⟨nb,0,none⟩ 36/\∀h'',h''=hwr h' ⟨nb,0,none⟩ (.int .i64 i1::.int .i64 i2::.int .i64 i3::.slice o n m::AA .u8 l)->K e h'') h)/\
  ∀(nb:Nat) (h90:H),hnew h nb (.int .i64 0::.int .i64 0::.int .i64 0::.slice none 0 0::AA .u8 (AB 32)) h90->hcs h90 ⟨lo,2,none⟩ [.pointer (some ⟨rr,0,none⟩)]/\hcs h90 ⟨lo,1,none⟩ [.pointer (some ⟨st,0,none⟩)]/\
   ∃p22:Addr,(some ⟨st,0,none⟩:Option Addr)=some p22/\∃p23:Addr,(some ⟨rr,0,none⟩:Option Addr)=some p23/\GO p22 p23 q l c (fun i1 i2 i3 o n m l e h=>AC h ⟨nb,0,none⟩ 36/\∀h'',h''=hwr h ⟨nb,0,none⟩ (.int .i64 i1::.int .i64 i2::.int .i64 i3::.slice o n m::AA .u8 l)->K e h'') h90:=by
 obtain⟨mm,⟨_,_,cr⟩,_,_,cm⟩:=g.cr
 obtain⟨_,_,cl⟩:=g.cl
 obtain⟨_,_,cs⟩:=g.cs
 refine⟨⟨_,rfl,_,rfl,?_⟩,?_⟩
 ·exact qS (L:=L) (bs:=bs) hg hs g.ci cl cs cr cm g.eR g.gd (fun x hx=>⟨_,(g.rR x hx).choose_spec.2⟩) (fun h' hs'=>rd [] h' hs') hb hlc hl k
 ·intro n59 _ hn;replace hs:=Sat.new hs hn
  refine⟨AH (hs.ld (i:=z+1) al.s rfl),AH (hs.ld (i:=z+1) al.s rfl),_,rfl,_,rfl,?_⟩
  exact qT (L:=L) (bs:=bs) hg hs g.ci cl cs cr cm g.eR g.gd (fun x hx=>⟨_,(g.rR x hx).choose_spec.2⟩) rd hb hlc hl (fun P h'=>k _ P h')
theorem oA{Q:Int->HP}{lg st rr lo z:Nat}{bs:List Int}{q:Option Addr}{l c:Nat}{R:List SR}{L:List Sec}(hg:hc h0 ⟨0,0,none⟩=some GB)(hs:Sat h0 A h)(ok:C.ok)
  (g:Gx A i p C lg st rr R L) (hz:z≠i) (al:At A z (blk lo [.pointer (some ⟨p,0,none⟩),.pointer (some ⟨st,0,none⟩),.pointer (some ⟨rr,0,none⟩)]))
  (rd:∀D B h',Sat h0 (B++put A i (AF p D)) h'->hsv h' q 1 l (AA .u8 bs)) (hb:AW bs) (hbl:bs.length=l) (hlc:l≤c) (hl:l<2^50)
  (k:∀h',Sat h0 (put A i (AF p (DO C L bs).1)) h'->Q (DO C L bs).2 h'):JG ⟨lo,0,none⟩ q l c Q h:=by
 unfold JG cJ gF
 try simp only[AI,Nat.zero_add,List.append_nil]
 obtain⟨_,_,cl⟩:=g.cl
 obtain⟨js,hjs,cs⟩:=g.cs
 have pS:=g.ci.put_self
 have rd0:∀B h',Sat h0 (B++A) h'->hsv h' q 1 l (AA .u8 bs):=fun B h' hs'=>rd C B h' (by rw[pS];exact hs')
 refine⟨_,hs.ld al rfl,_,rfl,?_⟩
 refine YM hs g.ci cl cs ?_
 intro h1 hs
 rw[kH ok]
 by_cases ho:C.out=true
 ·rw[if_pos ho,if_pos (by decide)]
  have e:DO C L bs=(C,8):=by unfold DO;rw[if_pos ho]
  rw[e]at k
  exact k h1 (by rw[pS];exact hs)
 rw[if_neg ho,if_neg (by decide)]
 refine⟨_,hs.ld al rfl,_,hs.ld al rfl,?_⟩
 refine AgG (L:=L) (bs:=bs) hg hs g al rd0 hb hlc hl ?_
 intro nb P h2 tl pl hs
 replace hs:=hs.drop.drop
 clear tl pl
 by_cases c1:AN C L bs=0
 case neg=>
  rw[if_pos (by simpa using c1)]
  have e:DO C L bs=(C,AN C L bs):=by unfold DO;rw[if_neg ho,if_pos c1]
  rw[e]at k
  exact k h2 (by rw[pS];exact hs)
 rw[if_neg (by simpa using c1)]
 refine⟨_,hs.ld al rfl,_,rfl,?_⟩
 refine CO hs g.ci ?_
 intro h3 hs
 refine gY C.cfg hs ?_
 intro h4 hs
 by_cases c2:CN C.cfg<(l:Int)
 ·rw[AD,if_pos (by simpa using c2)]
  have e:DO C L bs=(C,4):=by unfold DO;rw[if_neg ho,if_neg (by simpa using c1),if_pos (by rw[hbl];exact c2)]
  rw[e]at k
  exact k h4 (by rw[pS];exact hs)
 rw[AD,if_neg (by simpa using c2)]
 refine⟨by decide,?_⟩
 obtain⟨r1,r2⟩:=oQ ok
 have hf:(C4 C).1.tmod 2=AR C:=by unfold AR;rw[Int.tmod_eq_emod_of_nonneg r1]
 have f01:=UN C
 have w01:∀x:Int,x=0∨x=1->IntKind.i64.wrap (1-x)=1-x:=by intro x y;rcases y with y | y <;> rw[y] <;> decide
 rw[hf]
 intro J hJ
 have go:∀h',Sat h0 A h'->J [.dv (.one (.int .i64 (BZ C L)))] h':=by
  intro h5 hs
  apply hJ
  clear hJ
  have t01:=Am6 C L
  refine⟨_,hs.ld al rfl,_,rfl,?_⟩
  refine oI hs g.ci (BZ C L) ?_
  intro h6 hs
  rw[AmT ho t01]
  intro J2 hJ2
  rw[if_neg (by decide)]
  have bad:((DX C (BZ C L)).1=true∨BZ C L≠AR C/\FU C=false)->∀h',Sat h0 A h'->Q 9 h':=by
   intro y h' hs'
   have e:DO C L bs=(C,9):=by unfold DO;rw[if_neg ho,if_neg (by simpa using c1),if_neg (by rw[hbl];exact c2),if_pos y]
   rw[e]at k
   exact k h' (by rw[pS];exact hs')
  have good:¬((DX C (BZ C L)).1=true∨BZ C L≠AR C/\FU C=false)->∀h',Sat h0 A h'->J2 [] h':=by
   intro y h' hs
   apply hJ2
   clear hJ2
   refine⟨_,hs.ld al rfl,_,rfl,?_⟩
   refine Ad4 (bs:=bs) hs g.ci (BZ C L) (fun D h' hs'=>rd D [] h' hs') hl hlc ?_
   intro h7 hs
   have e:DO C L bs=if (FD C (BZ C L) bs).2≠0∨BZ C L=AR C then FD C (BZ C L) bs else QD (FD C (BZ C L) bs).1 ((C4 C).1+1):=by
    conv=>lhs;unfold DO
    rw[if_neg ho,if_neg (by simpa using c1),if_neg (by rw[hbl];exact c2),if_neg y]
   rw[e]at k
   by_cases c3:(FD C (BZ C L) bs).2=0
   case neg=>
    rw[if_pos (by simpa using c3)]
    rw[if_pos (Or.inl c3)]at k
    exact k h7 hs
   rw[if_neg (by simpa using c3)]
   by_cases c4:BZ C L=AR C
   ·rw[if_pos (by simpa using c4)]
    rw[if_pos (Or.inr c4)]at k
    exact k h7 hs
   rw[if_neg (by simpa using c4)]
   rw[if_neg (by rintro (y | y);exact y c3;exact c4 y)]at k
   have g':=g.put (FD C (BZ C L) bs).1
   refine⟨_,hs.ld (al.put_ne hz _) rfl,_,rfl,?_⟩
   obtain⟨_,_,cl'⟩:=g'.cl
   obtain⟨js',hjs',cs'⟩:=g'.cs
   have hl2:FU C=true:=by
    cases hl:FU C
    ·exact absurd (Or.inr ⟨c4,hl⟩) y
    ·rfl
   have r3:(C4 C).1<2^62:=by
    unfold FU at hl2
    rw[Bool.and_eq_true]at hl2
    exact of_decide_eq_true hl2.2
   have ew:IntKind.i64.wrap ((C4 C).1+1)=(C4 C).1+1:=AQ ⟨by omega,by omega⟩
   rw[ew]
   refine AkY hs g'.ci cl' cs' (by assumption) _ ?_
   intro h8 hs
   rw[DU]at hs
   exact k h8 hs
  by_cases c5:(DX C (BZ C L)).1=true
  ·rw[if_pos c5];exact bad (Or.inl c5) _ hs
  rw[if_neg c5]
  by_cases c6:BZ C L=AR C
  ·rw[if_neg (by simpa using c6)]
   exact good (by rintro (y | y);exact c5 y;exact y.1 c6) _ hs
  rw[if_pos (by simpa using c6)]
  refine Ai5 (lg:=lg) (R:=R) (L:=L) hs ok ho g.ci al ?_
  intro h7 hs
  cases hl:FU C
  ·rw[if_pos (by decide)];exact bad (Or.inr ⟨c6,hl⟩) _ hs
  ·rw[if_neg (by decide)]
   exact good (by rintro (y | y);exact c5 y;rw[hl]at y;exact absurd y.2 (by decide)) _ hs
 refine T2 (L:=L) hg hs ok g al ?_
 intro P2 h5 tl pl hs
 intro n84 _ hn;replace hs:=Sat.new hs hn
 refine⟨Sat.can hs .z (by simp[AB]),?_⟩
 intro h6 e6
 replace hs:=Sat.wra (xs:=AX (BN (BO C L) (BY C L)) (BM (BO C L) (BY C L)) (BJ (BO C L) (BY C L)) (P2,(AL (BO C L) (BY C L)).length,(AL (BO C L) (BY C L)).length) (A6 (BO C L) (BY C L))) hs .z e6 (by rw[DS tl];rfl)
 clear e6;simp only[AG]at hs
 replace hs:=hs.drop.drop
 cases ha:A5 C L with
 | none=>
  have eG:BO C L=17:=by unfold BO;rw[if_neg ho,ha]
  have eT:BZ C L=1-AR C:=by unfold BZ;rw[ha]
  rw[eG,if_neg (by decide),w01 _ f01,←eT]
  exact go _ hs
 | some a=>
  have eG:BO C L=0:=by unfold BO;rw[if_neg ho,ha]
  have eN:DF C L=a:=by unfold DF;rw[if_neg ho,ha]
  have eT:BZ C L=1-a:=by unfold BZ;rw[ha]
  rw[eG,eN,if_pos (by decide),w01 _ (kP ha),←eT]
  exact go _ hs
end
end Go.Proofs.YteedolonhdbieaaGreatDoor
end
section
namespace Go.Proofs.YteedolonhdbieaaGreatDoor
open Go Go.Vc
set_option maxRecDepth 100000
attribute [local irreducible] BC AN BN BM BJ AL A6 B6 sG
structure Rx (A:List Ent) (i p:Nat) (C:Cm) (rr:Nat) (R:List SR) (L:List Sec):Prop where
 ci:At A i (CT p C)
 cr:∃(lp:Option Addr) (lc:Nat),atN A i (blk rr [.slice lp R.length lc])/\atN A i (slE lp R.length lc 2 (ES R))
 rR:∀x,x∈R->atN A i x.sl
 eR:R.map SR.kv=L
 lR:R.length<2^40
 gd:SR.good R
theorem Rx.s{A:List Ent}{i p:Nat}{C:Cm}{rr:Nat}{R:List SR}{L:List Sec}(g:Rx A i p C rr R L){x:Ent}:Rx (x::A) (i+1) p C rr R L:=
 ⟨g.ci.s,by obtain⟨lp,lc,a,b⟩:=g.cr;exact⟨lp,lc,a.s,b.s⟩,fun x hx=>(g.rR x hx).s,g.eR,g.lR,g.gd⟩
theorem Rx.put{A:List Ent}{i p:Nat}{C:Cm}{rr:Nat}{R:List SR}{L:List Sec}(g:Rx A i p C rr R L)(D:Cm):Rx (put A i (CT p D)) i p D rr R L:=
 ⟨g.ci.put _,by obtain⟨lp,lc,a,b⟩:=g.cr;exact⟨lp,lc,a.put _,b.put _⟩,fun x hx=>(g.rR x hx).put _,g.eR,g.lR,g.gd⟩
section
variable {h0 h:H} {A:List Ent} {i j p r b s m:Nat} {C:Cm}
end
end Go.Proofs.YteedolonhdbieaaGreatDoor
end
section
namespace Go.Proofs.YteedolonhdbieaaGreatDoor
open Go Go.Vc
set_option maxRecDepth 100000
attribute [local irreducible] BC AN BN BM BJ AL A6 kV
structure PW where
 o:Option Addr
 m:Nat
 d:Nat
 s:List Int
 sm:List Int
 n:Int
 o2:Option Addr
 m2:Nat
structure Ring26 (B:List Ent) (rp mp rr:Nat) (lp:Option Addr) (lc:Nat) (R R2:List SR) (L:List Sec):Prop where
 cr:∃j,At B j (blk rp [.map (some mp)])
 cm:∃j,At B j (EQ mp (R.map SR.ent))
 eR:R.map SR.kv=L
 gR:SR.good R
 rR:∀x,x∈R->∃y,At B y x.sl
 dr:∃j,At B j (blk rr [.slice lp R2.length lc])
 dl:∃j,At B j (slE lp R2.length lc 2 (ES R2))
 eR2:R2.map SR.kv=L
 gR2:SR.good R2
 rR2:∀x,x∈R2->∃y,At B y x.sl
 lR2:R2.length<2^40
section
variable {h0 h:H} {A:List Ent} {i j p r b s m:Nat} {C:Cm}
end
end Go.Proofs.YteedolonhdbieaaGreatDoor
end
section
namespace Go.Proofs.YteedolonhdbieaaGreatDoor
open Go Go.Vc
set_option maxRecDepth 100000
attribute [local irreducible] BC AN BN BM BJ AL A6 kV
theorem L5{B:List Ent}{j:Nat}{e:Ent}(a:At B j e):∀X:List Ent,∃k,At (X++B) k e
 | []=>⟨j,a⟩
 | x::X=>by obtain⟨k,hk⟩:=L5 a X;exact⟨k+1,.s hk⟩
theorem Ring26.left{B:List Ent}{rp mp rr:Nat}{lp:Option Addr}{lc:Nat}{R R2:List SR}{L:List Sec}(K:Ring26 B rp mp rr lp lc R R2 L)(X:List Ent):Ring26 (X++B) rp mp rr lp lc R R2 L:=
 ⟨L5 K.cr.choose_spec X,L5 K.cm.choose_spec X,K.eR,K.gR,fun x hx=>L5 (K.rR x hx).choose_spec X,L5 K.dr.choose_spec X,L5 K.dl.choose_spec X,K.eR2,K.gR2,fun x hx=>L5 (K.rR2 x hx).choose_spec X,K.lR2⟩
section
variable {h0 h:H} {A:List Ent} {i j p r b s m:Nat} {C:Cm}
end
end Go.Proofs.YteedolonhdbieaaGreatDoor
end
section
namespace Go.Proofs.YteedolonhdbieaaGreatDoor
open Go Go.Vc
set_option maxRecDepth 100000
attribute [local irreducible] BC AN BN BM BJ AL A6 B6 sG
abbrev FZ(pc rp pr rr:Nat)(so lo:Value):List Value:=[.pointer (some ⟨pc,0,none⟩),so,.pointer (some ⟨rp,0,none⟩),lo,.pointer (some ⟨pr,0,none⟩),.pointer (some ⟨rr,0,none⟩)]
abbrev KE(lo pc st rp:Nat):Ent:=blk lo [.pointer (some ⟨pc,0,none⟩),.pointer (some ⟨st,0,none⟩),.pointer (some ⟨rp,0,none⟩)]
abbrev W15(w pc st lg lo rp pr rr:Nat)(C:Cm)(B:List Ent):List Ent:=
 blk w (FZ pc rp pr rr (.pointer (some ⟨st,0,none⟩)) (.pointer (some ⟨lo,0,none⟩)))::KE lo pc st rp::C8 st pc lg::CE lg pc::AF pc C::CT pr C::B
def S15(h0:H)(w pc rp pr rr:Nat)(C:Cm)(B:List Ent)(h:H):Prop:=
 (∃so,Sat h0 (blk w (FZ pc rp pr rr so (.pointer none))::AF pc C::CT pr C::B) h)∨∃st lg lo,Sat h0 (W15 w pc st lg lo rp pr rr C B) h
section
variable {h0 h:H} {A B:List Ent} {i j p r b s m:Nat} {C:Cm}
theorem AiR{Q:Bool->HP}{w pc rp pr rr:Nat}{so lv:Value}(hs:Sat h0 (blk w (FZ pc rp pr rr so lv)::AF pc C::CT pr C::B) h)(k:∀h',S15 h0 w pc rp pr rr C B h'->(C.out=false->∃st lg lo,Sat h0 (W15 w pc st lg lo rp pr rr C B) h')->Q true h'):GP ⟨w,0,none⟩ Q h:=by
 unfold GP V7
 try simp only[AI,Nat.zero_add]
 refine⟨_,hs.ld .z rfl,_,rfl,?_⟩
 refine kJ hs zs1 ?_ ?_
 ·intro ho
  refine⟨Sat.can hs .z (show 1+1≤6 by decide),?_⟩
  intro h1 e1
  replace hs:=Sat.wr hs .z e1
  clear e1
  refine⟨Sat.can hs .z (show 3+1≤6 by decide),?_⟩
  intro h2 e2
  replace hs:=Sat.wr hs .z e2
  clear e2
  replace hs:Sat h0 (blk w (FZ pc rp pr rr (.pointer none) (.pointer none))::AF pc C::CT pr C::B) h2:=hs
  refine⟨_,hs.ld .z rfl,_,rfl,_,(kB hs zs2).2,?_⟩
  rw[if_pos ho,if_pos (by simp)]
  exact k _ (Or.inl ⟨_,hs⟩) (fun y=>absurd (ho.symm.trans y) (by decide))
 ·intro ho st lg h1 hs
  refine⟨Sat.can hs zs2 (show 1+1≤6 by decide),?_⟩
  intro h2 e2
  replace hs:=Sat.wr hs zs2 e2
  clear e2
  refine⟨Sat.can hs zs2 (show 3+1≤6 by decide),?_⟩
  intro h3 e3
  replace hs:=Sat.wr hs zs2 e3
  clear e3
  replace hs:Sat h0 (C8 st pc lg::CE lg pc::blk w (FZ pc rp pr rr (.pointer (some ⟨st,0,none⟩)) (.pointer none))::AF pc C::CT pr C::B) h3:=hs
  refine⟨_,hs.ld zs2 rfl,_,rfl,_,(kB hs zs4).2,?_⟩
  rw[if_neg (by simp[ho]),if_neg (by simp),if_neg (by decide)]
  refine⟨_,hs.ld zs2 rfl,_,hs.ld zs2 rfl,_,rfl,_,rfl,_,rfl,?_⟩
  unfold IQ TX
  intro lo _ hn;replace hs:=Sat.new hs hn
  refine⟨Sat.can hs zs3 (show 3+1≤6 by decide),?_⟩
  intro h4 e4
  replace hs:=Sat.wr hs zs3 e4
  clear e4
  replace hs:Sat h0 (KE lo pc st rp::C8 st pc lg::CE lg pc::blk w (FZ pc rp pr rr (.pointer (some ⟨st,0,none⟩)) (.pointer (some ⟨lo,0,none⟩)))::AF pc C::CT pr C::B) h4:=hs
  refine⟨_,hs.ld zs3 rfl,?_⟩
  have hs:=hs.perm (List.perm_middle (l₁:=[KE lo pc st rp,C8 st pc lg,CE lg pc]))
  exact k _ (Or.inr ⟨st,lg,lo,hs⟩) (fun _=>⟨st,lg,lo,hs⟩)
theorem S15.any{w pc rp pr rr:Nat}(W:S15 h0 w pc rp pr rr C B h):∃so lv,Sat h0 (blk w (FZ pc rp pr rr so lv)::AF pc C::CT pr C::B) h:=by
 rcases W with⟨so,hs⟩ | ⟨s,l,lo,hs⟩
 ·exact⟨_,_,hs⟩
 ·exact⟨_,_,hs.sub (List.Sublist.cons_cons _ (((List.sublist_cons_self _ _).trans (List.sublist_cons_self _ _)).trans (List.sublist_cons_self _ _)))⟩
end
end Go.Proofs.YteedolonhdbieaaGreatDoor
end
section
namespace Go.Proofs.YteedolonhdbieaaGreatDoor
open Go Go.Vc
set_option maxRecDepth 1000000
def cfg15:Cfg:=⟨16,1,2,3,1,0,1⟩
theorem AeL:cfg15.may:=by refine⟨?_,?_,?_,?_,?_,?_,?_⟩ <;> decide
def L15:List Sec:=[(0,[7])]
def b15:List Int:=CA 0 0 5 [1,2,3]++BC [7] (CA 0 0 5 [1,2,3])
def D15:Cm:=(DO (BP cfg15) L15 b15).1
theorem g15:(BO (BP cfg15) L15 == 17&&(DO (BP cfg15) L15 b15).2 == 0&&BO D15 L15 == 0&&DF D15 L15 == 1&&BJ 0 (BY D15 L15)==5&&(AL 0 (BY D15 L15)).length == 3)=true:=by decide +kernel
theorem AgF:BO (BP cfg15) L15=17/\(DO (BP cfg15) L15 b15).2=0/\BO D15 L15=0/\DF D15 L15=1/\BJ 0 (BY D15 L15)=5/\(AL 0 (BY D15 L15)).length=3:=by
 have:=g15
 simp only[Bool.and_eq_true,beq_iff_eq]at this
 exact⟨this.1.1.1.1.1,this.1.1.1.1.2,this.1.1.1.2,this.1.1.2,this.1.2,this.2⟩
theorem n15:DT L15=none:=by decide
theorem AdL:AW b15:=by
 intro x hx
 rcases List.mem_append.1 hx with hx | hx
 ·exact (show AW (CA 0 0 5 [1,2,3]) from AeX (by intro n hn;simp only[List.mem_cons,List.not_mem_nil,or_false]at hn;rcases hn with rfl | rfl | rfl <;> decide)) x hx
 ·exact sK _ _ x hx
theorem AdK:b15.length=51:=by unfold b15;rw[List.length_append,AeV,G3];rfl
end Go.Proofs.YteedolonhdbieaaGreatDoor
end
section
namespace Go.Proofs.YteedolonhdbieaaGreatDoor
open Go Go.Vc
set_option maxRecDepth 100000
attribute [local irreducible] BC AN BN BM BJ AL A6 B6 sG
structure Script15 (h:H) (p:Option Addr) (l:Nat) (sc:List OpE):Prop where
 len:sc.length=l
 lt:l<2^50
 at_:∀i (hi:i<sc.length),∃q mp ml mc,p=some q/\hc h (q.add (i*4))=some (.int .i64 sc[i].kind)/\hc h ((q.add (i*4)).add 1)=some (.int .i64 sc[i].n)/\hc h ((q.add (i*4)).add 2)=some (.int .i64 sc[i].v)/\
  hc h ((q.add (i*4)).add 3)=some (.slice mp ml mc)/\hsv h mp 1 ml (AA .u8 sc[i].mask)/\sc[i].ok/\ml≤mc
section
variable {h0 h:H} {A B:List Ent} {i j p r b s m:Nat} {C:Cm}
theorem AmE{K:Nat->HP}{pr n28 y:Nat}{c:Cfg}{s:St}{T:List Ent}(hs:Sat h0 (CT pr (C7 c s)::T) h)(m:c.may)(lay:s.lays c)(ty:s.typed)(a28:At T y (L9 n28 c))(QB:Option Addr->Int->HP)
  (k:∀pc h',Sat h0 (AF pc (C7 c s)::CT pr (C7 c s)::T) h'->QB (some ⟨pc,0,none⟩) 0 h'):
  ∃i67:Int,hc h ⟨n28,0,none⟩=some (.int .i64 i67)/\∃i68:Int,hc h ⟨n28,1,none⟩=some (.int .i64 i68)/\∃i69:Int,hc h ⟨n28,2,none⟩=some (.int .i64 i69)/\∃i70:Int,hc h ⟨n28,3,none⟩=some (.int .i64 i70)/\∃i71:Int,hc h ⟨n28,4,none⟩=some (.int .i64 i71)/\∃i72:Int,hc h ⟨n28,5,none⟩=some (.int .i64 i72)/\∃i73:Int,hc h ⟨n28,6,none⟩=some (.int .i64 i73)/\
   ∃p74:Addr,(some ⟨pr,0,none⟩:Option Addr)=some p74/\∃(o75:Option Addr) (n76 n77:Nat),hc h (p74.add 7)=some (.slice o75 n76 n77)/\∃(o78:Option Addr) (n79 n80:Nat),hc h (p74.add 8)=some (.slice o78 n79 n80)/\∃(o81:Option Addr) (n82 n83:Nat),hc h (p74.add 9)=some (.slice o81 n82 n83)/\
   HG o75 n76 n77 o78 n79 n80 o81 n82 n83 (fun(o84:Option Addr) (n85 n86:Nat) (o87:Option Addr) (n88 n89:Nat) (o90:Option Addr) (n91 n92:Nat) (h93:H)=>hcs h93 ⟨n28,0,none⟩ [.int .i64 i67,.int .i64 i68,.int .i64 i69,.int .i64 i70,.int .i64 i71,.int .i64 i72,.int .i64 i73]/\
    JC i67 i68 i69 i70 i71 i72 i73 o84 n85 n86 o87 n88 n89 o90 n91 n92 (fun(o94:Option Addr) (i95:Int) (h96:H)=>QB o94 i95 h96) h93) h:=by
 have ok:=jH m lay ty
 refine⟨_,hs.ld a28.s rfl,_,hs.ld a28.s rfl,_,hs.ld a28.s rfl,_,hs.ld a28.s rfl,_,hs.ld a28.s rfl,_,hs.ld a28.s rfl,_,hs.ld a28.s rfl,?_⟩
 obtain⟨⟨w,ms⟩,hw,hs⟩:=hs.open_
 dsimp only[MX,List.cons_append,List.nil_append]at hs
 refine⟨_,rfl,_,_,_,hs.ld .z rfl,_,_,_,hs.ld .z rfl,_,_,_,hs.ld .z rfl,?_⟩
 refine lM (a:=w.a) (b:=w.b) (c:=w.c) (s:=s) hs (fun h' hs'=>vA hs' (i:=1) (j:=2) (k:=3) zs1 zs2 zs3) ok.small ?_
 intro a2 b2 c2 h4 hs
 refine⟨Sat.cs hs a28.s.s.s.s.s.s.s.s rfl,?_⟩
 refine zE (a:=a2) (b:=b2) (c':=c2) (s:=s) c hs (fun h' hs'=>vA hs' (i:=0) (j:=1) (k:=2) .z zs1 zs2) ty (fun nm=>absurd m nm) (fun _ nl=>absurd lay nl) ?_
 intro _ _ px h5 hs
 replace hs:Sat h0 (AF px (C7 c s)::(MX pr (C7 c s) (w,ms)++T)) h5:=hs.sub (by
  refine List.Sublist.cons_cons _ ?_
  exact ((List.Sublist.refl _).cons _).cons _ |>.cons _)
 replace hs:=Sat.close (n:=4) (φ:=RefW (C7 c s)) (F:=MX pr (C7 c s)) (w,ms) hw (hs.perm List.perm_middle.symm)
 replace hs:Sat h0 (CT pr (C7 c s)::AF px (C7 c s)::T) h5:=hs
 exact k px h5 (hs.perm (List.Perm.swap _ _ _))
theorem AdM{Q:Option Addr->Bool->HP}{a b c':Sl}{s:St}{X:List SR}{lp:Option Addr}{ll lc:Nat}(c:Cfg)(hs:Sat h0 A h)(rl:∀h',Sat h0 A h'->SecsAt h' lp ll X)(hll:ll<2^47)(rd:∀h',Sat h0 A h'->RdS h' a b c' s)(ty:s.typed)
  (k0:∀h',Sat h0 A h'->Q none true h')
  (k1:c.may->∀w pc rp mp R pr rr lp' lc' R2 C B h',(s.lays c/\C=C7 c s∨¬s.lays c/\C=BP c)->Ring26 B rp mp rr lp' lc' R R2 (X.map SR.kv)->(∃st lg lo,Sat h0 (W15 w pc st lg lo rp pr rr C B) h')->Q (some ⟨w,0,none⟩) true h'):
  OK c.cells c.slots c.fuses c.step c.keys c.erases c.area lp ll lc a.1 a.2.1 a.2.2 b.1 b.2.1 b.2.2 c'.1 c'.2.1 c'.2.2 Q h:=by
 unfold OK dM
 try simp only[AI,Nat.zero_add,List.append_nil]
 obtain⟨L,hL⟩:∃L,X.map SR.kv=L:=⟨_,rfl⟩
 rw[hL]at k1
 intro n28 _ hn;replace hs:=Sat.new hs hn
 intro n31 _ hn;replace hs:=Sat.new hs hn
 replace hs:Sat h0 (blk n31 [a.v,b.v,c'.v]::L9 n28 c::A) _:=hs
 have drop0:∀{D:List Ent} {h':H},Sat h0 (D++(blk n31 [a.v,b.v,c'.v]::L9 n28 c::A)) h'->Sat h0 A h':=fun{D h'} hs'=>hs'.sub (((List.sublist_cons_self _ _).trans (List.sublist_cons_self _ _)).trans (List.sublist_append_right _ _))
 refine AkI hs hL (fun h' hs'=>rl h' (drop0 (D:=[]) hs')) hll ?_
 intro o1 e1 i1 h1 B1 hs hB1
 obtain⟨T0,hT0⟩:∃T0,T0=B1++(blk n31 [a.v,b.v,c'.v]::L9 n28 c::A):=⟨_,rfl⟩
 rw[←hT0]at hs
 obtain⟨y5,b5⟩:∃x,At T0 x (L9 n28 c):=At.mem (by rw[hT0];simp)
 obtain⟨y6,b6⟩:∃x,At T0 x (blk n31 [a.v,b.v,c'.v]):=At.mem (by rw[hT0];simp)
 have drop1:∀{h':H},Sat h0 T0 h'->Sat h0 A h':=fun{h'} hs'=>drop0 (D:=B1) (by rw[←hT0];exact hs')
 refine⟨_,hs.ld b5 rfl,_,hs.ld b5 rfl,_,hs.ld b5 rfl,_,hs.ld b5 rfl,_,hs.ld b5 rfl,_,hs.ld b5 rfl,_,hs.ld b5 rfl,_,_,_,hs.ld b6 rfl,_,_,_,hs.ld b6 rfl,_,_,_,hs.ld b6 rfl,?_⟩
 -- what follows, once the document has a chip
 have go:∀(s':St),c.may->s'.lays c->s'.typed->(s.lays c/\C7 c s'=C7 c s∨¬s.lays c/\C7 c s'=BP c)->∀pr h',Sat h0 (CT pr (C7 c s')::T0) h'->
   if (e1 != 0)=true then Q none true h' else if ((0:Int) != 0)=true then Q none true h' else
    HF lp ll lc (fun(o63:Option Addr) (i64 i65:Int) (h66:H)=>∃i67:Int,hc h66 ⟨n28,0,none⟩=some (.int .i64 i67)/\∃i68:Int,hc h66 ⟨n28,1,none⟩=some (.int .i64 i68)/\∃i69:Int,hc h66 ⟨n28,2,none⟩=some (.int .i64 i69)/\∃i70:Int,hc h66 ⟨n28,3,none⟩=some (.int .i64 i70)/\∃i71:Int,hc h66 ⟨n28,4,none⟩=some (.int .i64 i71)/\∃i72:Int,hc h66 ⟨n28,5,none⟩=some (.int .i64 i72)/\∃i73:Int,hc h66 ⟨n28,6,none⟩=some (.int .i64 i73)/\
     ∃p74:Addr,(some ⟨pr,0,none⟩:Option Addr)=some p74/\∃(o75:Option Addr) (n76 n77:Nat),hc h66 (p74.add 7)=some (.slice o75 n76 n77)/\∃(o78:Option Addr) (n79 n80:Nat),hc h66 (p74.add 8)=some (.slice o78 n79 n80)/\∃(o81:Option Addr) (n82 n83:Nat),hc h66 (p74.add 9)=some (.slice o81 n82 n83)/\
     HG o75 n76 n77 o78 n79 n80 o81 n82 n83 (fun(o84:Option Addr) (n85 n86:Nat) (o87:Option Addr) (n88 n89:Nat) (o90:Option Addr) (n91 n92:Nat) (h93:H)=>hcs h93 ⟨n28,0,none⟩ [.int .i64 i67,.int .i64 i68,.int .i64 i69,.int .i64 i70,.int .i64 i71,.int .i64 i72,.int .i64 i73]/\
      JC i67 i68 i69 i70 i71 i72 i73 o84 n85 n86 o87 n88 n89 o90 n91 n92 (fun(o94:Option Addr) (i95:Int) (h96:H)=>∀J97:List SV->HP,(∀h98:H,(∀(n99:Nat) (h100:H),hnew h98 n99 [.pointer o94,.pointer none,.pointer o63,.pointer none,.pointer (some ⟨pr,0,none⟩),.pointer o1] h100->GP ⟨n99,0,none⟩ (fun(b102:Bool) (h103:H)=>Q (some ⟨n99,0,none⟩) b102 h103) h100)->J97 [] h98)->
       if o63.isNone=true then Q none false h96 else if o94.isNone=true then Q none false h96 else if (i64 != 0)=true then Q none false h96 else if (i95 != 0)=true then Q none false h96 else J97 [] h96) h93) h66) h':=by
  intro s' m lay ty' hC pr h2 hs
  rcases hB1 with⟨x1,x2⟩ | ⟨x1,x2,rr,lp',lc',R2,x3,eR2,gR2,x4⟩
  ·rw[if_pos (by simpa using AiT x1)]
   exact k0 _ (drop1 hs.drop)
  subst x2 x3
  rw[if_neg (by decide),if_neg (by decide)]
  refine sZ hs hL (fun h' hs'=>rl h' (drop1 hs'.drop)) hll ?_
  intro o2 e2 i2 h3 B2 hs hB2
  rcases hB2 with⟨z1,z2⟩ | ⟨z1,z2,rp,mp,R,z3,eR,gR,z4⟩
  ·rw[x1]at z1;cases z1
  subst z2 z3
  replace hs:Sat h0 (CT pr (C7 c s')::(B2++T0)) h3:=hs.perm List.perm_middle
  obtain⟨y7,b7⟩:∃x,At (B2++T0) x (L9 n28 c):=At.mem (List.mem_append_right _ (AiM b5))
  refine AmE (K:=fun _ _=>True) hs m lay ty' b7 _ ?_
  intro pc h4 hs
  intro J hJ
  rw[if_neg (by simp),if_neg (by simp),if_neg (by decide),if_neg (by decide)]
  apply hJ
  clear hJ J
  intro w _ hn;replace hs:=Sat.new hs hn
  have lR2:R2.length<2^40:=by
   have:=congrArg List.length eR2
   rw[List.length_map]at this
   have h64:¬64<L.length:=fun y=>by unfold DT at x1;rw[if_pos y]at x1;cases x1
   omega
  have K:Ring26 (B2++T0) rp mp rr lp' lc' R R2 L:=by
   rw[hT0,x4,z4]
   exact⟨At.mem (by simp),At.mem (by simp),eR,gR,fun x hx=>At.mem (List.mem_append_left _ (List.mem_cons_of_mem _ (List.mem_cons_of_mem _ (List.mem_map_of_mem hx)))),At.mem (by simp),At.mem (by simp),eR2,gR2,fun x hx=>At.mem (List.mem_append_right _ (List.mem_append_left _ (List.mem_cons_of_mem _ (List.mem_cons_of_mem _ (List.mem_map_of_mem hx))))),lR2⟩
  refine AiR (rp:=rp) (rr:=rr) hs ?_
  intro h5 _ W
  exact k1 m w pc rp mp R pr rr lp' lc' R2 _ _ h5 hC K (W rfl)
 refine AjV (a:=a) (b:=b) (c':=c') (s:=s) c hs (fun h' hs'=>rd _ (drop1 hs')) ty ?_ ?_ ?_
 ·intro nm h2 hs J hJ
  rw[if_neg (by decide)]
  apply hJ
  intro J2 hJ2
  have:=k0 _ (drop1 hs)
  split
  ·exact this
  ·rw[if_pos (by decide)];exact this
 ·intro m nl h2 hs J hJ
  rw[if_pos (by decide)]
  refine⟨_,hs.ld b5 rfl,_,hs.ld b5 rfl,_,hs.ld b5 rfl,_,hs.ld b5 rfl,_,hs.ld b5 rfl,_,hs.ld b5 rfl,_,hs.ld b5 rfl,?_⟩
  refine AjW c hs (fun nm=>absurd m nm) ?_
  intro _ pr h3 hs
  replace hs:=AeN hs .z
  rw[AG]at hs
  apply hJ
  clear hJ J
  have G:=go (DR c) m (Ag8 m) ((UP m).typed) (Or.inr ⟨nl,rfl⟩) pr h3 hs
  intro J2 hJ2
  by_cases z:(e1 != 0)=true
  ·rw[if_pos z]at G ⊢;exact G
  ·rw[if_neg z,if_neg (by decide)]at G ⊢;exact hJ2 _ G
 ·intro m lay pr h2 hs J hJ
  rw[if_neg (by decide)]
  apply hJ
  clear hJ J
  have G:=go s m lay ty (Or.inl ⟨lay,rfl⟩) pr h2 hs
  intro J2 hJ2
  by_cases z:(e1 != 0)=true
  ·rw[if_pos z]at G ⊢;exact G
  ·rw[if_neg z,if_neg (by decide)]at G ⊢;exact hJ2 _ G
end
end Go.Proofs.YteedolonhdbieaaGreatDoor
end
section
namespace Go.Proofs.YteedolonhdbieaaGreatDoor
open Go Go.Vc Go.ChangeShapes Go.WideShapes Go.ChangeAt Go.RowKit
set_option maxRecDepth 100000
theorem An1:xsh PP 8 107=some [.int .i64,.int .i64,.int .i64,.slc 5]:=by kernel_rfl
theorem Al8{D:Type}{enc:TypeId×Value->D}{W:World}{p:Option Addr}{l c:Nat}(h:Sli enc PP W 107 p l c):∃sc:List OpE,Script15 W.heap p l sc:=by
 have hb:Tryz.prog.bytesOf 107=48:=by kernel_rfl
 have hc:Tryz.prog.cellsOf 107=4:=by kernel_rfl
 obtain⟨ess,h1,h2,_,h4⟩:=h.els An1
 have hlc:=h.1
 have hr:=h.2.1
 rw[hb]at hr
 unfold reachBytes at hr
 have key:∀es,es∈ess->∃(s:OpE) (mp:Option Addr) (ml mc:Nat),s.ok/\es=[.int .i64 s.kind,.int .i64 s.n,.int .i64 s.v,.slice mp ml mc]/\hsv W.heap mp 1 ml (AA .u8 s.mask)/\ml≤mc:=by
  intro es hes
  obtain⟨k,_,rfl,_,a,_,rfl,ha,b,_,rfl,hb,mp,ml,mc,_,rfl,hm,hr⟩:=(h2 es hes).2
  simp only[XM]at hr
  subst hr
  obtain⟨ms,m1,m2,m3⟩:=Ae3 hm
  exact⟨⟨k,a,b,ms⟩,mp,ml,mc,⟨(AgS ha).2,m2,m3⟩,rfl,m1,hm.1⟩
 have key2:∀ess:List (List Value),(∀es,es∈ess->∃(s:OpE) (mp:Option Addr) (ml mc:Nat),s.ok/\es=[.int .i64 s.kind,.int .i64 s.n,.int .i64 s.v,.slice mp ml mc]/\hsv W.heap mp 1 ml (AA .u8 s.mask)/\ml≤mc)->
   ∃sc:List OpE,sc.length=ess.length/\∀i (hi:i<sc.length) (hi2:i<ess.length),∃(mp:Option Addr) (ml mc:Nat),sc[i].ok/\ess[i]=[.int .i64 sc[i].kind,.int .i64 sc[i].n,.int .i64 sc[i].v,.slice mp ml mc]/\hsv W.heap mp 1 ml (AA .u8 sc[i].mask)/\ml≤mc:=by
  intro ess
  induction ess with
  | nil=>intro _;exact⟨[],rfl,fun i hi=>by simp at hi⟩
  | cons y r ih=>
   intro h
   obtain⟨sc,e1,e2⟩:=ih fun es hes=>h es (by simp[hes])
   obtain⟨s,hs⟩:=h y (by simp)
   refine⟨s::sc,by simp[e1],?_⟩
   intro i hi hi2
   cases i with
   | zero=>exact hs
   | succ i=>exact e2 i (by simpa using hi) (by simpa using hi2)
 obtain⟨sc,e1,e2⟩:=key2 ess key
 refine⟨sc,by omega,by omega,?_⟩
 intro i hi
 obtain⟨mp,ml,mc,ok,e3,e4,e5⟩:=e2 i hi (by omega)
 obtain⟨q,hq,hc2⟩:=h4 i (by omega)
 rw[hc,e3]at hc2
 refine⟨q,mp,ml,mc,hq,?_,hc2 1 _ rfl,hc2 2 _ rfl,hc2 3 _ rfl,e4,ok,e5⟩
 have:=hc2 0 _ rfl;simpa[Addr.add]using this
end Go.Proofs.YteedolonhdbieaaGreatDoor
end
section
namespace Go.Proofs.YteedolonhdbieaaGreatDoor
open Go Go.Vc
set_option maxRecDepth 100000
/-! ### Bits -/
def leB(a b:Int):Prop:=b8 a &&& ~~~ b8 b=0#8
theorem leB_iff{a b:Int}:leB a b↔∀i (h:i<8),(b8 a)[i]=true->(b8 b)[i]=true:=by
 unfold leB
 constructor
 ·intro e i h x
  have:=congrArg (fun v:BitVec 8=>v[i]) e
  simp only[BitVec.getElem_and,BitVec.getElem_not,x,Bool.true_and,BitVec.getElem_zero,Bool.not_eq_false']at this
  exact this
 ·intro h
  ext i hi
  simp only[BitVec.getElem_and,BitVec.getElem_not,BitVec.getElem_zero]
  cases x:(b8 a)[i]
  ·rfl
  ·rw[h i hi x];rfl
theorem XS(a:Int):leB a a:=leB_iff.2 fun _ _ x=>x
theorem jL{a b c:Int}(h1:leB a b)(h2:leB b c):leB a c:=leB_iff.2 fun i h x=>leB_iff.1 h2 i h (leB_iff.1 h1 i h x)
theorem tD(a:Int):leB a 255:=leB_iff.2 fun i h _=>by
 have:b8 255=BitVec.allOnes 8:=by decide
 rw[this,BitVec.getElem_allOnes]
theorem Ai8(b f:Int):leB b (bits .or .u8 b f):=leB_iff.2 fun i h x=>by
 rw[iF,PQ,BitVec.getElem_or,x,Bool.true_or]
theorem Ai9(f x:Int):leB x (bits .andNot .u8 255 (bits .andNot .u8 f x)):=leB_iff.2 fun i h y=>by
 have:b8 255=BitVec.allOnes 8:=by decide
 rw[UA,UA,PQ,PQ,this,BitVec.getElem_and,BitVec.getElem_allOnes,BitVec.getElem_not,BitVec.getElem_and,BitVec.getElem_not,y]
 simp
theorem Ai7{a b:Int}(h:leB a b):bits .andNot .u8 a b=0:=by
 unfold leB at h
 rw[UA,h];rfl
theorem pC{a:Int}(h:A4 a):((b8 a).toNat:Int)=a:=by
 unfold A4 at h
 rw[BitVec.toNat_ofInt]
 omega
theorem XR{a b:Int}(ha:A4 a)(hb:A4 b)(h:leB a b):a≤b:=by
 have e:b8 a &&& b8 b=b8 a:=by
  ext i hi
  rw[BitVec.getElem_and]
  cases x:(b8 a)[i]
  ·rfl
  ·rw[leB_iff.1 h i hi x];rfl
 have:=congrArg BitVec.toNat e
 rw[BitVec.toNat_and]at this
 have h2:(b8 a).toNat &&& (b8 b).toNat≤(b8 b).toNat:=Nat.and_le_right
 rw[←pC ha,←pC hb]
 omega
theorem jK{a b:Int}(ha:A4 a)(hb:A4 b)(h1:leB a b)(h2:leB b a):a=b:=by
 have:=XR ha hb h1;have:=XR hb ha h2;omega
/-! ### Chips stay chips -/
theorem X3{C:Cm}(ok:C.ok){t:Nat}(ht:t<C.s.pages.length):((C.pg t).length:Int)=32*C.cfg.cells/\AW (C.pg t):=by
 have e:C.pg t=C.s.pages[t]:=by unfold Cm.pg;simp[List.getD,List.getElem?_eq_getElem ht]
 rw[e]
 exact⟨ok.fits.cells _ (List.getElem_mem ht),ok.typed.bytes _ (List.getElem_mem ht)⟩
theorem tK{g:Nat->Int->Int}(h:∀i v,A4 (g i v))(n:Nat)(ns:List Int)(hn:ns.length≤n):AW (B5 g n ns):=by
 intro v hv
 obtain⟨j,hj,e⟩:=List.getElem_of_mem hv
 have hl:(B5 g n ns).length=ns.length:=by rw[XX]
 have:=MQ g n ns j (by omega) (by omega)
 rw[List.getD_eq_getElem?_getD,List.getElem?_eq_getElem hj]at this
 rw[←e]
 simp only[Option.getD_some]at this
 rw[this];exact h _ _
theorem AfN{C:Cm}(ok:C.ok){t:Nat}(ht:t<C.s.pages.length)(he:C.er t<C.cfg.erases):(CP C (t:Int)).1.ok:=by
 unfold CP
 split
 ·exact ok
 split
 ·exact ok
 have r:=X3 ok ht
 have hm:=ok.may.erases
 have hge:-(2^63)≤C.er t:=by
  unfold Cm.er
  by_cases c:t<C.s.erases.length
  ·have:=ok.typed.erases (C.s.erases[t]) (List.getElem_mem c)
   simp only[List.getD,List.getElem?_eq_getElem c,Option.getD_some]
   exact this.1
  ·simp only[List.getD,List.getElem?_eq_none (show C.s.erases.length≤t by omega),Option.getD_none];decide
 rw[Int.toNat_natCast]
 refine (ok.act.setErase (by unfold Cm.er at he hge;omega)).setPage ?_ ?_
 ·show ((CB (C.pg t) (BT C)).length:Int)=32*C.act.cfg.cells
  unfold CB
  rw[XX,DA];exact r.1
 ·exact tK (fun i v=>EV _ _ _) _ _ (Nat.le_refl _)
theorem AjQ{C:Cm}(ok:C.ok){t q:Nat}(ht:t<C.s.pages.length)(hq:(q:Int)<C.cfg.cells)(x:List Int):(CH C (t:Int) (q:Int) x).1.ok:=by
 unfold CH
 split
 ·exact ok
 have r:=X3 ok ht
 rw[Int.toNat_natCast,Int.toNat_natCast]
 have hb:(q+1)*32≤(C.pg t).length:=by omega
 have hcl:(AY (C.pg t) q).length=32:=FT hb
 refine ok.act.setPage ?_ ?_
 ·show ((CK (C.pg t) q (CS (AY (C.pg t) q) x (BT C))).length:Int)=32*C.act.cfg.cells
  rw[VI hb (VD _ _ _ hcl),DA];exact r.1
 ·show AW (CK (C.pg t) q (CS (AY (C.pg t) q) x (BT C)))
  unfold CK
  intro v hv
  rcases List.mem_append.1 hv with hv | hv
  ·rcases List.mem_append.1 hv with hv | hv
   ·exact r.2 v (List.mem_of_mem_take hv)
   ·exact tK (fun i v=>EV _ _ _) _ _ (Nat.le_of_eq hcl) v hv
  ·exact r.2 v (List.mem_of_mem_drop hv)
/-! ### Steps -/
theorem qA(C:Cm):CL C=0/\C.left≠0∨CL C=8/\C.left=0:=by
 unfold CL;by_cases c:C.left=0
 ·right;rw[if_neg (by simpa using c)];exact⟨rfl,c⟩
 ·left;rw[if_pos c];exact⟨rfl,c⟩
theorem oP{C:Cm}(h:C.left=0):C.act.out=true:=by unfold Cm.act;rw[if_neg (by simpa using h)]
theorem AfM{C:Cm}{B:Nat}(ho:C.out=false)(hB:B<C.s.pages.length)(hw:C.er B<C.cfg.erases):
  ∃D:Cm,CP C (B:Int)=(D,CL C)/\D.cfg=C.cfg/\D.s.blown=C.s.blown/\D.s.pages.length=C.s.pages.length/\(∀x,x≠B->D.pg x=C.pg x)/\(∀x,x≠B->D.er x=C.er x)/\
   D.pg B=CB (C.pg B) (BT C)/\D.out=decide (C.left=0):=by
 unfold CP
 rw[DB ho (by omega) (by omega),if_neg (by simp),Int.toNat_natCast]
 unfold Cm.er at hw
 rw[if_neg (by omega)]
 refine⟨_,rfl,DA C,?_,?_,?_,?_,?_,?_⟩
 ·show C.act.s.blown=_;rw[B3]
 ·show (C.act.s.pages.set B _).length=_;rw[List.length_set,B3]
 ·intro x hx
  show (C.act.s.pages.set B _).getD x []=C.s.pages.getD x []
  simp only[List.getD,List.getElem?_set_ne (Ne.symm hx),B3]
 ·intro x hx
  show (C.act.s.erases.set B _).getD x 0=C.s.erases.getD x 0
  simp only[List.getD,List.getElem?_set_ne (Ne.symm hx),B3]
 ·show (C.act.s.pages.set B _).getD B []=_
  rw[MH _ _ _ _ (by rw[B3];exact hB)]
  unfold EZ
  rw[Int.toNat_natCast];rfl
 ·show C.act.out=_
  by_cases c:C.left=0
  ·rw[oP c,decide_eq_true c]
  ·rw[JX ho c,decide_eq_false c]
theorem AjO{C:Cm}{P q:Nat}{rec:List Int}(ho:C.out=false)(hP:P<C.s.pages.length)(hq:(q:Int)<C.cfg.cells):
  ∃D:Cm,CH C (P:Int) (q:Int) rec=(D,CL C)/\D.cfg=C.cfg/\D.s.blown=C.s.blown/\D.s.pages.length=C.s.pages.length/\D.s.erases=C.s.erases/\(∀x,x≠P->D.pg x=C.pg x)/\
   D.pg P=CK (C.pg P) q (CS (AY (C.pg P) q) rec (BT C))/\D.out=decide (C.left=0):=by
 have ec:DP C (P:Int) (q:Int)=0:=by
  unfold DP
  rw[DB ho (by omega) (by omega),if_neg (by simp),DB ho (by omega) hq]
 unfold CH
 rw[ec,if_neg (by simp),Int.toNat_natCast,Int.toNat_natCast]
 refine⟨_,rfl,DA C,?_,?_,?_,?_,?_,?_⟩
 ·show C.act.s.blown=_;rw[B3]
 ·show (C.act.s.pages.set P _).length=_;rw[List.length_set,B3]
 ·show C.act.s.erases=_;rw[B3]
 ·intro x hx
  show (C.act.s.pages.set P _).getD x []=C.s.pages.getD x []
  simp only[List.getD,List.getElem?_set_ne (Ne.symm hx),B3]
 ·show (C.act.s.pages.set P _).getD P []=_
  rw[MH _ _ _ _ (by rw[B3];exact hP)]
  unfold EZ
  rw[Int.toNat_natCast];rfl
 ·show C.act.out=_
  by_cases c:C.left=0
  ·rw[oP c,decide_eq_true c]
  ·rw[JX ho c,decide_eq_false c]
structure ErL (B m:Nat) (C D:Cm) (e:Int):Prop where
 ok:D.ok
 cfg:D.cfg=C.cfg
 bl:D.s.blown=C.s.blown
 np:D.s.pages.length=C.s.pages.length
 pg:∀x,x<B∨B+m≤x->D.pg x=C.pg x
 er:∀x,x<B->D.er x=C.er x
 up:∀x i,leB ((C.pg x).getD i 0) ((D.pg x).getD i 0)
 ec:e=0/\D.out=false/\(∀x,B≤x->x<B+m->GU (D.pg x) C.cfg.cells.toNat)∨e=8/\D.out=true
theorem AfQ(base:Int):∀(m j B:Nat) (C:Cm),base+j=(B:Int)->C.ok->C.out=false->B+m≤C.s.pages.length->
  (∀x,B≤x->x<B+m->DW C (x:Int)=true->C.er x<C.cfg.erases)->ErL B m C (DK base m j C).1 (DK base m j C).2:=by
 intro m
 induction m with
 | zero=>
  intro j B C hB ok ho hp hw
  unfold DK
  exact⟨ok,rfl,rfl,rfl,fun _ _=>rfl,fun _ _=>rfl,fun _ _=>XS _,Or.inl ⟨rfl,ho,fun x h1 h2=>by omega⟩⟩
 | succ m ih=>
  intro j B C hB ok ho hp hw
  unfold DK
  rw[hB]
  have hBp:B<C.s.pages.length:=by omega
  have hlen:∀x,x<C.s.pages.length->(C.pg x).length=C.cfg.cells.toNat*32:=fun x hx=>by have:=(X3 ok hx).1;omega
  by_cases u:DW C (B:Int)=true
  case neg=>
   rw[if_neg u]
   have I:=ih (j+1) (B+1) C (by omega) ok ho (by omega) (fun x h1 h2=>hw x (by omega) (by omega))
   generalize DK base m (j+1) C=X at *
   have hbl:GU (C.pg B) C.cfg.cells.toNat:=by
    have:=AmF ok ho (page:=(B:Int)) (by omega) (by omega)
    rw[Int.toNat_natCast]at this
    by_cases c:GU (C.s.pages.getD B []) C.cfg.cells.toNat
    ·exact c
    ·rw[decide_eq_false c]at this;exact absurd this u
   refine⟨I.ok,I.cfg,I.bl,I.np,fun x hx=>I.pg x (by omega),fun x hx=>I.er x (by omega),I.up,?_⟩
   rcases I.ec with⟨e0,o0,b0⟩ | e8
   ·refine Or.inl ⟨e0,o0,fun x h1 h2=>?_⟩
    by_cases c:x=B
    ·rw[c,I.pg B (by omega)];exact hbl
    ·exact b0 x (by omega) (by omega)
   ·exact Or.inr e8
  rw[if_pos u]
  have hwB:=hw B (by omega) (by omega) u
  have okD:=AfN ok hBp hwB
  obtain⟨D,hD,d1,d2,d3,d5,d6,d9,d10⟩:=AfM ho hBp hwB
  rw[hD]at okD ⊢
  dsimp only at okD ⊢
  have hup:∀x i,leB ((C.pg x).getD i 0) ((D.pg x).getD i 0):=by
   intro x i
   by_cases c:x=B
   ·rw[c,d9]
    by_cases hi:i<(C.pg B).length
    ·unfold CB
     rw[MQ _ _ _ _ hi hi]
     exact Ai8 _ _
    ·have e1:(C.pg B).getD i 0=0:=by simp[List.getD,List.getElem?_eq_none (show (C.pg B).length≤i by omega)]
     rw[e1]
     exact leB_iff.2 fun k hk y=>by simp[b8]at y
   ·rw[d5 x c];exact XS _
  rcases qA C with⟨e0,c⟩ | ⟨e8,c⟩
  ·rw[e0,if_neg (by simp)]
   have oD:D.out=false:=by rw[d10,decide_eq_false c]
   have I:=ih (j+1) (B+1) D (by omega) okD oD (by omega) (fun x h1 h2 h3=>by
    rw[d6 x (by omega),d1]
    refine hw x (by omega) (by omega) ?_
    rw[←h3]
    exact (wC d1 (by rw[oD,ho]) d3 (by rw[Int.toNat_natCast];exact d5 x (by omega))).symm)
   generalize DK base m (j+1) D=X at *
   refine⟨I.ok,I.cfg.trans d1,I.bl.trans d2,I.np.trans d3,fun x hx=>(I.pg x (by omega)).trans (d5 x (by omega)),fun x hx=>(I.er x (by omega)).trans (d6 x (by omega)),fun x i=>jL (hup x i) (I.up x i),?_⟩
   rcases I.ec with⟨i0,o0,b0⟩ | i8
   ·refine Or.inl ⟨i0,o0,fun x h1 h2=>?_⟩
    rw[d1]at b0
    by_cases c2:x=B
    ·rw[c2,I.pg B (by omega),d9]
     exact (p9 (hlen B hBp) _ fun i=>by unfold BT;rw[if_pos c]).2
    ·exact b0 x (by omega) (by omega)
   ·exact Or.inr i8
  ·rw[e8,if_pos (by simp)]
   exact⟨okD,d1,d2,d3,fun x hx=>d5 x (by omega),fun x hx=>d6 x (by omega),hup,Or.inr ⟨rfl,by rw[d10,decide_eq_true c]⟩⟩
structure PrL (B area cells n:Nat) (bs:List Int) (C D:Cm) (e:Int):Prop where
 ok:D.ok
 cfg:D.cfg=C.cfg
 bl:D.s.blown=C.s.blown
 np:D.s.pages.length=C.s.pages.length
 pg:∀x,x<B∨B+area≤x->D.pg x=C.pg x
 es:D.s.erases=C.s.erases
 ec:e=0/\D.out=false/\(∀x,x<area*cells->ED B cells D x=if EN n n x then DC bs x else ffs) ∨
  e=8/\D.out=true/\(ED B cells D 0=ffs∨(∃f,ED B cells D 0=CS ffs (DC bs 0) f)/\∀x,1≤x->x<n->ED B cells D x=DC bs x)
theorem AjS(B area cells n:Nat)(bs:List Int)(hb:AW bs)(hn:0<n)(hN:n≤area*cells)(hc:0<cells):∀(m k:Nat) (C:Cm),m+k=n->C.ok->C.out=false->(cells:Int)=C.cfg.cells->B+area≤C.s.pages.length->
  (∀x,x<area*cells->ED B cells C x=if EN n k x then DC bs x else ffs)->PrL B area cells n bs C (FY (B:Int) cells bs n m k C).1 (FY (B:Int) cells bs n m k C).2:=by
 intro m
 induction m with
 | zero=>
  intro k C hk ok ho hcc hp hcell
  have:k=n:=by omega
  subst this
  unfold FY
  exact⟨ok,rfl,rfl,rfl,fun _ _=>rfl,rfl,Or.inl ⟨rfl,ho,hcell⟩⟩
 | succ m ih=>
  intro k C hk ok ho hcc hp hcell
  unfold FY
  have hlen:∀x,x<area->(C.pg (B+x)).length=cells*32:=fun x hx=>by have:=(X3 ok (t:=B+x) (by omega)).1;omega
  have hin:(k+1) % n<n:=Nat.mod_lt _ hn
  have hnd:=AiW (n:=n) (k:=k) (by omega)
  have hnx:=AfD (n:=n) (k:=k) (by omega)
  have hi0:(k+1) % n=0->k+1=n:=by
   intro y
   by_cases c:k+1<n
   ·rw[Nat.mod_eq_of_lt c]at y;omega
   ·omega
  generalize hi:(k+1) % n=i at *
  have hdiv:i / cells<area:=(Nat.div_lt_iff_lt_mul hc).2 (by omega)
  have hmod:i % cells<cells:=Nat.mod_lt _ hc
  have hBle:B≤B+i / cells:=Nat.le_add_right _ _
  have hne:∀x,x<B∨B+area≤x->x≠B+i / cells:=by
   intro x hx
   generalize i / cells=dd at *
   omega
  have eB:(B:Int)+((i / cells:Nat):Int)=((B+i / cells:Nat):Int):=by simp
  rw[eB]
  have okD:=AjQ ok (t:=B+i / cells) (q:=i % cells) (by omega) (by omega) (DC bs i)
  obtain⟨D,hD,d1,d2,d3,d4,d5,d7,d8⟩:=AjO (C:=C) (P:=B+i / cells) (q:=i % cells) (rec:=DC bs i) ho (by omega) (by omega)
  rw[hD]at okD ⊢
  dsimp only at okD ⊢
  have hold:AY (C.pg (B+i / cells)) (i % cells)=ffs:=by
   have:=hcell i (by omega)
   rw[if_neg hnd]at this
   exact this
  rw[hold]at d7
  have hclen:∀f,(CS ffs (DC bs i) f).length=32:=fun f=>VD _ _ _ rfl
  obtain⟨s1,s2,s3⟩:=AeH (B:=B) (i:=i) hc (fun x hx=>d5 x hx) d7 (hlen _ hdiv) (hclen _)
  rcases qA C with⟨e0,c⟩ | ⟨e8,c⟩
  ·rw[e0,if_neg (by simp)]
   have hmask:BT C=fun _=>255:=by funext q;unfold BT;rw[if_pos (by simpa using c)]
   rw[hmask,←AdQ,uA (iM bs i) (AeF hb i)]at s1
   have I:=ih (k+1) D (by omega) okD (by rw[d8,decide_eq_false c]) (by rw[d1];exact hcc) (by rw[d3];exact hp) (fun x hx=>by
    by_cases e:x=i
    ·rw[e,s1,if_pos ((hnx i).2 (Or.inr rfl))]
    ·rw[s2 x e,hcell x hx]
     by_cases dn:EN n k x
     ·rw[if_pos dn,if_pos ((hnx x).2 (Or.inl dn))]
     ·rw[if_neg dn,if_neg (fun y=>by rcases (hnx x).1 y with y | y;exact dn y;exact e y)])
   generalize FY (B:Int) cells bs n m (k+1) D=X at *
   exact⟨I.ok,I.cfg.trans d1,I.bl.trans d2,I.np.trans d3,fun x hx=>(I.pg x hx).trans (d5 x (hne x hx)),I.es.trans d4,I.ec⟩
  ·rw[e8,if_pos (by simp)]
   refine⟨okD,d1,d2,d3,fun x hx=>d5 x (hne x hx),d4,Or.inr ⟨rfl,by rw[d8,decide_eq_true c],?_⟩⟩
   by_cases i0:i=0
   ·right
    have hk1:=hi0 i0
    subst i0
    refine⟨⟨_,s1⟩,fun x h1 h2=>?_⟩
    rw[s2 x (by omega),hcell x (by omega),if_pos (show EN n k x from Or.inl ⟨h1,by omega,h2⟩)]
   ·left
    rw[s2 0 (fun y=>i0 y.symm),hcell 0 (by omega),if_neg (by unfold EN;omega)]
end Go.Proofs.YteedolonhdbieaaGreatDoor
end
section
namespace Go.Proofs.YteedolonhdbieaaGreatDoor
open Go Go.Vc
set_option maxRecDepth 100000
attribute [local irreducible] BC AN
def DM(C:Cm)(a:Int):Nat:=(2+a*C.cfg.area).toNat
def DY(C:Cm):Nat:=C.cfg.area.toNat*C.cfg.cells.toNat
def ctA(C:Cm)(a:Int)(x:Nat):Int:=(ED (DM C a) C.cfg.cells.toNat C (x / 32)).getD (x % 32) 0
theorem MA(C:Cm)(a:Int)(x:Nat):ctA C a x=(C.pg (DM C a+x / 32 / C.cfg.cells.toNat)).getD (x / 32 % C.cfg.cells.toNat*32+x % 32) 0:=by
 unfold ctA ED
 rw[GW _ _ _ (Nat.mod_lt _ (by decide))]
theorem I0{C:Cm}(ok:C.ok):CN C.cfg=((DY C*32:Nat):Int):=by
 have h1:=ok.may.area;have h2:=ok.may.cells;have h3:=ok.may.slots
 unfold CN DY
 rw[if_pos ok.may]
 have e1:(C.cfg.area.toNat:Int)=C.cfg.area:=by omega
 have e2:(C.cfg.cells.toNat:Int)=C.cfg.cells:=by omega
 rw[←e1,←e2];simp
theorem AdB{C:Cm}(ok:C.ok)(ho:C.out=false){a:Int}(a01:a=0∨a=1):∀n,n≤DY C->∀x,x<32*n->(CZ C a n).getD x 0=ctA C a x:=by
 intro n
 induction n with
 | zero=>intro _ x hx;omega
 | succ n ih=>
  intro hn x hx
  have hl:=T6 ok a n
  have hcl:(CI C (2+a*C.cfg.area+((n / C.cfg.cells.toNat:Nat):Int)) ((n % C.cfg.cells.toNat:Nat):Int)).1.length=32:=YD ok _ _
  have e:CZ C a (n+1)=CZ C a n++(CI C (2+a*C.cfg.area+((n / C.cfg.cells.toNat:Nat):Int)) ((n % C.cfg.cells.toNat:Nat):Int)).1:=rfl
  rw[e]
  by_cases c:x<32*n
  ·rw[List.getD_eq_getElem?_getD,List.getElem?_append_left (by rw[hl];exact c),←List.getD_eq_getElem?_getD]
   exact ih (by omega) x c
  ·rw[List.getD_eq_getElem?_getD,List.getElem?_append_right (by rw[hl];omega),←List.getD_eq_getElem?_getD,hl]
   have hx2:x / 32=n:=by omega
   have hx3:x-32*n=x % 32:=by omega
   have ri:=uL ok ho (ar:=a) (by omega) (by omega) (n:=n) (by unfold DY at hn;omega)
   have er:(CI C (2+a*C.cfg.area+((n / C.cfg.cells.toNat:Nat):Int)) ((n % C.cfg.cells.toNat:Nat):Int)).1=AY (C.pg (DM C a+n / C.cfg.cells.toNat)) (n % C.cfg.cells.toNat):=by
    unfold CI at ri ⊢
    split at ri
    ·rename_i y;exact absurd ri y
    ·rename_i y
     rw[if_neg y]
     have h1:=ok.may.area
     have et:(2+a*C.cfg.area+((n / C.cfg.cells.toNat:Nat):Int)).toNat=DM C a+n / C.cfg.cells.toNat:=by
      unfold DM
      generalize n / C.cfg.cells.toNat=q
      rcases a01 with rfl | rfl <;> omega
     rw[et,Int.toNat_natCast];rfl
   rw[er,hx3]
   unfold ctA ED
   rw[hx2]
theorem GR{C:Cm}(ok:C.ok)(ho:C.out=false){a:Int}(a01:a=0∨a=1){x:Nat}(hx:x<32*DY C):(BG C a).getD x 0=ctA C a x:=AdB ok ho a01 (DY C) (Nat.le_refl _) x hx
theorem PO{C:Cm}(ok:C.ok)(a:Int):(BG C a).length=32*DY C:=T6 ok a _
theorem UI{C:Cm}(ok:C.ok)(ho:C.out=false){a:Int}(a01:a=0∨a=1){x:Nat}(hx:x<32*DY C):A4 (ctA C a x):=by
 rw[←GR ok ho a01 hx]
 have hl:=PO ok a
 have hall:AW (BG C a):=WJ ok a _
 have h2:x<(BG C a).length:=by omega
 rw[List.getD_eq_getElem?_getD,List.getElem?_eq_getElem h2]
 exact hall _ (List.getElem_mem h2)
theorem iY{bs:List Int}(hb:AW bs)(x:Nat):A4 (bs.getD x 0):=by
 rw[List.getD_eq_getElem?_getD]
 cases e:bs[x]? with
 | none=>exact⟨by decide,by decide⟩
 | some v=>exact hb v (List.mem_iff_getElem?.2 ⟨x,e⟩)
theorem X1(b:List Int):AP b 12=b.getD 12 0+256*b.getD 13 0+65536*b.getD 14 0+16777216*b.getD 15 0:=rfl
/-! ### Images -/
def Sub(s b:List Int):Prop:=48≤s.length/\s.length≤b.length/\∀x,x<s.length->leB (s.getD x 0) (b.getD x 0)
def Oth(S:List (List Int))(b:List Int):Prop:=∃s,s∈S/\s≠b/\Sub s b
def DG(S:List (List Int))(C:Cm)(a:Int):Prop:=
 CN C.cfg<48∨ctA C a 0=255∨∃s,s∈S/\AW s/\BW s=(0,0)/\(s.length:Int)≤CN C.cfg/\∀x,x<s.length->leB (s.getD x 0) (ctA C a x)
theorem t3{b:List Int}(h:BW b=(0,0)):b.getD 0 0=80:=by
 unfold BW at h
 split at h
 ·injection h with h;cases h
 cases e:DE b 16 0 with
 | some w=>
  rw[e]at h
  dsimp only at h
  unfold DE at e
  split at e
  ·injection e with e;rw[←e]at h;injection h with h;cases h
  ·split at e
   ·rename_i g
    unfold D6 at g
    rw[if_pos (by decide)]at g
    have:=beq_iff_eq.1 g
    rw[this];decide
   ·injection e with e;rw[←e]at h;injection h with h;cases h
 | none=>
  unfold DE at e
  split at e
  ·cases e
  ·split at e
   ·rename_i g
    unfold D6 at g
    rw[if_pos (by decide)]at g
    have:=beq_iff_eq.1 g
    rw[this];decide
   ·cases e
theorem VB{b:List Int}(hb:AW b)(h:BW b=(0,0)):48≤b.length/\(b.length:Int)=48+AP b 12:=by
 have r:=U8 hb 12
 obtain⟨n,hn⟩:∃n:Nat,AP b 12=n:=⟨(AP b 12).toNat,by omega⟩
 have:=(VC hb h hn).1
 omega
theorem o5{C:Cm}(ok:C.ok)(ho:C.out=false){a:Int}(a01:a=0∨a=1)(h:(AJ C a).2=0):
  48≤CN C.cfg/\BW (AJ C a).1=(0,0)/\((AJ C a).1.length:Int)=48+AP (BG C a) 12/\((AJ C a).1.length:Int)≤CN C.cfg/\∀x,x<(AJ C a).1.length->(AJ C a).1.getD x 0=ctA C a x:=by
 have hs:=I0 ok
 have hl:=PO ok a
 have r:0≤AP (BG C a) 12/\AP (BG C a) 12<2^32:=U8 (WJ ok a _) 12
 unfold AJ at h ⊢
 by_cases c1:AT C a 2=0
 case neg=>rw[if_pos c1]at h;exact absurd h c1
 rw[if_neg (by simpa using c1)]at h ⊢
 by_cases c2:CN C.cfg<48
 ·rw[if_pos c2]at h;cases h
 rw[if_neg c2]at h ⊢
 by_cases c3:CN C.cfg<48+AP (BG C a) 12
 ·rw[if_pos c3]at h;cases h
 rw[if_neg c3]at h ⊢
 by_cases c4:(BW ((BG C a).take (48+AP (BG C a) 12).toNat)).1=0
 case neg=>rw[if_pos (by simpa using c4)]at h;cases h
 rw[if_neg (by simpa using c4)]
 have hlen:((BG C a).take (48+AP (BG C a) 12).toNat).length=(48+AP (BG C a) 12).toNat:=by rw[List.length_take,hl];omega
 refine⟨by omega,j6 c4,by dsimp only;rw[hlen];omega,by dsimp only;rw[hlen];omega,fun x hx=>?_⟩
 dsimp only at hx ⊢
 rw[hlen]at hx
 rw[List.getD_eq_getElem?_getD,List.getElem?_take_of_lt hx,←List.getD_eq_getElem?_getD]
 exact GR ok ho a01 (by omega)
theorem i9{S:List (List Int)}{C:Cm}(ok:C.ok)(ho:C.out=false){a:Int}(a01:a=0∨a=1)(H:DG S C a)(h:(AJ C a).2=0):∃s,s∈S/\Sub s (AJ C a).1:=by
 obtain⟨h1,h2,h3,h4,h5⟩:=o5 ok ho a01 h
 have hb:=WK ok a
 have hp:=VB hb h2
 have hs:=I0 ok
 rcases H with H | H | ⟨s,s1,s2,s3,s4,s5⟩
 ·omega
 ·have:=t3 h2
  rw[h5 0 (by omega),H]at this
  exact absurd this (by decide)
 ·obtain⟨p1,p2⟩:=VB s2 s3
  refine⟨s,s1,p1,?_,fun x hx=>?_⟩
  ·have le:AP s 12≤AP (BG C a) 12:=by
    have g:∀x,x<48->s.getD x 0≤(BG C a).getD x 0:=fun x hx=>by
     rw[GR ok ho a01 (by omega)]
     exact XR (iY s2 x) (UI ok ho a01 (by omega)) (s5 x (by omega))
    have g0:=g 12 (by decide);have g1:=g 13 (by decide);have g2:=g 14 (by decide);have g3:=g 15 (by decide)
    rw[X1,X1];omega
   omega
  ·have le:(s.length:Int)≤(AJ C a).1.length:=by
    have le:AP s 12≤AP (BG C a) 12:=by
     have g:∀x,x<48->s.getD x 0≤(BG C a).getD x 0:=fun x hx=>by
      rw[GR ok ho a01 (by omega)]
      exact XR (iY s2 x) (UI ok ho a01 (by omega)) (s5 x (by omega))
     have g0:=g 12 (by decide);have g1:=g 13 (by decide);have g2:=g 14 (by decide);have g3:=g 15 (by decide)
     rw[X1,X1];omega
    omega
   rw[h5 x (by omega)]
   exact s5 x hx
theorem o6{C:Cm}(ok:C.ok)(ho:C.out=false){a:Int}(a01:a=0∨a=1){bs:List Int}(hb:AW bs)(hp:BW bs=(0,0))(hs:(bs.length:Int)≤CN C.cfg)(h:∀x,x<bs.length->ctA C a x=bs.getD x 0):AJ C a=(bs,0):=by
 obtain⟨p1,p2⟩:=VB hb hp
 have sc:=I0 ok
 have hl:=PO ok a
 have en:AP (BG C a) 12=AP bs 12:=by
  unfold AP
  rw[GR ok ho a01 (by omega),GR ok ho a01 (by omega),GR ok ho a01 (by omega),GR ok ho a01 (by omega),h _ (by omega),h _ (by omega),h _ (by omega),h _ (by omega)]
 have et:(BG C a).take (48+AP bs 12).toNat=bs:=by
  have hlen:((BG C a).take (48+AP bs 12).toNat).length=bs.length:=by rw[List.length_take,hl];omega
  refine ME hlen fun x hx=>?_
  rw[hlen]at hx
  rw[List.getD_eq_getElem?_getD,List.getElem?_take_of_lt (by omega),←List.getD_eq_getElem?_getD,GR ok ho a01 (by omega),h x hx]
 have hask:AT C a 2=0:=by unfold AT;rw[if_neg (by rw[ho];decide),if_neg (by omega),if_neg (by omega)]
 unfold AJ
 rw[en,et,if_neg (by rw[hask];decide),if_neg (by omega),if_neg (by omega),if_neg (by rw[hp];decide)]
/-! ### A Write -/
structure WrL (C D:Cm) (a:Int) (bs:List Int) (e:Int):Prop where
 ok:D.ok
 cfg:D.cfg=C.cfg
 bl:D.s.blown=C.s.blown
 np:D.s.pages.length=C.s.pages.length
 pg:∀x,x<2->D.pg x=C.pg x
 er:∀x,x<2->D.er x=C.er x
 other:∀x,x<32*DY C->ctA D (1-a) x=ctA C (1-a) x
 ec:e=0/\D.out=false/\(∀x,x<bs.length->ctA D a x=bs.getD x 0) ∨
  e=8/\D.out=true/\((∀x,leB (ctA C a x) (ctA D a x))∨ctA D a 0=255∨∀x,x<bs.length->leB (bs.getD x 0) (ctA D a x))
theorem AmX{C:Cm}(ok:C.ok)(ho:C.out=false){a:Int}(a01:a=0∨a=1){bs:List Int}(hb:AW bs)(h48:48≤bs.length)(hsz:¬CN C.cfg<bs.length)(hw:¬(DX C a).1=true):
  WrL C (FD C a bs).1 a bs (FD C a bs).2:=by
 have hm:=ok.may.area
 have hcl:=ok.may.cells
 have hsl:=ok.may.slots
 have hpg:=ok.fits.pages
 have hnp:C.cfg.np=2+2*C.cfg.area:=rfl
 have sc:=I0 ok
 have hask:AT C a 2=0:=by unfold AT;rw[if_neg (by rw[ho];decide),if_neg (by omega),if_neg (by omega)]
 have hw0:(DX C a).2=0:=by unfold DX;rw[if_neg (by rw[hask];decide)]
 unfold FD
 rw[if_neg (by simpa using hw0),if_neg (by omega),if_neg hsz,if_neg hw]
 have z:0≤a*C.cfg.area/\a*C.cfg.area≤C.cfg.area:=by rcases a01 with rfl | rfl <;> omega
 obtain⟨B,hB⟩:∃B,B=DM C a:=⟨_,rfl⟩
 have hBI:(B:Int)=2+a*C.cfg.area:=by rw[hB];unfold DM;omega
 rw[←hBI]
 have hworn:¬TE C a C.cfg.area.toNat:=by
  intro y
  apply hw
  unfold DX
  rw[if_neg (by rw[hask];decide)]
  exact decide_eq_true y
 have I:=AfQ (B:Int) C.cfg.area.toNat 0 B C (by simp) ok ho (by omega)
  (fun x h1 h2 h3=>by
   apply Classical.byContradiction
   intro hge
   refine hworn ⟨x-B,by omega,?_⟩
   have ex:2+a*C.cfg.area+((x-B:Nat):Int)=(x:Int):=by omega
   rw[ex]
   have ee:EO C (x:Int)=(C.er x,0):=by unfold EO;rw[DB ho (by omega) (by omega),if_neg (by simp),Int.toNat_natCast];rfl
   rw[ee]
   exact⟨rfl,by omega,h3⟩)
 have otherPg:∀D:Cm,D.cfg=C.cfg->(∀x,x<B∨B+C.cfg.area.toNat≤x->D.pg x=C.pg x)->∀x,x<32*DY C->ctA D (1-a) x=ctA C (1-a) x:=by
  intro D hc hp x hx
  rw[MA,MA,hc]
  have eb:DM D (1-a)=DM C (1-a):=by unfold DM;rw[hc]
  rw[eb]
  have hq:x / 32 / C.cfg.cells.toNat<C.cfg.area.toNat:=(Nat.div_lt_iff_lt_mul (by omega)).2 (by unfold DY at hx;omega)
  generalize x / 32 / C.cfg.cells.toNat=q at *
  rw[hp]
  unfold DM
  rcases a01 with rfl | rfl
  ·right;omega
  ·left;omega
 generalize DK (B:Int) C.cfg.area.toNat 0 C=E at *
 rcases I.ec with⟨e0,o0,b0⟩ | ⟨e8,o8⟩
 case inr=>
  rw[if_pos (by rw[e8];decide)]
  refine⟨I.ok,I.cfg,I.bl,I.np,fun x hx=>I.pg x (by omega),fun x hx=>I.er x (by omega),otherPg _ I.cfg I.pg,Or.inr ⟨e8,o8,Or.inl fun x=>?_⟩⟩
  rw[MA,MA,I.cfg]
  have eb:DM E.1 a=DM C a:=by unfold DM;rw[I.cfg]
  rw[eb]
  exact I.up _ _
 rw[if_neg (by rw[e0];decide)]
 have hN:(bs.length+31) / 32≤C.cfg.area.toNat*C.cfg.cells.toNat:=by unfold DY at sc;omega
 have P:=AjS B C.cfg.area.toNat C.cfg.cells.toNat ((bs.length+31) / 32) bs hb (by omega) hN (by omega) ((bs.length+31) / 32) 0 E.1 (by omega) I.ok o0 (by rw[I.cfg];omega) (by rw[I.np];omega)
  (fun x hx=>by
   rw[if_neg (by unfold EN;omega)]
   exact AdR (by omega) b0 x hx)
 generalize FY (B:Int) C.cfg.cells.toNat bs ((bs.length+31) / 32) ((bs.length+31) / 32) 0 E.1=F at *
 have hcfg:F.1.cfg=C.cfg:=P.cfg.trans I.cfg
 have eb:DM F.1 a=B:=by rw[hB];unfold DM;rw[hcfg]
 have hct:∀x,ctA F.1 a x=(ED B C.cfg.cells.toNat F.1 (x / 32)).getD (x % 32) 0:=fun x=>by unfold ctA;rw[eb,hcfg]
 have want:∀x,x<bs.length->(DC bs (x / 32)).getD (x % 32) 0=bs.getD x 0:=fun x hx=>by rw[AeG];unfold k8;rw[if_pos hx]
 refine⟨P.ok,hcfg,P.bl.trans I.bl,P.np.trans I.np,fun x hx=>(P.pg x (by omega)).trans (I.pg x (by omega)),fun x hx=>by have:=I.er x (by omega);rw[←this];unfold Cm.er;rw[P.es],otherPg _ hcfg (fun x hx=>(P.pg x hx).trans (I.pg x hx)),?_⟩
 rcases P.ec with⟨p0,q0,r0⟩ | ⟨p8,q8,r8⟩
 ·refine Or.inl ⟨p0,q0,fun x hx=>?_⟩
  rw[hct,r0 (x / 32) (by omega),if_pos ((AfC (by omega)).2 (by omega))]
  exact want x hx
 ·refine Or.inr ⟨p8,q8,?_⟩
  rcases r8 with r8 | ⟨⟨f,r8⟩,r9⟩
  ·right;left
   rw[hct]
   show (ED B C.cfg.cells.toNat F.1 0).getD 0 0=255
   rw[r8];decide
  ·right;right
   intro x hx
   rw[hct]
   by_cases c:x / 32=0
   ·rw[c,r8,←want x hx,c]
    unfold CS
    rw[MQ _ _ _ _ (show x % 32<ffs.length from Nat.lt_of_lt_of_le (Nat.mod_lt _ (by decide)) (by decide)) (Nat.mod_lt _ (by decide)),AfT _ (Nat.mod_lt _ (by decide))]
    exact Ai9 _ _
   ·rw[r9 (x / 32) (by omega) (by omega),want x hx]
    exact XS _
end Go.Proofs.YteedolonhdbieaaGreatDoor
end
