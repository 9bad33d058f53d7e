/- LoaderDoes and its parts, laid together by a program of ours: Gt1 Ld0 Gt2 Gt3 GtW Tq5 St7 St8 Gt6 Sp0 Gt8 GtA Sp2 SpW Sp3 Rg1 Rg2 Ld1 Ld2 Lx1 Ly4 -/
import Derived.Test.YteedolonhdbieaaGreatDoorK16
set_option autoImplicit false
set_option linter.all false
section
namespace Go.Proofs.YteedolonhdbieaaGreatDoor
open Go Go.Vc
set_option maxRecDepth 100000
attribute [local irreducible] BI
def AM(C:Cm)(L:List Sec)(bs:List Int):Int:=
 if C.out=true then 8 else if (CP bs).1≠0 then (CP bs).1
 else if C.cfg.slots≤bs.getD 5 0 then 5
 else match L.find? (fun x=>x.1 == bs.getD 6 0) with
  | none=>13
  | some s=>if C.cfg.keys≤bs.getD 6 0 then 13 else if (CL C (bs.getD 6 0)).1=true then 14
   else if BI s.2 (bs.take (bs.length-32))≠(bs.drop (bs.length-32)).take 32 then 15
   else if AV bs 8<(C2 C (bs.getD 5 0)).1 then 16 else if DX C.cfg<AV bs 8 then 16 else 0
theorem pF{bs:List Int}:∀(m x:Nat),DW bs m x=none->∀y,x≤y->y<x+m->GE y (bs.getD y 0)=true
 | 0,x,_,y,h1,h2=>by omega
 | m+1,x,h,y,h1,h2=>by
  unfold DW at h
  by_cases c:x=bs.length
  ·rw[if_pos c]at h;cases h
  rw[if_neg c]at h
  by_cases g:GE x (bs.getD x 0)=true
  ·rw[if_pos g]at h
   by_cases e:y=x
   ·rw[e];exact g
   ·exact pF m (x+1) h y (by omega) (by omega)
  ·rw[if_neg g]at h;cases h
theorem X9{bs:List Int}(hb:A4 bs){n:Nat}(h:CP bs=(0,0))(hn:AV bs 12=n):bs.length=48+n/\(0≤bs.getD 5 0/\bs.getD 5 0<8)/\(0≤bs.getD 6 0/\bs.getD 6 0<64)/\n≤524240:=by
 unfold CP at h
 by_cases c1:524288<bs.length
 ·rw[if_pos c1]at h;injection h with h;cases h
 rw[if_neg c1]at h
 have hh:DW bs 16 0=none:=by
  cases e:DW bs 16 0 with
  | none=>rfl
  | some w=>
   rw[e]at h
   dsimp only at h
   exfalso
   have key:∀m x,DW bs m x=some w->w.1≠0:=by
    intro m
    induction m with
    | zero=>intro x y;cases y
    | succ m ih=>
     intro x y
     unfold DW at y
     by_cases c:x=bs.length
     ·rw[if_pos c]at y;injection y with y;rw[←y];exact (by decide:(6:Int)≠0)
     rw[if_neg c]at y
     by_cases g:GE x (bs.getD x 0)=true
     ·rw[if_pos g]at y;exact ih _ y
     ·rw[if_neg g]at y;injection y with y;rw[←y];exact (by decide:(5:Int)≠0)
   have:=key 16 0 e
   rw[h]at this
   exact this rfl
 rw[hh]at h
 dsimp only at h
 have m5:=pF 16 0 hh 5 (by decide) (by decide)
 have m6:=pF 16 0 hh 6 (by decide) (by decide)
 have e5:bs.getD 5 0<8:=by
  have:GE 5 (bs.getD 5 0)=decide (bs.getD 5 0<8):=rfl
  rw[this]at m5;exact of_decide_eq_true m5
 have e6:bs.getD 6 0<64:=by
  have:GE 6 (bs.getD 6 0)=decide (bs.getD 6 0<64):=rfl
  rw[this]at m6;exact of_decide_eq_true m6
 have b5:=C6 hb 5
 have b6:=C6 hb 6
 unfold CC at b5 b6
 rw[hn]at h
 by_cases c2:(524240:Int)<(n:Int)
 ·rw[if_pos c2]at h;injection h with h;cases h
 rw[if_neg c2]at h
 by_cases c3:(bs.length:Int)<48+(n:Int)
 ·rw[if_pos c3]at h;injection h with h;cases h
 rw[if_neg c3]at h
 by_cases c4:48+(n:Int)<bs.length
 ·rw[if_pos c4]at h;injection h with h;cases h
 exact⟨by omega,⟨b5.1,e5⟩,⟨b6.1,e6⟩,by omega⟩
theorem Ab7{C:Cm}(ho:¬C.out=true){slot:Int}(hs:0≤slot):(C2 C slot).2=if C.cfg.slots≤slot then 2 else 0:=by
 have a:AT C slot C.cfg.slots=if C.cfg.slots≤slot then 2 else 0:=by unfold AT;rw[if_neg ho,if_neg (by omega)]
 unfold C2
 rw[a]
 by_cases g:C.cfg.slots≤slot
 ·rw[if_pos g,if_pos (by decide)]
 ·rw[if_neg g,if_neg (by decide)]
theorem R4{f:FuncId}{run:Run}{c:Array Value}{ds:List DV}{Q:List DV->HP}{h:H}(hr:AE PP f run)(hd:∀x,x∈ds->x.ok)(hc:c.toList=ds.map DV.flat)(hrun:run ds Q h):HM PP (.func (.func f) (Array.mk []) c) [] Q h:=by
 refine⟨f,Array.mk [],c,rfl,?_⟩
 have:=hr ds Q h hd hrun
 rw[←hc]at this
 simpa using this
theorem R0(l:List Addr):∀x,x∈l.map DV.addr->x.ok:=by
 intro x hx
 obtain⟨a,_,rfl⟩:=List.mem_map.1 hx
 trivial
section
variable {h0 h:H} {A:List Ent} {i j p r b s m:Nat} {C:Cm}
theorem Am3{Q:Bool->Int->HP}{key:Int}{bb tag:List Int}{bp:Option Addr}{bl bc:Nat}{R:List SR}{x:SR}(hs:Sat h0 A h)(cr:At A i (blk r [.map (some m)]))(cm:At A j (ED m (R.map SR.ent)))(gd:SR.good R)
  (rR:∀x,x∈R->∀h',Sat h0 A h'->hsv h' x.p 1 x.bytes.length (AA .u8 x.bytes)) (hx:SR.at_ R key=some x) (ht:tag.length=32) (htb:BU tag) (hbc:bl≤bc) (hbl:bl<2^40)
  (rb:∀h',Sat h0 A h'->hsv h' bp 1 bl (AA .u8 bb)) (k:∀h',Sat h0 A h'->Q (decide (BI x.bytes bb=tag)) 0 h'):PR ⟨r,0,none⟩ key bp bl bc tag Q h:=by
 unfold PR gL
 try simp only[AF,Nat.zero_add,List.append_nil]
 have hx2:x∈R:=List.mem_of_find?_eq_some hx
 have hg:=gd x hx2
 have ml:DT (.int .i64 key) (.one (.slice none 0 0)) (R.map SR.ent)=some (.one (.slice x.p x.bytes.length x.c),true):=by rw[p0,hx]
 intro tb _ hn;replace hs:=Sat.new hs hn
 refine ApT hs cr.s cm.s ml hg.2.1 (by omega) hbc hbl (fun h' hs'=>rR x hx2 _ hs'.drop) (fun h' hs'=>rb _ hs'.drop) ?_
 intro h3 hs
 intro nb _ hn;replace hs:=Sat.new hs hn
 refine⟨Sat.can hs .z (by simp[AB]),?_⟩
 intro h4 e
 replace hs:=Sat.wra (xs:=AA .u8 (BI x.bytes bb)) hs .z e (by simp[AB,FD])
 clear e
 simp only[AG]at hs
 rw[if_neg (by decide)]
 refine AkL (yC _ _) htb (FD _ _) ht (hs.row0 .z) (hs.row0 zs1) ?_
 exact k _ hs.drop.drop
theorem AlS{Q:Option Addr->Nat->Nat->HP}{bs:List Int}{q:Option Addr}{l c:Nat}(hs:Sat h0 A h)(rd:hsv h q 1 l (AA .u8 bs))(hl:32≤l)(hlc:l≤c)(hl2:l<2^40)
  (k:∀p' c' h',l-32≤c'->Sat h0 (slE p' (l-32) c' 1 (AA .u8 (bs.take (l-32)))::A) h'->Q p' (l-32) c' h'):PN q l c Q h:=by
 unfold PN gG
 have hbl:bs.length=l:=by have:=rd.1;simpa using this
 rw[AD,if_neg (by rw[decide_eq_true_iff];omega)]
 have e:IntKind.i64.wrap ((l:Int)-32)=((l-32:Nat):Int):=by rw[AL (by omega)];omega
 rw[e]
 refine⟨by omega,by omega,?_⟩
 simp only[Int.toNat_natCast,Nat.sub_zero]
 have R:=IK (o:=0) (n:=l-32) (m:=c) rd (by omega) (by omega)
 rw[List.drop_zero]at R
 refine⟨_,R,?_⟩
 replace hs:=hs.sl_nil 1 none
 refine Sat.app hs (i:=0) (vs:=AA .u8 (bs.take (l-32))) .z (by simp;omega) rfl (A5 _ _) (by dsimp only;omega) ?_
 intro p' c' h' hs
 simp only[AG,List.nil_append,Nat.zero_add]at hs ⊢
 exact k p' c' h' (R5 hs .z) hs
theorem EG{Q:Int->Int->Int->Option Addr->Nat->Nat->List Int->Int->HP}{nb:Nat}{a1 a2 a3:Int}{x:Sl}{t:List Int}(e:Int)(ht:t.length=32)(hs:Sat h0 A h)(a:At A i (blk nb (AP a1 a2 a3 x t)))(k:∀h',Sat h0 (put A i (blk nb (AP 0 0 0 (none,0,0) (AB 32)))) h'->Q 0 0 0 none 0 0 (AB 32) e h'):
  AC h ⟨nb,0,none⟩ 36/\∀h1,h1=hwr h ⟨nb,0,none⟩ (.int .i64 0::.int .i64 0::.int .i64 0::.slice none 0 0::AA .u8 (AB 32))->∃i1:Int,hc h1 ⟨nb,0,none⟩=some (.int .i64 i1)/\∃i2:Int,hc h1 ⟨nb,1,none⟩=some (.int .i64 i2)/\∃i3:Int,hc h1 ⟨nb,2,none⟩=some (.int .i64 i3)/\
   ∃(o:Option Addr) (n m:Nat),hc h1 ⟨nb,3,none⟩=some (.slice o n m)/\∃l:List Int,l.length=32/\hrow h1 ⟨nb,4,none⟩ .u8 l/\Q i1 i2 i3 o n m l e h1:=by
 refine⟨Sat.can hs a (by simp[ht]),?_⟩
 intro h1 e1
 replace hs:=Sat.wra (xs:=AP 0 0 0 (none,0,0) (AB 32)) hs a e1 (by simp[ht,AB])
 exact⟨_,hs.ld (a.put _) rfl,_,hs.ld (a.put _) rfl,_,hs.ld (a.put _) rfl,_,_,_,hs.ld (a.put _) rfl,_,BQ 32,CB hs (a.put _) (BQ 32),k _ hs⟩
theorem wV{Q:Int->Int->Int->Option Addr->Nat->Nat->List Int->Int->HP}{mm rr jm jr:Nat}{bs:List Int}{q:Option Addr}{l c:Nat}{R:List SR}(hg:hc h0 ⟨0,0,none⟩=some E0)(hs:Sat h0 A h)(ci:At A i (AH p C))(cl':At A j (BY r p))(st:At A m (DG s p r))
  (cr:At A jr (blk rr [.map (some mm)])) (cm:At A jm (ED mm (R.map SR.ent))) (gd:SR.good R) (rR:∀x,x∈R->∀h',Sat h0 A h'->hsv h' x.p 1 x.bytes.length (AA .u8 x.bytes))
  (rd:∀h',Sat h0 A h'->hsv h' q 1 l (AA .u8 bs)) (hb:A4 bs) (hlc:l≤c) (hl:l<2^50)
  (k1:∀e,e=AM C (R.map SR.kv) bs->e≠0->∀h',Sat h0 A h'->Q 0 0 0 none 0 0 (AB 32) e h')
  (k2:∀(own:Sl) (n:Nat),AM C (R.map SR.kv) bs=0->CP bs=(0,0)->AV bs 12=n->bs.length=48+n->∀h',Sat h0 (sE own 1 (AA .u8 bs)::A) h'->Q (bs.getD 5 0) (bs.getD 6 0) (AV bs 8) (AJ own.1 16 (16+n) 1) n n ((bs.drop (16+n)).take 32) 0 h'):
  GO ⟨s,0,none⟩ ⟨rr,0,none⟩ q l c Q h:=by
 unfold GO fZ
 try simp only[AF,Nat.zero_add,List.append_nil]
 have hbl:bs.length=l:=by have:=(rd _ hs).1;simpa using this
 have ok:=CG hs ci
 have w1:IntKind.i64.wrap (0+1)=1:=by decide
 have w2:IntKind.i64.wrap (1+1)=2:=by decide
 have w3:IntKind.i64.wrap (2+1)=3:=by decide
 have w4:IntKind.i64.wrap (3+1)=4:=by decide
 have w5:IntKind.i64.wrap (4+1)=5:=by decide
 have w6:IntKind.i64.wrap (5+1)=6:=by decide
 obtain⟨G,hG⟩:∃G,G=AM C (R.map SR.kv) bs:=⟨_,rfl⟩
 have hG0:=hG
 rw[←hG]at k1 k2
 unfold AM at hG
 intro n13 _ hn;replace hs:=Sat.new hs hn
 intro n16 _ hn;replace hs:=Sat.new hs hn
 intro n19 _ hn;replace hs:=Sat.new hs hn
 intro n22 _ hn;replace hs:=Sat.new hs hn
 intro n25 _ hn;replace hs:=Sat.new hs hn
 intro n28 _ hn;replace hs:=Sat.new hs hn
 obtain⟨FS,hFS⟩:∃FS:List Value,FS=[.func (.func xS) (Array.mk []) (Array.mk [.pointer (some ⟨n13,0,none⟩)]),.func (.func xU) (Array.mk []) (Array.mk [.pointer (some ⟨n19,0,none⟩),.pointer (some ⟨n25,0,none⟩)]),.func (.func xV) (Array.mk []) (Array.mk [.pointer (some ⟨n13,0,none⟩),.pointer (some ⟨n25,0,none⟩)]),.func (.func xW) (Array.mk []) (Array.mk [.pointer (some ⟨n13,0,none⟩),.pointer (some ⟨n25,0,none⟩),.pointer (some ⟨n16,0,none⟩)]),.func (.func xX) (Array.mk []) (Array.mk [.pointer (some ⟨n16,0,none⟩),.pointer (some ⟨n25,0,none⟩),.pointer (some ⟨n19,0,none⟩)]),.func (.func xY) (Array.mk []) (Array.mk [.pointer (some ⟨n13,0,none⟩),.pointer (some ⟨n25,0,none⟩)])]:=⟨_,rfl⟩
 rw[←hFS]at hs
 replace hs:Sat h0 (blk n28 FS::blk n25 (AP 0 0 0 (none,0,0) (AB 32))::blk n22 (AP 0 0 0 (none,0,0) (AB 32))::blk n19 [.slice q l c]::blk n16 [.pointer (some ⟨rr,0,none⟩)]::blk n13 [.pointer (some ⟨s,0,none⟩)]::A) _:=hs
 intro J31 hJ31
 apply hJ31
 rw[AD,if_pos (by decide)]
 refine⟨_,rfl,by decide,by decide,_,hs.ld (o:=0) .z (by rw[hFS];rfl),rfl,?_⟩
 refine R4 (ds:=[⟨n13,0,none⟩].map DV.addr) sZ (R0 _) rfl ?_
 show PH ⟨n13,0,none⟩ _ _
 unfold PH gA
 refine⟨_,hs.ld zs5 rfl,_,rfl,?_⟩
 refine bM hs ci.s.s.s.s.s.s cl'.s.s.s.s.s.s st.s.s.s.s.s.s ?_
 intro h1 hs
 refine⟨_,_,rfl,_,rfl,rfl,?_⟩
 rw[qV ok]
 by_cases ho:C.out=true
 ·rw[if_pos ho]at hG ⊢
  rw[if_pos (by decide)]
  refine EG 8 (BQ 32) hs zs2 ?_
  intro h2 hs
  exact k1 8 hG.symm (by decide) _ hs.drop.drop.drop.drop.drop.drop
 rw[if_neg ho]at hG ⊢
 rw[if_neg (by decide),w1]
 -- the image
 apply hJ31
 rw[AD,if_pos (by decide)]
 refine⟨_,rfl,by decide,by decide,_,hs.ld (o:=1) .z (by rw[hFS];rfl),rfl,?_⟩
 refine R4 (ds:=[⟨n19,0,none⟩,⟨n25,0,none⟩].map DV.addr) s5 (R0 _) rfl ?_
 show PI ⟨n19,0,none⟩ ⟨n25,0,none⟩ _ _
 unfold PI gB
 try simp only[AF,Nat.zero_add,List.append_nil]
 refine⟨_,_,_,hs.ld zs3 rfl,?_⟩
 refine sC hs (fun h' hs'=>rd _ hs'.drop.drop.drop.drop.drop.drop) hb hlc hl ?_ ?_
 ·intro e at_ w h2 hp he hs
  refine⟨Sat.can hs zs2 (by simp[AB]),?_⟩
  intro h3 e3
  replace hs:=Sat.wra (xs:=AP 0 0 0 (none,0,0) (AB 32)) hs zs2 e3 rfl
  clear e3
  simp only[AS,AG]at hs
  refine⟨rfl,?_⟩
  rw[if_neg (nIF _ _)]
  intro n20 _ hn;replace hs:=Sat.new hs hn
  refine⟨Sat.can hs .z (by simp),?_⟩
  intro h4 e4
  replace hs:=Sat.wra hs .z e4 rfl
  clear e4
  simp only[AG]at hs
  unfold PD
  refine Or.inl (Or.inr ⟨⟨w,0,none⟩,n20,0,e,rfl,rfl,I6 hs.ex hg (fun y=>y),⟨_,hs.ld .z rfl⟩,?_,hs.ld zs1 rfl,?_⟩)
  ·have:=(Sat.can hs (i:=0) (o:=0) (n:=1) .z (by simp)) 0 (by decide)
   rw[add_zero]at this
   exact this.2
  intro b1 _ hn;replace hs:=Sat.new hs hn
  intro b2 _ hn;replace hs:=Sat.new hs hn
  intro b3 _ hn;replace hs:=Sat.new hs hn
  intro b4 _ hn;replace hs:=Sat.new hs hn
  intro h5 e5
  replace hs:=Sat.wr hs zs4 e5
  clear e5
  simp only[AS,AG]at hs
  replace hs:=hs.drop.drop.drop.drop
  replace hs:Sat h0 (blk n20 [.int .i64 e]::_) h5:=hs
  refine⟨_,hs.ld .z rfl,?_⟩
  refine⟨_,_,rfl,_,rfl,rfl,?_⟩
  rw[if_pos (by simpa using he)]
  replace hs:=hs.drop.drop
  refine EG e (BQ 32) hs zs2 ?_
  intro h6 hs
  refine k1 e ?_ he _ hs.drop.drop.drop.drop.drop.drop
  rw[hp,if_pos he]at hG
  exact hG.symm
 intro own n h2 hp hnn hs
 obtain⟨pl,p5,p6,pn⟩:=X9 hb hp hnn
 have htl:((bs.drop (16+n)).take 32).length=32:=by rw[List.length_take,List.length_drop];omega
 have htb:BU ((bs.drop (16+n)).take 32):=N3 hb _ _
 refine⟨Sat.can hs zs2 (by simp[AB]),?_⟩
 intro h3 e3
 replace hs:=Sat.wra (xs:=AP (bs.getD 5 0) (bs.getD 6 0) (AV bs 8) (AJ own.1 16 (16+n) 1,n,n) ((bs.drop (16+n)).take 32)) hs zs2 e3 (by rw[BX htl];rfl)
 clear e3
 simp only[AS,AG]at hs
 refine⟨rfl,?_⟩
 rw[if_pos (by rfl)]
 refine⟨_,_,rfl,_,rfl,rfl,?_⟩
 rw[if_neg (by decide),w2]
 rw[hp,if_neg (by decide)]at hG
 -- the slot
 apply hJ31
 rw[AD,if_pos (by decide)]
 refine⟨_,rfl,by decide,by decide,_,hs.ld (o:=2) zs1 (by rw[hFS];rfl),rfl,?_⟩
 refine R4 (ds:=[⟨n13,0,none⟩,⟨n25,0,none⟩].map DV.addr) s6 (R0 _) rfl ?_
 show PJ ⟨n13,0,none⟩ ⟨n25,0,none⟩ _ _
 unfold PJ gC
 refine⟨_,hs.ld zs6 rfl,_,hs.ld zs2 rfl,_,rfl,?_⟩
 refine qX hs ci.s.s.s.s.s.s.s cl'.s.s.s.s.s.s.s st.s.s.s.s.s.s.s _ ?_
 intro h4 hs
 have er:=Ab7 ho p5.1
 by_cases gs:C.cfg.slots≤bs.getD 5 0
 ·rw[if_pos gs]at er hG
  rw[er,if_pos (by decide)]
  refine⟨_,_,rfl,_,rfl,rfl,?_⟩
  rw[if_pos (by decide)]
  refine EG 5 (BQ 32) hs zs3 ?_
  intro h6 hs
  exact k1 5 hG.symm (by decide) _ hs.drop.drop.drop.drop.drop.drop.drop
 rw[if_neg gs]at er hG
 rw[er,if_neg (by decide)]
 refine⟨_,_,rfl,_,rfl,rfl,?_⟩
 rw[if_neg (by decide),w3]
 -- the key
 apply hJ31
 rw[AD,if_pos (by decide)]
 refine⟨_,rfl,by decide,by decide,_,hs.ld (o:=3) zs1 (by rw[hFS];rfl),rfl,?_⟩
 refine R4 (ds:=[⟨n13,0,none⟩,⟨n25,0,none⟩,⟨n16,0,none⟩].map DV.addr) s7 (R0 _) rfl ?_
 show PK ⟨n13,0,none⟩ ⟨n25,0,none⟩ ⟨n16,0,none⟩ _ _
 unfold PK gD
 try simp only[AF,Nat.zero_add]
 refine⟨_,hs.ld zs6 rfl,_,hs.ld zs2 rfl,_,rfl,?_⟩
 refine ApE hs ci.s.s.s.s.s.s.s st.s.s.s.s.s.s.s _ ?_
 intro h5 hs
 refine⟨_,hs.ld zs5 rfl,_,hs.ld zs2 rfl,_,rfl,?_⟩
 refine xA _ hs cr.s.s.s.s.s.s.s cm.s.s.s.s.s.s.s ?_
 have ekv:=ZK R (bs.getD 6 0)
 cases ex:SR.at_ R (bs.getD 6 0) with
 | none=>
  rw[←ekv,ex]at hG
  rw[if_pos (by simp)]
  refine⟨_,_,rfl,_,rfl,rfl,?_⟩
  rw[if_pos (by decide)]
  refine EG 13 (BQ 32) hs zs3 ?_
  intro h6 hs
  exact k1 13 hG.symm (by decide) _ hs.drop.drop.drop.drop.drop.drop.drop
 | some x=>
 rw[←ekv,ex]at hG
 dsimp only[Option.map_some]at hG
 rw[if_neg (by simp)]
 have rv:=AaA ho p6.1
 by_cases gk:C.cfg.keys≤bs.getD 6 0
 ·rw[if_pos gk]at rv hG
  rw[rv,if_pos (by decide)]
  refine⟨_,_,rfl,_,rfl,rfl,?_⟩
  rw[if_pos (by decide)]
  refine EG 13 (BQ 32) hs zs3 ?_
  intro h6 hs
  exact k1 13 hG.symm (by decide) _ hs.drop.drop.drop.drop.drop.drop.drop
 rw[if_neg gk]at rv hG
 rw[rv,if_neg (by decide)]
 by_cases gr:(CL C (bs.getD 6 0)).1=true
 ·rw[if_pos gr]at hG ⊢
  refine⟨_,_,rfl,_,rfl,rfl,?_⟩
  rw[if_pos (by decide)]
  refine EG 14 (BQ 32) hs zs3 ?_
  intro h6 hs
  exact k1 14 hG.symm (by decide) _ hs.drop.drop.drop.drop.drop.drop.drop
 rw[if_neg gr]at hG ⊢
 refine⟨_,_,rfl,_,rfl,rfl,?_⟩
 rw[if_neg (by decide),w4]
 -- the tag
 apply hJ31
 rw[AD,if_pos (by decide)]
 refine⟨_,rfl,by decide,by decide,_,hs.ld (o:=4) zs1 (by rw[hFS];rfl),rfl,?_⟩
 refine R4 (ds:=[⟨n16,0,none⟩,⟨n25,0,none⟩,⟨n19,0,none⟩].map DV.addr) s8 (R0 _) rfl ?_
 show PL ⟨n16,0,none⟩ ⟨n25,0,none⟩ ⟨n19,0,none⟩ _ _
 unfold PL gE
 try simp only[AF,Nat.zero_add,List.append_nil]
 refine⟨_,hs.ld zs5 rfl,_,hs.ld zs2 rfl,_,_,_,hs.ld zs4 rfl,_,htl,CB hs zs2 htl,?_⟩
 refine AlS hs (rd _ hs.drop.drop.drop.drop.drop.drop.drop) (by omega) hlc (by omega) ?_
 intro p' c' h6 hc' hs
 refine⟨Sat.cs hs zs3 (by show (List.drop 4 (AP _ _ _ _ _)).take _=_;rw[List.take_of_length_le (by simp[htl])];rfl),Sat.cs hs zs3 rfl,Sat.cs hs zs6 rfl,_,rfl,?_⟩
 refine Am3 (bb:=bs.take (l-32)) hs cr.s.s.s.s.s.s.s.s cm.s.s.s.s.s.s.s.s gd (fun y hy h' hs'=>rR y hy _ hs'.drop.drop.drop.drop.drop.drop.drop.drop) ex htl htb hc' (by omega) (fun h' hs'=>hs'.sv .z) ?_
 intro h7 hs
 replace hs:=hs.drop
 have et:(bs.drop (bs.length-32)).take 32=(bs.drop (16+n)).take 32:=by rw[show bs.length-32=16+n by omega]
 rw[hbl]at hG et
 rw[et]at hG
 by_cases gt:BI x.bytes (bs.take (l-32))=(bs.drop (16+n)).take 32
 case neg=>
  rw[if_pos gt]at hG
  rw[if_pos (by simp[gt])]
  refine⟨_,_,rfl,_,rfl,rfl,?_⟩
  rw[if_pos (by decide)]
  refine EG 15 (BQ 32) hs zs3 ?_
  intro h6 hs
  exact k1 15 hG.symm (by decide) _ hs.drop.drop.drop.drop.drop.drop.drop
 rw[if_neg (by simpa using gt)]at hG
 rw[if_neg (by simp[gt]),if_neg (by decide)]
 refine⟨_,_,rfl,_,rfl,rfl,?_⟩
 rw[if_neg (by decide),w5]
 -- the version
 apply hJ31
 rw[AD,if_pos (by decide)]
 refine⟨_,rfl,by decide,by decide,_,hs.ld (o:=5) zs1 (by rw[hFS];rfl),rfl,?_⟩
 refine R4 (ds:=[⟨n13,0,none⟩,⟨n25,0,none⟩].map DV.addr) s9 (R0 _) rfl ?_
 show PM ⟨n13,0,none⟩ ⟨n25,0,none⟩ _ _
 unfold PM gF
 try simp only[AF,Nat.zero_add]
 refine⟨_,hs.ld zs6 rfl,_,hs.ld zs2 rfl,_,rfl,?_⟩
 refine qX hs ci.s.s.s.s.s.s.s cl'.s.s.s.s.s.s.s st.s.s.s.s.s.s.s _ ?_
 intro h8 hs
 rw[er,if_neg (by decide)]
 refine⟨_,hs.ld zs2 rfl,?_⟩
 rw[AD]
 by_cases gv:AV bs 8<(C2 C (bs.getD 5 0)).1
 ·rw[if_pos gv]at hG
  rw[if_pos (by simpa using gv)]
  refine⟨_,_,rfl,_,rfl,rfl,?_⟩
  rw[if_pos (by decide)]
  refine EG 16 (BQ 32) hs zs3 ?_
  intro h6 hs
  exact k1 16 hG.symm (by decide) _ hs.drop.drop.drop.drop.drop.drop.drop
 rw[if_neg gv]at hG
 rw[if_neg (by simpa using gv)]
 refine⟨_,hs.ld zs2 rfl,_,hs.ld zs6 rfl,_,rfl,?_⟩
 refine AaT hs ci.s.s.s.s.s.s.s st.s.s.s.s.s.s.s ?_
 intro h9 hs
 refine⟨Sat.cs hs zs2 rfl,?_⟩
 rw[AD]
 by_cases gl:DX C.cfg<AV bs 8
 ·rw[if_pos gl]at hG
  rw[if_pos (by simpa using gl)]
  refine⟨_,_,rfl,_,rfl,rfl,?_⟩
  rw[if_pos (by decide)]
  refine EG 16 (BQ 32) hs zs3 ?_
  intro h6 hs
  exact k1 16 hG.symm (by decide) _ hs.drop.drop.drop.drop.drop.drop.drop
 rw[if_neg gl]at hG
 rw[if_neg (by simpa using gl)]
 refine⟨_,_,rfl,_,rfl,rfl,?_⟩
 rw[if_neg (by decide),w6]
 apply hJ31
 rw[AD,if_neg (by decide)]
 refine⟨_,hs.ld zs2 rfl,_,hs.ld zs2 rfl,_,hs.ld zs2 rfl,_,_,_,hs.ld zs2 rfl,_,htl,CB hs zs2 htl,?_⟩
 refine⟨Sat.can hs zs3 (by simp[AB]),?_⟩
 intro h10 e10
 replace hs:=Sat.wra (xs:=AP (bs.getD 5 0) (bs.getD 6 0) (AV bs 8) (AJ own.1 16 (16+n) 1,n,n) ((bs.drop (16+n)).take 32)) hs zs3 e10 (by rw[BX htl];rfl)
 clear e10
 simp only[AS,AG]at hs
 refine⟨_,hs.ld zs3 rfl,_,hs.ld zs3 rfl,_,hs.ld zs3 rfl,_,_,_,hs.ld zs3 rfl,_,htl,CB hs zs3 htl,?_⟩
 exact k2 own n hG hp hnn pl _ (hs.sub (by
  refine List.Sublist.cons_cons _ ?_
  exact (((((List.sublist_cons_self _ _).trans (List.sublist_cons_self _ _)).trans (List.sublist_cons_self _ _)).trans (List.sublist_cons_self _ _)).trans (List.sublist_cons_self _ _)).trans (List.sublist_cons_self _ _)))
end
end Go.Proofs.YteedolonhdbieaaGreatDoor
end
section
namespace Go.Proofs.YteedolonhdbieaaGreatDoor
open Go Go.Vc
set_option maxRecDepth 100000
attribute [local irreducible] BI AM
def EB(C:Cm)(L:List Sec)(ar:Int):Bool:=(AN C ar).2 == 0&&AM C L (AN C ar).1 == 0
def AO(C:Cm):Int:=(BV C).1 % 2
def C9(C:Cm)(L:List Sec):Option Int:=if EB C L (AO C)=true then some (AO C) else if EB C L (1-AO C)=true then some (1-AO C) else none
def BK(C:Cm)(L:List Sec):Int:=match C9 C L with
 | some a=>1-a
 | none=>1-AO C
def DY(C:Cm):Bool:=(decide (DC C≠0) || !(GZ C))&&decide ((BV C).1<2^62)
def B7(C:Cm)(L:List Sec)(b:List Int):Cm×Int:=
 if C.out=true then (C,8) else if AM C L b≠0 then (C,AM C L b) else if DR C.cfg<b.length then (C,4)
 else if (C4 C (BK C L)).1=true∨BK C L≠AO C/\DY C=false then (C,9)
 else if (D4 C (BK C L) b).2≠0∨BK C L=AO C then D4 C (BK C L) b
 else JG (D4 C (BK C L) b).1 ((BV C).1+1)
end Go.Proofs.YteedolonhdbieaaGreatDoor
end
section
namespace Go.Proofs.YteedolonhdbieaaGreatDoor
open Go Go.Vc
set_option maxRecDepth 100000
attribute [local irreducible] BI
section
variable {h0 h:H} {A:List Ent} {i j p r b s m:Nat} {C:Cm}
theorem qS{Q:List Int->Int->HP}{key:Int}{bb:List Int}{bp lp:Option Addr}{bl bc lc:Nat}{R:List SR}{x:SR}(hs:Sat h0 A h)(cr:At A i (blk r [.slice lp R.length lc]))(cl:At A j (slE lp R.length lc 2 (DQ R)))(hR:R.length<2^40)(gd:SR.good R)
  (rR:∀x,x∈R->∀h',Sat h0 A h'->hsv h' x.p 1 x.bytes.length (AA .u8 x.bytes)) (hx:SR.at_ R key=some x) (hbb:BU bb) (hbl:bl<2^40)
  (rb:∀h',Sat h0 A h'->hsv h' bp 1 bl (AA .u8 bb)) (k:∀h',Sat h0 A h'->Q (BI x.bytes bb) 0 h'):WZ ⟨r,0,none⟩ key bp bl bc Q h:=by
 unfold WZ lK
 try simp only[AF,Nat.zero_add,List.append_nil]
 have hx2:x∈R:=List.mem_of_find?_eq_some hx
 have hg:=gd x hx2
 intro nb _ hn;replace hs:=Sat.new hs hn
 refine wN key hs cr.s cl.s hR ?_
 rintro n (⟨e,_⟩ | ⟨t,ht,rfl,e⟩)
 ·rw[hx]at e;cases e
 rw[hx]at e
 injection e with e
 rw[AD,if_neg (by rw[decide_eq_true_iff];omega)]
 obtain⟨q2,hq2,g2⟩:=FP (hs.sv cl.s) (AaY R t ht).2
 refine⟨_,_,_,hs.ld cr.s rfl,q2,hq2,by omega,by omega,?_⟩
 simp only[Int.toNat_natCast]
 refine⟨_,_,_,by rw[uY];exact g2,?_⟩
 rw[←e]
 refine AaG (key:=x.bytes) (b:=bb) hs hg.2.2 hbb (by omega) (by omega) (fun h' hs'=>rR x hx2 _ hs'.drop) (fun h' hs'=>rb _ hs'.drop) ?_
 intro h2 hs
 refine⟨Sat.can hs .z (by simp[AB]),?_⟩
 intro h3 e3
 replace hs:=Sat.wra (xs:=AA .u8 (BI x.bytes bb)) hs .z e3 (by simp[AB,FD])
 clear e3
 simp only[AG]at hs
 exact⟨_,FD _ _,hs.row0 .z,k _ hs.drop⟩
theorem Aa1{Q:Option Addr->Nat->Nat->HP}{bs:List Int}{q:Option Addr}{l c:Nat}(hs:Sat h0 A h)(rd:∀h',Sat h0 A h'->hsv h' q 1 l (AA .u8 bs))(hl:32≤l)(hlc:l≤c)(hl2:l<2^40)
  (k:∀p' c' h',l-32≤c'->Sat h0 (slE p' (l-32) c' 1 (AA .u8 (bs.take (l-32)))::A) h'->Q p' (l-32) c' h'):WY q l c Q h:=by
 unfold WY k8
 have hbl:bs.length=l:=by have:=(rd _ hs).1;simpa using this
 rw[AD,if_neg (by rw[decide_eq_true_iff];omega)]
 intro eb _ hn;replace hs:=Sat.new hs hn
 have e:IntKind.i64.wrap ((l:Int)-32)=((l-32:Nat):Int):=by rw[AL (by omega)];omega
 rw[e]
 refine⟨by omega,by omega,?_⟩
 simp only[Int.toNat_natCast,Nat.sub_zero]
 have R:=IK (o:=0) (n:=l-32) (m:=c) (rd _ hs.drop) (by omega) (by omega)
 rw[List.drop_zero]at R
 refine⟨_,R,?_⟩
 replace hs:=hs.drop.sl_nil 1 (some ⟨eb,0,none⟩)
 refine Sat.app hs (i:=0) (vs:=AA .u8 (bs.take (l-32))) .z (by simp;omega) rfl (A5 _ _) (by dsimp only;omega) ?_
 intro p' c' h' hs
 simp only[AG,List.nil_append,Nat.zero_add]at hs ⊢
 exact k p' c' h' (R5 hs .z) hs
theorem AoM{Q:Int->Int->Int->Option Addr->Nat->Nat->List Int->Int->HP}{nb n37 n14:Nat}{bs T tag:List Int}{own:Sl}{E:List Ent}(hs:Sat h0 (blk nb (AA .u8 (AB 32))::blk n37 (AP (bs.getD 5 0) (bs.getD 6 0) (AV bs 8) own tag)::blk n14 (AP 0 0 0 (none,0,0) (AB 32))::E) h)(cj:At E j (AK r C))(ho:¬C.out=true)
  (hT:T.length=32) (ht:tag.length=32) (er:(C2 C (bs.getD 5 0)).2=0)
  (k1:∀e,e=(if T≠tag then 15 else if AV bs 8<(C2 C (bs.getD 5 0)).1 then 16 else if DX C.cfg<AV bs 8 then 16 else 0)->e≠0->∀h',Sat h0 E h'->Q 0 0 0 none 0 0 (AB 32) e h')
  (k2:(if T≠tag then 15 else if AV bs 8<(C2 C (bs.getD 5 0)).1 then 16 else if DX C.cfg<AV bs 8 then 16 else (0:Int))=0->∀h',Sat h0 E h'->Q (bs.getD 5 0) (bs.getD 6 0) (AV bs 8) own.1 own.2.1 own.2.2 tag 0 h'):
  RV IZ I0 ⟨r,0,none⟩ Q h nb T n37 n14:=by
 unfold RV
 try simp only[AF,Nat.zero_add,List.append_nil]
 intro h2 e
 replace hs:=Sat.wra (xs:=AA .u8 T) hs .z e (by simp[AB,hT])
 clear e
 simp only[AG]at hs
 refine⟨T,hT,hs.row0 .z,tag,ht,CB hs zs1 ht,?_⟩
 by_cases gt:T=tag
 case neg=>
  rw[if_pos gt]at k1
  rw[if_pos (by simpa using gt)]
  refine EG 15 (BQ 32) hs zs2 ?_
  intro h6 hs
  exact k1 15 rfl (by decide) _ hs.drop.drop.drop
 rw[if_neg (by simpa using gt)]at k1 k2
 rw[if_neg (by simpa using gt)]
 refine⟨_,hs.ld zs1 rfl,?_⟩
 refine zZ hs cj.s.s.s _ ?_
 intro h3 hs
 rw[er,if_neg (by decide)]
 refine⟨_,hs.ld zs1 rfl,?_⟩
 rw[AD]
 by_cases gv:AV bs 8<(C2 C (bs.getD 5 0)).1
 ·rw[if_pos gv]at k1
  rw[if_pos (by simpa using gv)]
  refine EG 16 (BQ 32) hs zs2 ?_
  intro h6 hs
  exact k1 16 rfl (by decide) _ hs.drop.drop.drop
 rw[if_neg gv]at k1 k2
 rw[if_neg (by simpa using gv)]
 have ok:=FX hs cj.s.s.s
 obtain⟨_,lc1⟩:=DK hs cj.s.s.s
 refine⟨_,hs.ld zs1 rfl,_,lc1 0 _ rfl,_,lc1 1 _ rfl,_,lc1 2 _ rfl,_,lc1 3 _ rfl,_,lc1 4 _ rfl,_,lc1 5 _ rfl,_,lc1 6 _ rfl,?_⟩
 refine zU ok.may hs ?_
 intro h4 hs
 refine⟨Sat.cs hs zs1 rfl,?_⟩
 rw[AD]
 by_cases gl:DX C.cfg<AV bs 8
 ·rw[if_pos gl]at k1
  rw[if_pos (by simpa using gl)]
  refine EG 16 (BQ 32) hs zs2 ?_
  intro h6 hs
  exact k1 16 rfl (by decide) _ hs.drop.drop.drop
 rw[if_neg gl]at k2
 rw[if_neg (by simpa using gl)]
 refine⟨_,hs.ld zs1 rfl,_,hs.ld zs1 rfl,_,hs.ld zs1 rfl,_,_,_,hs.ld zs1 rfl,_,ht,CB hs zs1 ht,?_⟩
 refine⟨Sat.can hs zs2 (by simp[AB]),?_⟩
 intro h10 e10
 replace hs:=Sat.wra (xs:=AP (bs.getD 5 0) (bs.getD 6 0) (AV bs 8) own tag) hs zs2 e10 (by rw[BX ht];rfl)
 clear e10
 simp only[AS,AG]at hs
 refine⟨_,hs.ld zs2 rfl,_,hs.ld zs2 rfl,_,hs.ld zs2 rfl,_,_,_,hs.ld zs2 rfl,_,ht,CB hs zs2 ht,?_⟩
 exact k2 rfl _ hs.drop.drop.drop
theorem AoN{Q:Int->Int->Int->Option Addr->Nat->Nat->List Int->Int->HP}{rr jl jr lc:Nat}{lp:Option Addr}{bs:List Int}{q:Option Addr}{l c:Nat}{R:List SR}(hs:Sat h0 A h)(cj:At A j (AK r C))
  (cr:At A jr (blk rr [.slice lp R.length lc])) (cm:At A jl (slE lp R.length lc 2 (DQ R))) (hR:R.length<2^40) (gd:SR.good R) (rR:∀x,x∈R->∀h',Sat h0 A h'->hsv h' x.p 1 x.bytes.length (AA .u8 x.bytes))
  (rd:∀h',Sat h0 A h'->hsv h' q 1 l (AA .u8 bs)) (hb:A4 bs) (hlc:l≤c) (hl:l<2^50)
  (k1:∀e,e=AM C (R.map SR.kv) bs->e≠0->∀h',Sat h0 A h'->Q 0 0 0 none 0 0 (AB 32) e h')
  (k2:∀(own:Sl) (n:Nat),AM C (R.map SR.kv) bs=0->CP bs=(0,0)->AV bs 12=n->own.2.1=n->∀h',Sat h0 (sE own 1 (AA .u8 ((bs.drop 16).take n))::A) h'->Q (bs.getD 5 0) (bs.getD 6 0) (AV bs 8) own.1 own.2.1 own.2.2 ((bs.drop (16+n)).take 32) 0 h'):
  I1 ⟨r,0,none⟩ ⟨rr,0,none⟩ q l c Q h:=by
 unfold I1 lM
 try simp only[AF,Nat.zero_add,List.append_nil]
 have hbl:bs.length=l:=by have:=(rd _ hs).1;simpa using this
 obtain⟨G,hG⟩:∃G,G=AM C (R.map SR.kv) bs:=⟨_,rfl⟩
 rw[←hG]at k1 k2
 unfold AM at hG
 intro n14 _ hn;replace hs:=Sat.new hs hn
 replace hs:Sat h0 (blk n14 (AP 0 0 0 (none,0,0) (AB 32))::A) _:=hs
 obtain⟨_,lc0⟩:=DK hs cj.s
 refine⟨_,lc0 11 _ rfl,?_⟩
 by_cases ho:C.out=true
 ·rw[if_pos ho]at hG ⊢
  refine EG 8 (BQ 32) hs .z ?_
  intro h2 hs
  exact k1 8 hG.symm (by decide) _ hs.drop
 rw[if_neg ho]at hG ⊢
 refine zY hs (fun h' hs'=>rd _ hs'.drop) hb hlc hl ?_ ?_
 ·intro e at_ h2 hp he hs
  intro n37 _ hn;replace hs:=Sat.new hs hn
  intro n40 _ hn;replace hs:=Sat.new hs hn
  refine⟨Sat.can hs zs1 (by simp[AB]),?_⟩
  intro h3 e3
  replace hs:=Sat.wra (xs:=AP 0 0 0 (none,0,0) (AB 32)) hs zs1 e3 rfl
  clear e3
  simp only[AS,AG]at hs
  refine⟨Sat.can hs .z (by simp),?_⟩
  intro h4 e4
  replace hs:=Sat.wra hs .z e4 rfl
  clear e4
  simp only[AG]at hs
  refine⟨_,hs.ld .z rfl,?_⟩
  rw[if_pos (by simpa using he)]
  refine⟨_,hs.ld .z rfl,Sat.can hs zs2 (by simp[AB]),?_⟩
  intro h5 e5
  replace hs:=Sat.wra (xs:=AP 0 0 0 (none,0,0) (AB 32)) hs zs2 e5 rfl
  clear e5
  simp only[AS,AG]at hs
  refine⟨Sat.cs hs .z rfl,_,hs.ld zs2 rfl,_,hs.ld zs2 rfl,_,hs.ld zs2 rfl,_,_,_,hs.ld zs2 rfl,_,BQ 32,CB hs zs2 (BQ 32),?_⟩
  refine k1 e ?_ he _ hs.drop.drop.drop
  rw[hp,if_pos he]at hG
  exact hG.symm
 intro own n h2 hp hnn hon hs
 obtain⟨pl,p5,p6,pn⟩:=X9 hb hp hnn
 have htl:((bs.drop (16+n)).take 32).length=32:=by rw[List.length_take,List.length_drop];omega
 rw[hp,if_neg (by decide)]at hG
 intro n37 _ hn;replace hs:=Sat.new hs hn
 intro n40 _ hn;replace hs:=Sat.new hs hn
 refine⟨Sat.can hs zs1 (by simp[AB]),?_⟩
 intro h3 e3
 replace hs:=Sat.wra (xs:=AP (bs.getD 5 0) (bs.getD 6 0) (AV bs 8) own ((bs.drop (16+n)).take 32)) hs zs1 e3 (by rw[BX htl];rfl)
 clear e3
 simp only[AS,AG]at hs
 refine⟨Sat.can hs .z (by simp),?_⟩
 intro h4 e4
 replace hs:=Sat.wra hs .z e4 rfl
 clear e4
 simp only[AG]at hs
 refine⟨_,hs.ld .z rfl,?_⟩
 rw[if_neg (by decide)]
 replace hs:=hs.drop
 replace hs:Sat h0 (blk n37 (AP (bs.getD 5 0) (bs.getD 6 0) (AV bs 8) own ((bs.drop (16+n)).take 32))::sE own 1 (AA .u8 ((bs.drop 16).take n))::blk n14 (AP 0 0 0 (none,0,0) (AB 32))::A) _:=hs
 obtain⟨_,lc1⟩:=DK hs cj.s.s.s
 refine⟨_,hs.ld .z rfl,_,lc1 1 _ rfl,?_⟩
 rw[A0]
 by_cases gs:C.cfg.slots≤bs.getD 5 0
 ·rw[if_pos gs]at hG
  rw[if_pos (by simpa using gs)]
  refine EG 5 (BQ 32) hs zs2 ?_
  intro h6 hs
  exact k1 5 hG.symm (by decide) _ hs.drop.drop.drop
 rw[if_neg gs]at hG
 rw[if_neg (by simpa using gs)]
 have er:(C2 C (bs.getD 5 0)).2=0:=by rw[Ab7 ho p5.1,if_neg gs]
 intro J69 hJ69
 refine⟨_,hs.ld .z rfl,?_⟩
 refine AaE _ hs cr.s.s.s cm.s.s.s hR ?_
 have ekv:=ZK R (bs.getD 6 0)
 cases ex:SR.at_ R (bs.getD 6 0) with
 | none=>
  rw[←ekv,ex]at hG
  rw[if_pos (by simp)]
  refine EG 13 (BQ 32) hs zs2 ?_
  intro h6 hs
  exact k1 13 hG.symm (by decide) _ hs.drop.drop.drop
 | some x=>
 rw[←ekv,ex]at hG
 dsimp only[Option.map_some]at hG
 rw[if_neg (by simp)]
 have rv:=AaA ho p6.1
 refine⟨_,hs.ld .z rfl,_,lc1 4 _ rfl,?_⟩
 rw[A0]
 by_cases gk:C.cfg.keys≤bs.getD 6 0
 ·rw[if_pos gk]at hG
  rw[if_pos (by simpa using gk)]
  refine EG 13 (BQ 32) hs zs2 ?_
  intro h6 hs
  exact k1 13 hG.symm (by decide) _ hs.drop.drop.drop
 rw[if_neg gk]at rv hG
 rw[if_neg (by simpa using gk)]
 apply hJ69
 clear hJ69
 refine⟨_,hs.ld .z rfl,?_⟩
 unfold Y0 kZ
 refine z0 hs cj.s.s.s _ ?_
 intro h5 hs
 dsimp only
 rw[rv,if_neg (by decide)]
 by_cases gr:(CL C (bs.getD 6 0)).1=true
 ·rw[if_pos gr]at hG ⊢
  refine EG 14 (BQ 32) hs zs2 ?_
  intro h6 hs
  exact k1 14 hG.symm (by decide) _ hs.drop.drop.drop
 rw[if_neg gr]at hG ⊢
 have et:(bs.drop (bs.length-32)).take 32=(bs.drop (16+n)).take 32:=by rw[show bs.length-32=16+n by omega]
 rw[hbl]at hG et
 rw[et]at hG
 have hbb:BU (bs.take (l-32)):=fun v hv=>hb v (List.mem_of_mem_take hv)
 have leaf:∀nb h',Sat h0 (blk nb (AA .u8 (AB 32))::blk n37 (AP (bs.getD 5 0) (bs.getD 6 0) (AV bs 8) own ((bs.drop (16+n)).take 32))::sE own 1 (AA .u8 ((bs.drop 16).take n))::blk n14 (AP 0 0 0 (none,0,0) (AB 32))::A) h'->RV IZ I0 ⟨r,0,none⟩ Q h' nb (BI x.bytes (bs.take (l-32))) n37 n14:=by
  intro nb h' hs'
  replace hs':=hs'.front (e:=sE own 1 (AA .u8 ((bs.drop 16).take n))) zs2
  simp only[del]at hs'
  refine AoM (own:=own) (E:=sE own 1 (AA .u8 ((bs.drop 16).take n))::A) (hs'.perm ?_) cj.s ho (FD _ _) htl er ?_ ?_
  ·exact ((List.Perm.swap _ _ _).trans (List.Perm.cons _ ((List.Perm.swap _ _ _).trans (List.Perm.cons _ (List.Perm.swap _ _ _)))))
  ·intro e he hne h6 hs6
   exact k1 e (by rw[he];exact hG.symm) hne _ hs6.drop
  ·intro he h6 hs6
   exact k2 own n (by rw[hG];exact he) hp hnn hon _ hs6
 refine⟨_,hs.ld .z rfl,?_,?_⟩
 ·refine Aa1 hs (fun h' hs'=>rd _ hs'.drop.drop.drop) (by omega) hlc (by omega) ?_
  intro p' c' h6 hc' hs
  refine⟨Sat.cs hs zs1 rfl,?_,?_⟩
  ·refine qS (bb:=bs.take (l-32)) hs cr.s.s.s.s cm.s.s.s.s hR gd (fun y hy h' hs'=>rR y hy _ hs'.drop.drop.drop.drop) ex hbb (by omega) (fun h' hs'=>hs'.sv .z) ?_
   intro h7 hs
   intro nb _ hn;replace hs:=Sat.new hs hn
   exact⟨Sat.can hs .z (by simp[AB]),leaf _ _ (hs.sub (by(repeat (first | exact List.Sublist.refl _ | apply List.Sublist.cons_cons | apply List.Sublist.cons))))⟩
  ·intro nb _ hn;replace hs:=Sat.new hs hn
   refine⟨Sat.cs hs zs2 rfl,?_⟩
   refine qS (bb:=bs.take (l-32)) hs cr.s.s.s.s.s cm.s.s.s.s.s hR gd (fun y hy h' hs'=>rR y hy _ hs'.drop.drop.drop.drop.drop) ex hbb (by omega) (fun h' hs'=>hs'.sv zs1) ?_
   intro h7 hs
   exact⟨Sat.can hs .z (by simp[AB]),leaf _ _ (hs.sub (by(repeat (first | exact List.Sublist.refl _ | apply List.Sublist.cons_cons | apply List.Sublist.cons))))⟩
 ·intro nb _ hn;replace hs:=Sat.new hs hn
  refine⟨Sat.cs hs zs1 rfl,?_⟩
  refine Aa1 hs (fun h' hs'=>rd _ hs'.drop.drop.drop.drop) (by omega) hlc (by omega) ?_
  intro p' c' h6 hc' hs
  refine⟨Sat.cs hs zs2 rfl,?_⟩
  refine qS (bb:=bs.take (l-32)) hs cr.s.s.s.s.s cm.s.s.s.s.s hR gd (fun y hy h' hs'=>rR y hy _ hs'.drop.drop.drop.drop.drop) ex hbb (by omega) (fun h' hs'=>hs'.sv .z) ?_
  intro h7 hs
  exact⟨Sat.can hs zs1 (by simp[AB]),leaf _ _ (hs.sub (by(repeat (first | exact List.Sublist.refl _ | apply List.Sublist.cons_cons | apply List.Sublist.cons))))⟩
end
end Go.Proofs.YteedolonhdbieaaGreatDoor
end
section
namespace Go.Proofs.YteedolonhdbieaaGreatDoor
open Go Go.Vc
set_option maxRecDepth 100000
attribute [local irreducible] BI
def EN(v:Int)(t:Nat):List Int:=(List.range t).map fun j=>IntKind.u8.wrap (v.fdiv (2^(8*j)))
theorem wO(v:Int)(t:Nat):(EN v t).length=t:=by simp[EN]
theorem Al1(v:Int)(t:Nat):EN v (t+1)=EN v t++[IntKind.u8.wrap (v.fdiv (2^(8*t)))]:=by
 unfold EN;rw[List.range_succ,List.map_append];rfl
def CH(slot key ver:Int)(pay:List Int):List Int:=[80,67,85,76,1,IntKind.u8.wrap slot,IntKind.u8.wrap key,0]++EN ver 4++EN (pay.length:Int) 4++pay
theorem Ak2(slot key ver:Int)(pay:List Int):(CH slot key ver pay).length=16+pay.length:=by
 unfold CH
 rw[List.length_append,List.length_append,List.length_append,wO,wO];rfl
def aP(slot key ver:Int)(n:Nat):Int:=
 if slot<0∨7<slot∨key<0∨63<key∨ver<0∨4294967295<ver then 2 else if 524240<n then 4 else 0
section
variable {h0 h:H} {A:List Ent} {i j p r b s m:Nat} {C:Cm}
theorem AaC{Q:Option Addr->Nat->Nat->HP}{q:Option Addr}{l c:Nat}{xs:List Int}(v:Int)(hs:Sat h0 (slE q l c 1 (AA .u8 xs)::A) h)(hl:l<2^45)
  (k:∀p' c' h',Sat h0 (slE p' (l+4) c' 1 (AA .u8 (xs++EN v 4))::A) h'->Q p' (l+4) c' h'):RB q l c v Q h:=by
 unfold RB lF
 intro J hJ
 refine pW 4 (fun t (s:Option Addr×Nat)=>[.dv (.one (.slice s.1 (l+t) s.2)),si t]) (fun t s h=>Sat h0 (slE s.1 (l+t) s.2 1 (AA .u8 (xs++EN v t))::A) h) ?_ ?_ 0 (q,c) _ (by omega) (by simpa[EN]using hs)
 ·clear hs
  rintro t ⟨p2,c2⟩ h2 ht hs hk
  dsimp only at hs hk ⊢
  apply hJ
  rw[AD,if_pos (by rw[decide_eq_true_iff];omega)]
  have e:IntKind.i64.wrap (8*(t:Int))=((8*t:Nat):Int):=by rw[AL (by omega)];push_cast;rfl
  rw[e]
  refine⟨by omega,?_⟩
  rw[Int.toNat_natCast,show min (8*t) 64=8*t by omega]
  intro nb _ hn;replace hs:=Sat.new hs hn
  refine⟨_,hs.bv (i:=0) (l:=1) .z rfl (A5 .u8 [_]),?_⟩
  refine Sat.app hs (i:=1) (vs:=AA .u8 [_]) zs1 rfl rfl (A5 .u8 [_]) (by omega) ?_
  intro p3 c3 h3 hs
  simp only[AS,AG]at hs
  rw[AU (by omega)]
  refine hk (p3,c3) h3 ?_
  dsimp only
  rw[Al1,←List.append_assoc,FC .u8 _ [_]]
  exact hs.drop
 ·clear hs
  rintro⟨p2,c2⟩ h2 hs
  dsimp only at hs ⊢
  apply hJ
  rw[AD,if_neg (by decide)]
  exact k _ _ _ hs
theorem Aa3{Q:Option Addr->Nat->Nat->HP}{slot key ver:Int}{pay tag:List Int}{pp:Option Addr}{pl pc:Nat}(hs:Sat h0 A h)(hp:pl<2^44)(rd:∀h',Sat h0 A h'->hsv h' pp 1 pl (AA .u8 pay))
  (k:∀p' c' h',Sat h0 (slE p' (16+pl) c' 1 (AA .u8 (CH slot key ver pay))::A) h'->Q p' (16+pl) c' h'):KV slot key ver pp pl pc tag Q h:=by
 unfold KV k9
 try simp only[AF,Nat.zero_add,List.append_nil]
 have hpl:pay.length=pl:=by have:=(rd _ hs).1;simpa using this
 intro n10 _ hn;replace hs:=Sat.new hs hn
 replace hs:Sat h0 (blk n10 (AP slot key ver (pp,pl,pc) tag)::A) _:=hs
 refine⟨_,hs.ld .z rfl,_,hs.ld .z rfl,?_⟩
 intro n15 _ hn;replace hs:=Sat.new hs hn
 refine⟨_,hs.ld zs1 rfl,?_⟩
 replace hs:=hs.as_sl (i:=0) (l:=8) (sz:=1) .z rfl (A5 .u8 [80,67,85,76,1,IntKind.u8.wrap slot,IntKind.u8.wrap key,0])
 simp only[AG]at hs
 refine AaC (xs:=[80,67,85,76,1,IntKind.u8.wrap slot,IntKind.u8.wrap key,0]) ver hs (by decide) ?_
 intro p2 c2 h2 hs
 refine⟨_,_,_,hs.ld zs1 rfl,?_⟩
 refine AaC (pl:Int) hs (by decide) ?_
 intro p3 c3 h3 hs
 refine⟨_,_,_,hs.ld zs1 rfl,_,rd _ hs.drop.drop,?_⟩
 refine Sat.app hs (i:=0) (vs:=AA .u8 pay) .z (by simp[hpl]) rfl (A5 _ _) (by dsimp only;omega) ?_
 intro p4 c4 h4 hs
 simp only[AG]at hs
 have e:AA .u8 ([80,67,85,76,1,IntKind.u8.wrap slot,IntKind.u8.wrap key,0]++EN ver 4++EN (pl:Int) 4)++AA .u8 pay=AA .u8 (CH slot key ver pay):=by
  unfold CH;rw[hpl,←FC]
 rw[e]at hs
 have K:=k p4 c4 h4
 rw[show 16+pl=8+4+4+pl by omega]at K
 exact K (hs.sub (by(repeat (first | exact List.Sublist.refl _ | apply List.Sublist.cons_cons | apply List.Sublist.cons))))
theorem Ap1{Q:Option Addr->Nat->Nat->HP}{slot key ver:Int}{pay tag:List Int}{pp:Option Addr}{pl pc:Nat}(hs:Sat h0 A h)(ht:tag.length=32)(hp:pl<2^44)(rd:∀h',Sat h0 A h'->hsv h' pp 1 pl (AA .u8 pay))
  (k:∀p' c' h',Sat h0 (slE p' (48+pl) c' 1 (AA .u8 (CH slot key ver pay++tag))::A) h'->48+pl≤c'->Q p' (48+pl) c' h'):RA slot key ver pp pl pc tag Q h:=by
 unfold RA lE
 try simp only[AF,Nat.zero_add,List.append_nil]
 intro n10 _ hn;replace hs:=Sat.new hs hn
 replace hs:Sat h0 (blk n10 (AP slot key ver (pp,pl,pc) tag)::A) _:=hs
 refine⟨_,hs.ld .z rfl,_,hs.ld .z rfl,_,hs.ld .z rfl,_,_,_,hs.ld .z rfl,tag,ht,CB hs .z ht,?_⟩
 refine Aa3 (pay:=pay) hs hp (fun h' hs'=>rd _ hs'.drop) ?_
 intro p2 c2 h2 hs
 intro J hJ
 refine pW 32 (fun t (s:Option Addr×Nat)=>[.dv (.one (.slice s.1 (16+pl+t) s.2)),si t]) (fun t s h=>Sat h0 (slE s.1 (16+pl+t) s.2 1 (AA .u8 (CH slot key ver pay++tag.take t))::blk n10 (AP slot key ver (pp,pl,pc) tag)::A) h) ?_ ?_ 0 (p2,c2) _ (by omega) (by simpa using hs)
 ·clear hs
  rintro t ⟨p6,c6⟩ h6 ht2 hs hk
  dsimp only at hs hk ⊢
  apply hJ
  rw[AD,if_pos (by rw[decide_eq_true_iff];omega)]
  have ht3:t<tag.length:=by omega
  refine⟨by omega,by omega,tag[t],?_,?_⟩
  ·simp only[Int.toNat_natCast,Nat.mul_one]
   have:=CB hs zs1 ht t (.int .u8 tag[t]) (by rw[BA,List.getElem?_eq_getElem ht3];rfl)
   first | exact this | (rw[AF]at this;exact this)
  intro b3 _ hn;replace hs:=Sat.new hs hn
  refine⟨_,hs.bv (i:=0) (l:=1) .z rfl (A5 .u8 [tag[t]]),?_⟩
  refine Sat.app hs (i:=1) (vs:=AA .u8 [tag[t]]) zs1 rfl rfl (A5 _ _) (by omega) ?_
  intro p7 c7 h7 hs
  simp only[AS,AG]at hs
  rw[AU (by omega)]
  refine hk (p7,c7) h7 ?_
  dsimp only
  rw[q6 _ ht3,←List.append_assoc,FC .u8 _ [tag[t]]]
  exact hs.drop
 ·clear hs
  rintro⟨p6,c6⟩ h6 hs
  dsimp only at hs ⊢
  apply hJ
  rw[AD,if_neg (by decide)]
  rw[List.take_of_length_le (by omega)]at hs
  have hc:=R5 hs .z
  have K:=k p6 c6 h6
  rw[show 48+pl=16+pl+32 by omega]at K
  exact K (hs.sub (by(repeat (first | exact List.Sublist.refl _ | apply List.Sublist.cons_cons | apply List.Sublist.cons)))) hc
theorem AoS{Q:Int->HP}{slot key ver:Int}{tag:List Int}{pp:Option Addr}{pl pc:Nat}(hs:Sat h0 A h)(k:∀h',Sat h0 A h'->Q (aP slot key ver pl) h'):Q8 slot key ver pp pl pc tag Q h:=by
 unfold Q8 lB
 try simp only[AF,Nat.zero_add,List.append_nil]
 intro n9 _ hn;replace hs:=Sat.new hs hn
 replace hs:Sat h0 (blk n9 (AP slot key ver (pp,pl,pc) tag)::A) _:=hs
 have K:=k _ hs.drop
 clear k
 unfold aP at K
 intro J hJ
 refine⟨_,hs.ld .z rfl,?_⟩
 rw[AD]
 by_cases g1:slot<0
 ·rw[if_pos (by simpa using g1)]
  rw[if_pos (Or.inl g1)]at K;exact K
 rw[if_neg (by simpa using g1)]
 refine⟨_,hs.ld .z rfl,?_⟩
 rw[AD]
 by_cases g2:7<slot
 ·rw[if_pos (by simpa using g2)]
  rw[if_pos (Or.inr (Or.inl g2))]at K;exact K
 rw[if_neg (by simpa using g2)]
 refine⟨_,hs.ld .z rfl,?_⟩
 rw[AD]
 by_cases g3:key<0
 ·rw[if_pos (by simpa using g3)]
  rw[if_pos (by omega)]at K;exact K
 rw[if_neg (by simpa using g3)]
 refine⟨_,hs.ld .z rfl,?_⟩
 rw[AD]
 by_cases g4:63<key
 ·rw[if_pos (by simpa using g4)]
  rw[if_pos (by omega)]at K;exact K
 rw[if_neg (by simpa using g4)]
 refine⟨_,hs.ld .z rfl,?_⟩
 rw[AD]
 by_cases g5:ver<0
 ·rw[if_pos (by simpa using g5)]
  rw[if_pos (by omega)]at K;exact K
 rw[if_neg (by simpa using g5)]
 refine⟨_,hs.ld .z rfl,?_⟩
 intro v25 hv
 subst hv
 rw[AD]
 by_cases g6:4294967295<ver
 ·rw[if_pos (by simpa using g6)]
  rw[if_pos (by omega)]at K;exact K
 rw[if_neg (by simpa using g6)]
 rw[if_neg (by omega)]at K
 apply hJ
 refine⟨_,_,_,hs.ld .z rfl,?_⟩
 dsimp only
 rw[AD]
 by_cases g7:524240<pl
 ·rw[if_pos (by rw[decide_eq_true_iff];omega)]
  rw[if_pos g7]at K;exact K
 ·rw[if_neg (by rw[decide_eq_true_iff];omega)]
  rw[if_neg g7]at K;exact K
theorem AoR{Q:Option Addr->Nat->Nat->Int->HP}{slot key ver:Int}{sec pay tag:List Int}{sp pp:Option Addr}{sl sc pl pc:Nat}(hs:Sat h0 A h)(ht:tag.length=32)(hm:aP slot key ver pl=0)(hsb:BU sec)(hsl:sl<2^40)(hpb:BU pay)
  (rs:∀h',Sat h0 A h'->hsv h' sp 1 sl (AA .u8 sec)) (rd:∀h',Sat h0 A h'->hsv h' pp 1 pl (AA .u8 pay))
  (k:∀p' c' h',Sat h0 (slE p' (48+pl) c' 1 (AA .u8 (CH slot key ver pay++BI sec (CH slot key ver pay)))::A) h'->48+pl≤c'->Q p' (48+pl) c' 0 h'):Q7 sp sl sc slot key ver pp pl pc tag Q h:=by
 unfold Q7 lA
 try simp only[AF,Nat.zero_add,List.append_nil]
 have hpl:pay.length=pl:=by have:=(rd _ hs).1;simpa using this
 have hp:pl≤524240:=by
  unfold aP at hm
  by_cases g:slot<0∨7<slot∨key<0∨63<key∨ver<0∨4294967295<ver
  ·rw[if_pos g]at hm;cases hm
  ·rw[if_neg g]at hm
   by_cases g2:524240<pl
   ·rw[if_pos g2]at hm;cases hm
   ·omega
 have hcb:BU (CH slot key ver pay):=by
  intro v hv
  unfold CH at hv
  have w8:∀n,0≤IntKind.u8.wrap n/\IntKind.u8.wrap n<256:=fun n=>by rw[IntKind.wrap_u8];omega
  have f8:∀v t x,x∈EN v t->0≤x/\x<256:=by
   intro v t x hx
   unfold EN at hx
   obtain⟨j,_,rfl⟩:=List.mem_map.1 hx
   exact w8 _
  rcases List.mem_append.1 hv with hv | hv
  ·rcases List.mem_append.1 hv with hv | hv
   ·rcases List.mem_append.1 hv with hv | hv
    ·simp only[List.mem_cons,List.not_mem_nil,or_false]at hv
     rcases hv with rfl | rfl | rfl | rfl | rfl | rfl | rfl | rfl
     ·decide
     ·decide
     ·decide
     ·decide
     ·decide
     ·exact w8 _
     ·exact w8 _
     ·decide
    ·exact f8 _ _ _ hv
   ·exact f8 _ _ _ hv
  ·exact hpb v hv
 intro n16 _ hn;replace hs:=Sat.new hs hn
 replace hs:Sat h0 (blk n16 (AP slot key ver (pp,pl,pc) tag)::A) _:=hs
 refine⟨_,hs.ld .z rfl,_,hs.ld .z rfl,_,hs.ld .z rfl,_,_,_,hs.ld .z rfl,tag,ht,CB hs .z ht,?_⟩
 refine AoS hs ?_
 intro h2 hs
 rw[hm,if_neg (by decide)]
 refine⟨_,hs.ld .z rfl,_,hs.ld .z rfl,_,hs.ld .z rfl,_,_,_,hs.ld .z rfl,tag,ht,CB hs .z ht,?_⟩
 refine Aa3 (pay:=pay) hs (by dsimp only;omega) (fun h' hs'=>rd _ hs'.drop) ?_
 intro p2 c2 h3 hs
 refine AaG (key:=sec) (b:=CH slot key ver pay) hs hsb hcb (by omega) (by dsimp only;omega) (fun h' hs'=>rs _ hs'.drop.drop) (fun h' hs'=>hs'.sv .z) ?_
 intro h4 hs
 replace hs:=hs.drop
 refine⟨Sat.can hs .z (by simp[ht]),?_⟩
 intro h5 e5
 replace hs:=Sat.wr hs (i:=0) (o:=4) .z e5
 clear e5
 simp only[AG]at hs
 have es:AR (AP slot key ver (pp,pl,pc) tag) 4 (AA .u8 (BI sec (CH slot key ver pay)))=AP slot key ver (pp,pl,pc) (BI sec (CH slot key ver pay)):=by
  have:=M9 [Value.int .i64 slot,.int .i64 key,.int .i64 ver,.slice pp pl pc] (AA .u8 tag) [] (AA .u8 (BI sec (CH slot key ver pay))) (by simp[ht,FD])
  simpa using this
 rw[es]at hs
 refine⟨_,hs.ld .z rfl,_,hs.ld .z rfl,_,hs.ld .z rfl,_,_,_,hs.ld .z rfl,_,FD _ _,CB hs .z (FD _ _),?_⟩
 refine Ap1 (pay:=pay) hs (FD _ _) (by dsimp only;omega) (fun h' hs'=>rd _ hs'.drop) ?_
 intro p6 c6 h6 hs hc
 exact k _ _ _ (hs.sub (by(repeat (first | exact List.Sublist.refl _ | apply List.Sublist.cons_cons | apply List.Sublist.cons)))) hc
theorem ApF{Q:Bool->HP}{a b v:Int}{pay tag:List Int}{p1 p2:Option Addr}{l1 c1 l2 c2:Nat}(hs:Sat h0 A h)(ht:tag.length=32)(r1:∀h',Sat h0 A h'->hsv h' p1 1 l1 (AA .u8 pay))(r2:∀h',Sat h0 A h'->hsv h' p2 1 l2 (AA .u8 pay))
  (k:∀h',Sat h0 A h'->Q true h'):Q9 a b v p1 l1 c1 tag a b v p2 l2 c2 tag Q h:=by
 unfold Q9 lD
 try simp only[AF,Nat.zero_add,List.append_nil]
 intro n16 _ hn;replace hs:=Sat.new hs hn
 intro n19 _ hn;replace hs:=Sat.new hs hn
 replace hs:Sat h0 (blk n19 (AP a b v (p2,l2,c2) tag)::blk n16 (AP a b v (p1,l1,c1) tag)::A) _:=hs
 refine⟨_,hs.ld zs1 rfl,_,hs.ld .z rfl,?_⟩
 rw[if_pos (by simp)]
 refine⟨_,hs.ld zs1 rfl,_,hs.ld .z rfl,?_⟩
 rw[if_pos (by simp)]
 refine⟨_,hs.ld zs1 rfl,_,hs.ld .z rfl,?_⟩
 rw[if_pos (by simp)]
 refine⟨_,_,_,hs.ld zs1 rfl,_,r1 _ hs.drop.drop,_,_,_,hs.ld .z rfl,_,r2 _ hs.drop.drop,?_⟩
 rw[if_pos (by simp)]
 refine⟨tag,ht,CB hs zs1 ht,tag,ht,CB hs .z ht,?_⟩
 have:(tag == tag)=true:=by simp
 rw[this]
 exact k _ hs.drop.drop
end
end Go.Proofs.YteedolonhdbieaaGreatDoor
end
section
namespace Go.Proofs.YteedolonhdbieaaGreatDoor
open Go Go.Vc
set_option maxRecDepth 1000000
def oX:Cfg:=⟨8,2,3,10,4,5,0⟩
theorem g13:(AM (B6 oX) [(1,[7])] (CH 1 1 5 []++AB 32)==15&&AM (B6 oX) [(1,[7])] (CH 1 1 5 []++BI [7] (CH 1 1 5 []))==0&&AM (B6 oX) [(1,[7])] []==6&&AV (CH 1 1 5 []++BI [7] (CH 1 1 5 [])) 8 == 5)=true:=by decide +kernel
theorem n13:DP [(1,[7])]=none:=by decide
end Go.Proofs.YteedolonhdbieaaGreatDoor
end
section
namespace Go.Proofs.YteedolonhdbieaaGreatDoor
open Go Go.Vc
set_option maxRecDepth 100000
attribute [local irreducible] BI
structure TkIn (h:H) (key:Int) (id tag:List Int) (cs:List CvM) (ip:Option Addr) (il:Nat) (cp:Option Addr) (cl:Nat):Prop where
 ri:hsv h ip 1 il (AA .u8 id)
 rb:BU id
 ii:il+4096≤2^47
 rc:hsv h cp 5 cl (o3 cs)
 tl:tag.length=32
 tb:BU tag
section
variable {h0 h:H} {A:List Ent} {i j p r b s m:Nat} {C:Cm}
end
end Go.Proofs.YteedolonhdbieaaGreatDoor
end
section
namespace Go.Proofs.YteedolonhdbieaaGreatDoor
open Go Go.Vc
set_option maxRecDepth 100000
def vX(C:Cm)(k:Nat):Nat:=cnt C.s.blown (((k:Nat):Int)*C.cfg.fuses).toNat C.cfg.fuses.toNat
def FY(C:Cm)(k:Nat):Int:=if (vX C k:Int)*C.cfg.step<FE C k then FE C k else (vX C k:Int)*C.cfg.step
structure Bumped (u:Bool) (C D:Cm) (slot:Nat) (v e:Int):Prop where
 cfg:D.cfg=C.cfg
 snd:YI u D
 keys:∀q:Nat,C.cfg.slots*C.cfg.fuses≤(q:Int)->D.s.blown.getD q false=C.s.blown.getD q false
 other:∀k:Nat,(k:Int)<C.cfg.slots->k≠slot->FY D k=FY C k
 me:FY D slot=FY C slot∨(FY D slot=v/\FY C slot<v)
 done:e=0->FY D slot=max v (FY C slot)
 bad:e≠0->e≠8->D=C
def LC(C:Cm)(k:Nat):Bool:=C.s.blown.getD (C.cfg.slots*C.cfg.fuses+(k:Int)).toNat false
structure RevokedL (u:Bool) (C D:Cm) (key:Nat) (e:Int):Prop where
 cfg:D.cfg=C.cfg
 snd:YI u D
 vals:∀k:Nat,(k:Int)<C.cfg.slots->FY D k=FY C k
 other:∀k:Nat,k≠key->LC D k=LC C k
 up:LC C key=true->LC D key=true
 done:e=0->LC D key=true/\D.out=false
 bad:e≠0->e≠8->D=C
end Go.Proofs.YteedolonhdbieaaGreatDoor
end
section
namespace Go.Proofs.YteedolonhdbieaaGreatDoor
open Go Go.Vc
set_option maxRecDepth 100000
attribute [local irreducible] BI
structure Hands (C:Cm) (L:List Sec) (bs:List Int) (x y:Nat) (s:Sec):Prop where
 on:C.out=false
 fine:(CP bs).1=0
 slot:bs.getD 5 0=(x:Int)
 key:bs.getD 6 0=(y:Int)
 slots:(x:Int)<C.cfg.slots
 keys:(y:Int)<C.cfg.keys
 has:L.find? (fun z=>z.1 == (y:Int))=some s
 may:LC C y=false
 tag:BI s.2 (bs.take (bs.length-32))=(bs.drop (bs.length-32)).take 32
 low:FY C x≤AV bs 8
 high:AV bs 8≤DX C.cfg
structure Lifted (C D:Cm):Prop where
 cfg:D.cfg=C.cfg
 vals:∀k:Nat,(k:Int)<C.cfg.slots->FY C k≤FY D k
 keys:∀k:Nat,(k:Int)<C.cfg.keys->LC C k=true->LC D k=true
end Go.Proofs.YteedolonhdbieaaGreatDoor
end
section
namespace Go.Proofs.YteedolonhdbieaaGreatDoor
open Go Go.Vc
set_option maxRecDepth 100000
attribute [local irreducible] BI
def q8(C:Cm)(L:List Sec)(B:List Int):Int:=
 if (CP B).1≠0/\(CP B).1≠6 then (CP B).1
 else if 5<B.length/\C.cfg.slots≤B.getD 5 0 then 5
 else if 6<B.length/\(C.cfg.keys≤B.getD 6 0∨L.find? (fun x=>x.1 == B.getD 6 0)=none) then 13
 else if 6<B.length/\(CL C (B.getD 6 0)).1=true then 14 else 0
end Go.Proofs.YteedolonhdbieaaGreatDoor
end
section
namespace Go.Proofs.YteedolonhdbieaaGreatDoor
open Go Go.Vc
set_option maxRecDepth 100000
attribute [local irreducible] BI
theorem q9(n:Int):0≤IntKind.u8.wrap n/\IntKind.u8.wrap n<256:=by rw[IntKind.wrap_u8];omega
theorem Ak3{slot key ver:Int}{pay:List Int}(hpb:BU pay):BU (CH slot key ver pay):=by
 intro v hv
 unfold CH at hv
 have f8:∀v t x,x∈EN v t->0≤x/\x<256:=by
  intro v t x hx
  unfold EN at hx
  obtain⟨j,_,rfl⟩:=List.mem_map.1 hx
  exact q9 _
 rcases List.mem_append.1 hv with hv | hv
 ·rcases List.mem_append.1 hv with hv | hv
  ·rcases List.mem_append.1 hv with hv | hv
   ·simp only[List.mem_cons,List.not_mem_nil,or_false]at hv
    rcases hv with rfl | rfl | rfl | rfl | rfl | rfl | rfl | rfl
    ·decide
    ·decide
    ·decide
    ·decide
    ·decide
    ·exact q9 _
    ·exact q9 _
    ·decide
   ·exact f8 _ _ _ hv
  ·exact f8 _ _ _ hv
 ·exact hpb v hv
structure Made (bs:List Int) (slot key ver:Int) (pay t:List Int):Prop where
 fine:CP bs=(0,0)
 atSlot:bs.getD 5 0=slot
 atKey:bs.getD 6 0=key
 atVer:AV bs 8=ver
 n:AV bs 12=pay.length
 len:bs.length=48+pay.length
 body:bs.take (bs.length-32)=CH slot key ver pay
 tag:(bs.drop (bs.length-32)).take 32=t
 load:(bs.drop 16).take pay.length=pay
 tag2:(bs.drop (16+pay.length)).take 32=t
section
variable {h0 h:H} {A:List Ent} {i j p r b s m:Nat} {C:Cm}
end
end Go.Proofs.YteedolonhdbieaaGreatDoor
end
section
namespace Go.Proofs.YteedolonhdbieaaGreatDoor
open Go Go.Vc
set_option maxRecDepth 100000
attribute [local irreducible] BI AM
@[irreducible] def YA(P:Option Addr)(n:Nat)(xs:List Int)(h:H)(f:Nat->Prop):Prop:=
 xs.length=n/\((n=0/\∀x,¬f x)∨∃b pre post,(n=0∨P=some ⟨b,pre.length,none⟩)/\Blk h b (pre++AA .u8 xs++post)/\∀x,f x↔x=b)
def FW(P:Option Addr)(n:Nat)(xs:List Int):Ent where
 tag:=.of 77
 P:=YA P n xs
 st:=by
  unfold YA;rintro h h' f ⟨e,k⟩ hs
  refine⟨e,?_⟩
  rcases k with k | ⟨b,pre,post,k1,k2,k3⟩
  ·exact Or.inl k
  ·exact Or.inr ⟨b,pre,post,k1,k2.of_eq (hs b ((k3 b).2 rfl)),k3⟩
 lt:=by
  unfold YA;rintro h f x ⟨e,k⟩ hx
  rcases k with k | ⟨b,pre,post,k1,k2,k3⟩
  ·exact absurd hx (k.2 x)
  ·rw[(k3 x).1 hx];exact k2.lt
theorem prtE_P{P:Option Addr}{n:Nat}{xs:List Int}{h:H}{f:Nat->Prop}:(FW P n xs).P h f↔xs.length=n/\((n=0/\∀x,¬f x)∨∃b pre post,(n=0∨P=some ⟨b,pre.length,none⟩)/\Blk h b (pre++AA .u8 xs++post)/\∀x,f x↔x=b):=by
 show YA P n xs h f↔_;unfold YA;rfl
section
variable {h0 h:H} {A:List Ent} {i j p r b s m:Nat} {C:Cm}
theorem zN{P:Option Addr}{n:Nat}{xs:List Int}(hs:Sat h0 A h)(a:At A i (FW P n xs)):hsv h P 1 n (AA .u8 xs):=by
 obtain⟨f,hp,_⟩:=hs.take a
 obtain⟨e,k⟩:=prtE_P.1 hp
 refine⟨by rw[A6,e,Nat.mul_one],A5 _ _,?_⟩
 have nl:n=0->AA .u8 xs=[]:=fun y=>by rw[List.eq_nil_of_length_eq_zero (e.trans y)];rfl
 rcases k with k | ⟨b,pre,post,k1,k2,k3⟩
 ·exact Or.inl (nl k.1)
 ·rcases k1 with k1 | k1
  ·exact Or.inl (nl k1)
  ·refine Or.inr ⟨_,k1,k2.hcs fun x hx=>?_⟩
   rw[List.append_assoc,List.getElem?_append_right (by omega),Nat.add_sub_cancel_left,List.getElem?_append_left hx]
theorem AnO{P:Option Addr}{n x:Nat}{xs:List Int}(hs:Sat h0 A h)(a:At A i (FW P n xs))(hx:x<n):
  ∃q,P=some q/\AC h (q.add x) 1/\∀v h',h'=hwr h (q.add x) [.int .u8 v]->Sat h0 (put A i (FW P n (xs.set x v))) h':=by
 obtain⟨f,hp,_,hk⟩:=hs.takeK a
 obtain⟨e,k⟩:=prtE_P.1 hp
 rcases k with k | ⟨b,pre,post,k1,k2,k3⟩
 ·exact absurd k.1 (by omega)
 rcases k1 with k1 | k1
 ·exact absurd k1 (by omega)
 have hxl:x<xs.length:=by omega
 refine⟨_,k1,?_,?_⟩
 ·rw[AF]
  exact k2.can (by rw[List.length_append,List.length_append,A6];omega)
 ·intro v h' e'
  rw[AF]at e'
  subst e'
  refine hk _ _ f (prtE_P.2 ⟨by rw[List.length_set];exact e,Or.inr ⟨b,pre,post,Or.inr k1,?_,k3⟩⟩) (fun _=>Or.inl) ((Ext.wr h b _ _).mono fun y _ hy=>(k3 y).2 hy)
  have w:=k2.wr (pre.length+x) [.int .u8 v]
  have e1:pre++AA .u8 xs++post=pre++AA .u8 (xs.take x)++AA .u8 [xs[x]]++(AA .u8 (xs.drop (x+1))++post):=by
   have:xs=xs.take x++[xs[x]]++xs.drop (x+1):=by
    have:=(List.take_append_drop x xs).symm
    rw[List.drop_eq_getElem_cons hxl]at this
    rw[List.append_assoc];exact this
   have e2:=congrArg (AA .u8) this
   rw[FC,FC]at e2
   rw[e2]
   simp only[List.append_assoc]
  have e3:xs.set x v=xs.take x++[v]++xs.drop (x+1):=by
   rw[List.set_eq_take_append_cons_drop,if_pos hxl,List.append_assoc];rfl
  have e4:=M9 (pre++AA .u8 (xs.take x)) (AA .u8 [xs[x]]) (AA .u8 (xs.drop (x+1))++post) [.int .u8 v] rfl
  rw[List.length_append,A6,List.length_take,Nat.min_eq_left (by omega)]at e4
  rw[e1,e4]at w
  rw[e3,FC,FC]
  have e5:pre++(AA .u8 (xs.take x)++AA .u8 [v]++AA .u8 (xs.drop (x+1)))++post=pre++AA .u8 (xs.take x)++[.int .u8 v]++(AA .u8 (xs.drop (x+1))++post):=by
   simp only[List.append_assoc];rfl
  rw[e5]
  exact w
theorem aV{c sz:Nat}(hs:Sat h0 A h)(a:At A i (sE (none,0,0) sz [])):Sat h0 (put A i (FW none 0 [])) h:=by
 refine hs.as a fun f hp=>?_
 obtain⟨bs,⟨_,_,_,h4⟩,hf⟩:=slE_P.1 hp
 refine prtE_P.2 ⟨rfl,Or.inl ⟨rfl,fun x hx=>?_⟩⟩
 rcases h4 with⟨_,_,rfl⟩ | ⟨b,rest,y,_⟩
 ·simpa using (hf x).1 hx
 ·cases y
theorem zL{own:Sl}{bs:List Int}{n:Nat}(hs:Sat h0 A h)(a:At A i (sE own 1 (AA .u8 bs)))(hl:bs.length=48+n):Sat h0 (put A i (FW (AJ own.1 16 (16+n) 1) n ((bs.drop 16).take n))) h:=by
 refine hs.as a fun f hp=>?_
 obtain⟨B,⟨h1,h2,h3,h4⟩,hf⟩:=slE_P.1 hp
 have hlen:own.2.1=48+n:=by simp at h1;omega
 refine prtE_P.2 ⟨by rw[List.length_take,List.length_drop];omega,Or.inr ?_⟩
 rcases h4 with⟨y,_,_⟩ | ⟨b,rest,e1,rfl,k,_⟩
 ·omega
 refine⟨b,AA .u8 (bs.take 16),AA .u8 (bs.drop (16+n))++rest,?_,?_,?_⟩
 ·by_cases g:n=0
  ·exact Or.inl g
  ·right
   unfold AJ
   rw[if_neg (by omega),e1]
   show some ((⟨b,0,none⟩:Addr).add (16*1))=_
   rw[AF,A6,List.length_take,Nat.min_eq_left (by omega)]
 ·have e2:bs=bs.take 16++(bs.drop 16).take n++bs.drop (16+n):=by
   rw[List.append_assoc,←List.drop_drop,List.take_append_drop,List.take_append_drop]
  have e3:=congrArg (AA .u8) e2
  rw[FC,FC]at e3
  rw[e3]at k
  have e4:AA .u8 (bs.take 16)++AA .u8 ((bs.drop 16).take n)++(AA .u8 (bs.drop (16+n))++rest)=AA .u8 (bs.take 16)++AA .u8 ((bs.drop 16).take n)++AA .u8 (bs.drop (16+n))++rest:=by simp only[List.append_assoc]
  rw[e4]
  exact k
 ·intro x;rw[hf];simp
end
def BO(G:Int)(bs:List Int):Int:=if G=0 then bs.getD 5 0 else 0
def BN(G:Int)(bs:List Int):Int:=if G=0 then bs.getD 6 0 else 0
def BM(G:Int)(bs:List Int):Int:=if G=0 then AV bs 8 else 0
def AY(G:Int)(bs:List Int):List Int:=if G=0 then (bs.drop 16).take (AV bs 12).toNat else []
def BF(G:Int)(bs:List Int):List Int:=if G=0 then (bs.drop (16+(AV bs 12).toNat)).take 32 else AB 32
section
variable {h0 h:H} {A:List Ent} {i j p r b s m:Nat} {C:Cm}
theorem wT{K:Nat->Int->HP}{mm rr jm jr:Nat}{bs:List Int}{q:Option Addr}{l c:Nat}{R:List SR}{L:List Sec}(hg:hc h0 ⟨0,0,none⟩=some E0)(hs:Sat h0 A h)(ci:At A i (AH p C))(cl':At A j (BY r p))(st:At A m (DG s p r))
  (cr:At A jr (blk rr [.map (some mm)])) (cm:At A jm (ED mm (R.map SR.ent))) (eR:R.map SR.kv=L) (gd:SR.good R) (rR:∀x,x∈R->∃y,At A y x.sl)
  (rd:∀h',Sat h0 A h'->hsv h' q 1 l (AA .u8 bs)) (hb:A4 bs) (hlc:l≤c) (hl:l<2^50)
  (k:∀nb P h',(BF (AM C L bs) bs).length=32->(AY (AM C L bs) bs).length<2^40->Sat h0 (blk nb (AP (BO (AM C L bs) bs) (BN (AM C L bs) bs) (BM (AM C L bs) bs) (P,(AY (AM C L bs) bs).length,(AY (AM C L bs) bs).length) (BF (AM C L bs) bs))::FW P (AY (AM C L bs) bs).length (AY (AM C L bs) bs)::A) h'->K nb (AM C L bs) h'):
  GO ⟨s,0,none⟩ ⟨rr,0,none⟩ q l c (fun i1 i2 i3 o n m l e h=>∀nb h',hnew h nb (.int .i64 0::.int .i64 0::.int .i64 0::.slice none 0 0::AA .u8 (AB 32)) h'->AC h' ⟨nb,0,none⟩ 36/\∀h'',h''=hwr h' ⟨nb,0,none⟩ (.int .i64 i1::.int .i64 i2::.int .i64 i3::.slice o n m::AA .u8 l)->K nb e h'') h:=by
 refine wV (bs:=bs) hg hs ci cl' st cr cm gd (fun x hx h' hs'=>hs'.sv (rR x hx).choose_spec) rd hb hlc hl ?_ ?_
 ·intro e he hne h5 hs
  rw[eR]at he
  subst he
  replace hs:=hs.sl_nil 1 none
  intro n113 _ hn;replace hs:=Sat.new hs hn
  refine⟨Sat.can hs .z (by simp[AB]),?_⟩
  intro h6 e6
  replace hs:=Sat.wra (xs:=AP 0 0 0 (none,0,0) (AB 32)) hs .z e6 rfl
  clear e6
  simp only[AG]at hs
  replace hs:=aV (c:=0) hs zs1
  simp only[AS,AG]at hs
  have e1:BO (AM C L bs) bs=0:=if_neg hne
  have e2:BN (AM C L bs) bs=0:=if_neg hne
  have e3:BM (AM C L bs) bs=0:=if_neg hne
  have e4:AY (AM C L bs) bs=[]:=if_neg hne
  have e5:BF (AM C L bs) bs=AB 32:=if_neg hne
  have:=k n113 none h6
  rw[e1,e2,e3,e4,e5]at this
  exact this (BQ 32) (by decide) hs
 ·intro own n hz hp hnn hln h5 hs
  rw[eR]at hz
  have tl32:((bs.drop (16+n)).take 32).length=32:=by rw[List.length_take,List.length_drop];omega
  have pl:((bs.drop 16).take n).length=n:=by rw[List.length_take,List.length_drop];omega
  intro n113 _ hn;replace hs:=Sat.new hs hn
  refine⟨Sat.can hs .z (by simp[AB]),?_⟩
  intro h6 e6
  replace hs:=Sat.wra (xs:=AP (bs.getD 5 0) (bs.getD 6 0) (AV bs 8) (AJ own.1 16 (16+n) 1,n,n) ((bs.drop (16+n)).take 32)) hs .z e6 (by rw[BX tl32];rfl)
  clear e6
  simp only[AG]at hs
  replace hs:=zL hs zs1 hln
  simp only[AS,AG]at hs
  have en:(AV bs 12).toNat=n:=by omega
  have e1:BO (AM C L bs) bs=bs.getD 5 0:=if_pos hz
  have e2:BN (AM C L bs) bs=bs.getD 6 0:=if_pos hz
  have e3:BM (AM C L bs) bs=AV bs 8:=if_pos hz
  have e4:AY (AM C L bs) bs=(bs.drop 16).take n:=by rw[←en];exact if_pos hz
  have e5:BF (AM C L bs) bs=(bs.drop (16+n)).take 32:=by rw[←en];exact if_pos hz
  have:=k n113 (AJ own.1 16 (16+n) 1) h6
  rw[e1,e2,e3,e4,e5,hz,pl]at this
  exact this tl32 (by have:=(X9 hb hp hnn).2.2.2;omega) hs
theorem AaD{K:Nat->Int->HP}{jm jr:Nat}{bs:List Int}{q:Option Addr}{l c rr lc':Nat}{lp':Option Addr}{R:List SR}{L:List Sec}{pr:Nat}(hs:Sat h0 A h)(ci:At A i (AK pr C))
  (cr:At A jr (blk rr [.slice lp' R.length lc'])) (cm:At A jm (slE lp' R.length lc' 2 (DQ R))) (eR:R.map SR.kv=L) (lR:R.length<2^40) (gd:SR.good R) (rR:∀x,x∈R->∃y,At A y x.sl)
  (rd:∀h',Sat h0 A h'->hsv h' q 1 l (AA .u8 bs)) (hb:A4 bs) (hlc:l≤c) (hl:l<2^50)
  (k:∀nb (x:Sl) h',(BF (AM C L bs) bs).length=32->(AY (AM C L bs) bs).length<2^40->x.2.1=(AY (AM C L bs) bs).length->Sat h0 (blk nb (AP (BO (AM C L bs) bs) (BN (AM C L bs) bs) (BM (AM C L bs) bs) x (BF (AM C L bs) bs))::sE x 1 (AA .u8 (AY (AM C L bs) bs))::A) h'->K nb (AM C L bs) h'):
  I1 ⟨pr,0,none⟩ ⟨rr,0,none⟩ q l c (fun i1 i2 i3 o n m l e h=>∀nb h',hnew h nb (.int .i64 0::.int .i64 0::.int .i64 0::.slice none 0 0::AA .u8 (AB 32)) h'->AC h' ⟨nb,0,none⟩ 36/\∀h'',h''=hwr h' ⟨nb,0,none⟩ (.int .i64 i1::.int .i64 i2::.int .i64 i3::.slice o n m::AA .u8 l)->K nb e h'') h:=by
 refine AoN (bs:=bs) hs ci cr cm lR gd (fun x hx h' hs'=>hs'.sv (rR x hx).choose_spec) rd hb hlc hl ?_ ?_
 ·intro e he hne h5 hs
  rw[eR]at he
  subst he
  replace hs:=hs.sl_nil 1 none
  intro n113 _ hn;replace hs:=Sat.new hs hn
  refine⟨Sat.can hs .z (by simp[AB]),?_⟩
  intro h6 e6
  replace hs:=Sat.wra (xs:=AP 0 0 0 (none,0,0) (AB 32)) hs .z e6 rfl
  clear e6
  simp only[AG]at hs
  have e1:BO (AM C L bs) bs=0:=if_neg hne
  have e2:BN (AM C L bs) bs=0:=if_neg hne
  have e3:BM (AM C L bs) bs=0:=if_neg hne
  have e4:AY (AM C L bs) bs=[]:=if_neg hne
  have e5:BF (AM C L bs) bs=AB 32:=if_neg hne
  have:=k n113 (none,0,0) h6
  rw[e1,e2,e3,e4,e5]at this
  exact this (BQ 32) (by decide) rfl hs
 ·intro own n hz hp hnn hon h5 hs
  rw[eR]at hz
  obtain⟨hln,_,_,hn2⟩:=X9 hb hp hnn
  have tl32:((bs.drop (16+n)).take 32).length=32:=by rw[List.length_take,List.length_drop];omega
  have pl:((bs.drop 16).take n).length=n:=by rw[List.length_take,List.length_drop];omega
  intro n113 _ hn;replace hs:=Sat.new hs hn
  refine⟨Sat.can hs .z (by simp[AB]),?_⟩
  intro h6 e6
  replace hs:=Sat.wra (xs:=AP (bs.getD 5 0) (bs.getD 6 0) (AV bs 8) own ((bs.drop (16+n)).take 32)) hs .z e6 (by rw[BX tl32];rfl)
  clear e6
  simp only[AG]at hs
  have en:(AV bs 12).toNat=n:=by omega
  have e1:BO (AM C L bs) bs=bs.getD 5 0:=if_pos hz
  have e2:BN (AM C L bs) bs=bs.getD 6 0:=if_pos hz
  have e3:BM (AM C L bs) bs=AV bs 8:=if_pos hz
  have e4:AY (AM C L bs) bs=(bs.drop 16).take n:=by rw[←en];exact if_pos hz
  have e5:BF (AM C L bs) bs=(bs.drop (16+n)).take 32:=by rw[←en];exact if_pos hz
  have:=k n113 own h6
  rw[e1,e2,e3,e4,e5,hz,pl]at this
  exact this tl32 (by omega) hon hs
end
end Go.Proofs.YteedolonhdbieaaGreatDoor
end
section
namespace Go.Proofs.YteedolonhdbieaaGreatDoor
open Go Go.Vc
set_option maxRecDepth 100000
attribute [local irreducible] BI AM
theorem YN{G:Int}{bs:List Int}(h:G≠0):BO G bs=0/\BN G bs=0/\BM G bs=0/\AY G bs=[]:=by
 unfold BO BN BM AY
 rw[if_neg h,if_neg h,if_neg h,if_neg h]
 exact⟨rfl,rfl,rfl,rfl⟩
section
variable {h0 h:H} {A:List Ent} {i j p r b s m:Nat} {C:Cm}
attribute [local irreducible] BO BN BM AY BF in
end
end Go.Proofs.YteedolonhdbieaaGreatDoor
end
section
namespace Go.Proofs.YteedolonhdbieaaGreatDoor
open Go Go.Vc
set_option maxRecDepth 1000000
def b26:List Int:=CH 0 0 5 [1,2,3]++BI [7] (CH 0 0 5 [1,2,3])
theorem n26:DP [(0,[7])]=none:=by decide
end Go.Proofs.YteedolonhdbieaaGreatDoor
end
section
namespace Go.Proofs.YteedolonhdbieaaGreatDoor
open Go Go.Vc
set_option maxRecDepth 100000
attribute [local irreducible] BI AM BO BN BM AY BF q8
abbrev NZ(n:Nat)(c:Cfg):Ent:=blk n [.int .i64 c.cells,.int .i64 c.slots,.int .i64 c.fuses,.int .i64 c.step,.int .i64 c.keys,.int .i64 c.erases,.int .i64 c.area]
section
variable {h0 h:H} {A:List Ent} {i j p r b s m:Nat} {C:Cm}
end
end Go.Proofs.YteedolonhdbieaaGreatDoor
end
section
namespace Go.Proofs.YteedolonhdbieaaGreatDoor
open Go Go.Vc
set_option maxRecDepth 100000
attribute [local irreducible] BI AM BO BN BM AY BF
abbrev Ev:=List Int×Int
theorem EH(p:Option Addr)(m sz:Nat):AJ p 0 m sz=p:=by
 unfold AJ
 split
 ·rfl
 ·cases p with
  | none=>rfl
  | some a=>simp[Addr.add]
structure Rm where
 handed:Bool
 slot:Int
 ver:Int
 evs:List Ev
 own:List Int
structure RW where
 lo:Nat
 ev:Nat
 eo:Option Addr
 ec:Nat
 own:Sl
section
variable {h0 h:H} {A:List Ent} {i j p r b s m:Nat} {C:Cm}
end
end Go.Proofs.YteedolonhdbieaaGreatDoor
end
section
namespace Go.Proofs.YteedolonhdbieaaGreatDoor
open Go Go.Vc
set_option maxRecDepth 100000
attribute [local irreducible] BI AM BO BN BM AY BF
section
variable {h0 h:H} {A:List Ent} {i j p r b s m:Nat} {C:Cm}
theorem wU{K:Int->HP}{mm rr jm jr nb:Nat}{bs:List Int}{q:Option Addr}{l c:Nat}{R:List SR}{L:List Sec}(hg:hc h0 ⟨0,0,none⟩=some E0)(hs:Sat h0 (blk nb (AP 0 0 0 (none,0,0) (AB 32))::A) h)(ci:At A i (AH p C))(cl':At A j (BY r p))(st:At A m (DG s p r))
  (cr:At A jr (blk rr [.map (some mm)])) (cm:At A jm (ED mm (R.map SR.ent))) (eR:R.map SR.kv=L) (gd:SR.good R) (rR:∀x,x∈R->∃y,At A y x.sl)
  (rd:∀B h',Sat h0 (B++A) h'->hsv h' q 1 l (AA .u8 bs)) (hb:A4 bs) (hlc:l≤c) (hl:l<2^50)
  (k:∀P h',(BF (AM C L bs) bs).length=32->(AY (AM C L bs) bs).length<2^40->Sat h0 (blk nb (AP (BO (AM C L bs) bs) (BN (AM C L bs) bs) (BM (AM C L bs) bs) (P,(AY (AM C L bs) bs).length,(AY (AM C L bs) bs).length) (BF (AM C L bs) bs))::FW P (AY (AM C L bs) bs).length (AY (AM C L bs) bs)::A) h'->K (AM C L bs) h'):
  GO ⟨s,0,none⟩ ⟨rr,0,none⟩ q l c (fun i1 i2 i3 o n m l e h=>AC h ⟨nb,0,none⟩ 36/\∀h'',h''=hwr h ⟨nb,0,none⟩ (.int .i64 i1::.int .i64 i2::.int .i64 i3::.slice o n m::AA .u8 l)->K e h'') h:=by
 refine wV (bs:=bs) hg hs ci.s cl'.s st.s cr.s cm.s gd (fun x hx h' hs'=>hs'.sv (rR x hx).choose_spec.s) (fun h' hs'=>rd [_] h' hs') hb hlc hl ?_ ?_
 ·intro e he hne h5 hs
  rw[eR]at he
  subst he
  replace hs:=(hs.sl_nil 1 none).perm (List.Perm.swap _ _ _)
  refine⟨Sat.can hs .z (by simp[AB]),?_⟩
  intro h6 e6
  replace hs:=Sat.wra (xs:=AP 0 0 0 (none,0,0) (AB 32)) hs .z e6 rfl
  clear e6
  simp only[AG]at hs
  replace hs:=aV (c:=0) hs zs1
  simp only[AS,AG]at hs
  obtain⟨e1,e2,e3,e4⟩:=YN (bs:=bs) hne
  have e5:BF (AM C L bs) bs=AB 32:=by unfold BF;rw[if_neg hne]
  have:=k none h6
  rw[e1,e2,e3,e4,e5]at this
  exact this (BQ 32) (by decide) hs
 ·intro own n hz hp hnn hln h5 hs
  rw[eR]at hz
  have tl32:((bs.drop (16+n)).take 32).length=32:=by rw[List.length_take,List.length_drop];omega
  have pl:((bs.drop 16).take n).length=n:=by rw[List.length_take,List.length_drop];omega
  replace hs:=hs.perm (List.Perm.swap _ _ _)
  refine⟨Sat.can hs .z (by simp[AB]),?_⟩
  intro h6 e6
  replace hs:=Sat.wra (xs:=AP (bs.getD 5 0) (bs.getD 6 0) (AV bs 8) (AJ own.1 16 (16+n) 1,n,n) ((bs.drop (16+n)).take 32)) hs .z e6 (by rw[BX tl32];rfl)
  clear e6
  simp only[AG]at hs
  replace hs:=zL hs zs1 hln
  simp only[AS,AG]at hs
  have en:(AV bs 12).toNat=n:=by omega
  have e1:BO (AM C L bs) bs=bs.getD 5 0:=by unfold BO;rw[if_pos hz]
  have e2:BN (AM C L bs) bs=bs.getD 6 0:=by unfold BN;rw[if_pos hz]
  have e3:BM (AM C L bs) bs=AV bs 8:=by unfold BM;rw[if_pos hz]
  have e4:AY (AM C L bs) bs=(bs.drop 16).take n:=by unfold AY;rw[if_pos hz,en]
  have e5:BF (AM C L bs) bs=(bs.drop (16+n)).take 32:=by unfold BF;rw[if_pos hz,en]
  have:=k (AJ own.1 16 (16+n) 1) h6
  rw[e1,e2,e3,e4,e5,hz,pl]at this
  exact this tl32 (by have:=(X9 hb hp hnn).2.2.2;omega) hs
end
end Go.Proofs.YteedolonhdbieaaGreatDoor
end
section
namespace Go.Proofs.YteedolonhdbieaaGreatDoor
open Go Go.Vc
set_option maxRecDepth 100000
attribute [local irreducible] BI AM BO BN BM AY BF
/-! ### Objects that are no cells -/
@[irreducible] def X6(k:Nat)(o:Obj)(h:H)(f:Nat->Prop):Prop:=h[k]?=some o/\∀x,f x↔x=k
def HU(k:Nat)(o:Obj):Ent where
 tag:=.of 8
 P:=X6 k o
 st:=by unfold X6;rintro h h' f ⟨a,e⟩ hs;exact⟨by rw[hs k ((e k).2 rfl)];exact a,e⟩
 lt:=by unfold X6;rintro h f x ⟨a,e⟩ hx;rw[(e x).1 hx];exact (Array.getElem?_eq_some_iff.1 a).1
theorem objE_P{k:Nat}{o:Obj}{h:H}{f:Nat->Prop}:(HU k o).P h f↔h[k]?=some o/\∀x,f x↔x=k:=by
 show X6 k o h f↔_;unfold X6;rfl
theorem zB{h0 h:H}{A:List Ent}(hs:Sat h0 A h)(o:Obj):Sat h0 (HU (BJ h) o::A) (EO h o):=by
 refine hs.add (h':=EO h o) ⟨by unfold EO;simp,fun b hb _=>by unfold EO;rw[Array.getElem?_push,if_neg (by omega)]⟩ (e:=HU (BJ h) o) (f:=fun x=>x=BJ h) (objE_P.2 ⟨by unfold EO BJ;simp,fun _=>Iff.rfl⟩) ?_
 intro b hb;rw[hb];exact Nat.le_refl _
theorem OF{h0 h:H}{A:List Ent}{i k:Nat}{o:Obj}(hs:Sat h0 A h)(a:At A i (HU k o)):CR h k o:=by
 obtain⟨f,hp,_⟩:=hs.take a
 exact (objE_P.1 hp).1
theorem JC{h0 h h':H}{A:List Ent}{i k:Nat}{o:Obj}(hs:Sat h0 A h)(a:At A i (HU k o))(o':Obj)(e:h'=A9 h k o'):Sat h0 (put A i (HU k o')) h':=by
 subst e
 refine hs.upd a fun f hp=>?_
 obtain⟨x,y⟩:=objE_P.1 hp
 have hk:=(Array.getElem?_eq_some_iff.1 x).1
 refine⟨f,objE_P.2 ⟨by unfold A9;rw[Array.getElem?_setIfInBounds_self_of_lt hk],y⟩,fun _=>Or.inl,by unfold A9;simp,fun b hb nb=>?_⟩
 unfold A9
 rw[Array.getElem?_setIfInBounds,if_neg (fun z=>nb ((y b).2 z.symm))]
theorem An3{h0 h h':H}{A:List Ent}(hs:Sat h0 A h){x y z:Obj}(e:h'=A9 (EO (EO h x) y) (BJ h+1) z):Sat h0 (HU (BJ h+1) z::HU (BJ h) x::A) h':=by
 have h1:=zB (zB hs x) y
 have hz:BJ (EO h x)=BJ h+1:=by unfold BJ EO;simp
 rw[hz]at h1
 exact JC (i:=0) h1 .z z e
/-! ### What a gate needs -/
def atN(A:List Ent)(i:Nat)(e:Ent):Prop:=∃j,j≠i/\At A j e
theorem atN.s{A:List Ent}{i:Nat}{e:Ent}(a:atN A i e){x:Ent}:atN (x::A) (i+1) e:=by
 obtain⟨j,h,a⟩:=a;exact⟨j+1,by omega,a.s⟩
theorem atN.put{A:List Ent}{i:Nat}{e:Ent}(a:atN A i e)(x:Ent):atN (put A i x) i e:=by
 obtain⟨j,h,a⟩:=a;exact⟨j,h,a.put_ne h x⟩
structure Gx (A:List Ent) (i p:Nat) (C:Cm) (lg st rr:Nat) (R:List SR) (L:List Sec):Prop where
 ci:At A i (AH p C)
 cl:atN A i (BY lg p)
 cs:atN A i (DG st p lg)
 cr:∃mm,atN A i (blk rr [.map (some mm)])/\atN A i (ED mm (R.map SR.ent))
 rR:∀x,x∈R->atN A i x.sl
 eR:R.map SR.kv=L
 gd:SR.good R
theorem Gx.s{A:List Ent}{i p:Nat}{C:Cm}{lg st rr:Nat}{R:List SR}{L:List Sec}(g:Gx A i p C lg st rr R L){x:Ent}:Gx (x::A) (i+1) p C lg st rr R L:=
 ⟨g.ci.s,g.cl.s,g.cs.s,by obtain⟨mm,a,b⟩:=g.cr;exact⟨mm,a.s,b.s⟩,fun x hx=>(g.rR x hx).s,g.eR,g.gd⟩
theorem Gx.put{A:List Ent}{i p:Nat}{C:Cm}{lg st rr:Nat}{R:List SR}{L:List Sec}(g:Gx A i p C lg st rr R L)(D:Cm):Gx (put A i (AH p D)) i p D lg st rr R L:=
 ⟨g.ci.put _,g.cl.put _,g.cs.put _,by obtain⟨mm,a,b⟩:=g.cr;exact⟨mm,a.put _,b.put _⟩,fun x hx=>(g.rR x hx).put _,g.eR,g.gd⟩
/-! ### What is told -/
def sG(C:Cm)(L:List Sec)(ar:Int):Int:=if (AN C ar).2=0 then AM C L (AN C ar).1 else 1
theorem LJ(C:Cm)(L:List Sec)(ar:Int):(sG C L ar == 0)=EB C L ar:=by
 unfold sG EB
 by_cases e:(AN C ar).2=0
 ·rw[if_pos e,e];simp
 ·rw[if_neg e,beq_eq_false_iff_ne.2 e];rfl
def AZ(C:Cm)(L:List Sec):Int:=if C.out=true then 8 else match C9 C L with
 | some _=>0
 | none=>17
def A7(C:Cm)(L:List Sec):List Int:=match C9 C L with
 | some a=>(AN C a).1
 | none=>[]
def CX(C:Cm)(L:List Sec):Int:=if C.out=true then 0 else match C9 C L with
 | some a=>a
 | none=>0
theorem vC{C:Cm}(ok:C.ok)(ar:Int):A4 (AN C ar).1:=by
 have hall:A4 (BD C ar):=oP ok ar _
 have nil:A4 []:=fun v hv=>by cases hv
 unfold AN
 split
 ·exact nil
 split
 ·exact nil
 split
 ·exact nil
 split
 ·exact nil
 ·exact fun v hv=>hall v (List.mem_of_mem_take hv)
theorem vD{C:Cm}(ok:C.ok)(ar:Int):(AN C ar).1.length≤2^20:=by
 have hall:(BD C ar).length≤2^20:=by
  unfold BD;rw[ZH ok]
  have h1:C.cfg.area.toNat≤64:=by have:=ok.may.area;omega
  have h2:C.cfg.cells.toNat≤256:=by have:=ok.may.cells;omega
  have:=Nat.mul_le_mul h1 h2
  omega
 have nil:([]:List Int).length≤2^20:=by decide
 unfold AN
 split
 ·exact nil
 split
 ·exact nil
 split
 ·exact nil
 split
 ·exact nil
 ·exact Nat.le_trans (List.length_take_le' _ _) hall
theorem cI{G:Int}{bs:List Int}(h:G≠0):BF G bs=AB 32:=by unfold BF;rw[if_neg h]
section
variable {h0 h:H} {A:List Ent} {i j p r b s m:Nat} {C:Cm}
theorem xJ{Q:Int->Int->Int->Option Addr->Nat->Nat->List Int->Bool->HP}{lg st rr lo z:Nat}{R:List SR}{L:List Sec}(hg:hc h0 ⟨0,0,none⟩=some E0)(hs:Sat h0 A h)(ok:C.ok)
  (g:Gx A i p C lg st rr R L) (al:At A z (blk lo [.pointer (some ⟨p,0,none⟩),.pointer (some ⟨st,0,none⟩),.pointer (some ⟨rr,0,none⟩)])) (ar:Int)
  (k:∀P h',(BF (sG C L ar) (AN C ar).1).length=32->(AY (sG C L ar) (AN C ar).1).length<2^40->Sat h0 (FW P (AY (sG C L ar) (AN C ar).1).length (AY (sG C L ar) (AN C ar).1)::A) h'->
   Q (BO (sG C L ar) (AN C ar).1) (BN (sG C L ar) (AN C ar).1) (BM (sG C L ar) (AN C ar).1) P (AY (sG C L ar) (AN C ar).1).length (AY (sG C L ar) (AN C ar).1).length (BF (sG C L ar) (AN C ar).1) (sG C L ar == 0) h'):NI ⟨lo,0,none⟩ ar Q h:=by
 unfold NI gP
 try simp only[AF,Nat.zero_add,List.append_nil]
 intro n6 _ hn;replace hs:=Sat.new hs hn
 replace hs:Sat h0 (blk n6 (AP 0 0 0 (none,0,0) (AB 32))::A) _:=hs
 refine⟨_,hs.ld (i:=z+1) al.s rfl,_,rfl,?_⟩
 refine AiI hs g.ci.s ar ?_ ?_
 ·intro ne h1 hs
  rw[if_pos (by simpa using ne)]
  refine⟨Sat.can hs .z (by simp[AB]),?_⟩
  intro h2 e2
  replace hs:=Sat.wra (xs:=AP 0 0 0 (none,0,0) (AB 32)) hs .z e2 rfl
  clear e2
  simp only[AG]at hs
  have hG:sG C L ar≠0:=by unfold sG;rw[if_neg ne];decide
  obtain⟨e1,e2,e3,e4⟩:=YN (bs:=(AN C ar).1) hG
  refine⟨_,hs.ld .z rfl,_,hs.ld .z rfl,_,hs.ld .z rfl,_,_,_,hs.ld .z rfl,_,BQ 32,CB hs .z (BQ 32),?_⟩
  have k:=k none h2
  rw[e1,e2,e3,e4,cI hG,beq_eq_false_iff_ne.2 hG]at k
  have hs:=aV (c:=0) ((hs.drop).sl_nil 1 none) .z
  exact k (BQ 32) (by decide) hs
 ·intro ez o n h1 hn hl hs
  rw[if_neg (by decide)]
  have hb:A4 (AN C ar).1:=vC ok ar
  have hl5:n<2^50:=by have:=vD ok ar;omega
  have hG:sG C L ar=AM C L (AN C ar).1:=by unfold sG;rw[if_pos ez]
  rw[hG]at k
  obtain⟨mm,⟨_,_,cr⟩,_,_,cm⟩:=g.cr
  obtain⟨_,_,cl⟩:=g.cl
  obtain⟨_,_,cs⟩:=g.cs
  refine⟨_,hs.ld (i:=z+2) al.s.s rfl,_,hs.ld (i:=z+2) al.s.s rfl,⟨_,rfl,_,rfl,?_⟩,?_⟩
  ·refine wT (L:=L) (bs:=(AN C ar).1) hg hs g.ci.s.s cl.s.s cs.s.s cr.s.s cm.s.s g.eR g.gd (fun x hx=>⟨_,(g.rR x hx).choose_spec.2.s.s⟩) (fun h' hs'=>hs'.sv .z) hb (Nat.le_refl _) hl5 ?_
   intro nb P h2 tl pl hs
   refine⟨_,hs.ld .z rfl,_,hs.ld .z rfl,_,hs.ld .z rfl,_,_,_,hs.ld .z rfl,_,tl,CB hs .z tl,Sat.can hs zs3 (by simp[AB]),?_⟩
   intro h5 e5
   replace hs:=Sat.wra (xs:=AP (BO (AM C L (AN C ar).1) (AN C ar).1) (BN (AM C L (AN C ar).1) (AN C ar).1) (BM (AM C L (AN C ar).1) (AN C ar).1) (P,(AY (AM C L (AN C ar).1) (AN C ar).1).length,(AY (AM C L (AN C ar).1) (AN C ar).1).length) (BF (AM C L (AN C ar).1) (AN C ar).1)) hs zs3 e5 (by rw[BX tl,BX (BQ 32)])
   clear e5
   simp only[AS,AG]at hs
   refine⟨_,hs.ld zs3 rfl,_,hs.ld zs3 rfl,_,hs.ld zs3 rfl,_,_,_,hs.ld zs3 rfl,_,tl,CB hs zs3 tl,?_⟩
   exact k P h5 tl pl (hs.drop.sub (List.Sublist.cons_cons _ ((List.sublist_cons_self _ _).trans (List.sublist_cons_self _ _))))
  ·intro n59 _ hn;replace hs:=Sat.new hs hn
   refine⟨AI (hs.ld (i:=z+3) al.s.s.s rfl),AI (hs.ld (i:=z+3) al.s.s.s rfl),_,rfl,_,rfl,?_⟩
   refine wU (L:=L) (bs:=(AN C ar).1) hg hs g.ci.s.s cl.s.s cs.s.s cr.s.s cm.s.s g.eR g.gd (fun x hx=>⟨_,(g.rR x hx).choose_spec.2.s.s⟩) (fun B h' hs'=>(hs'.sub (List.sublist_append_right B _)).sv .z) hb (Nat.le_refl _) hl5 ?_
   intro P h2 tl pl hs
   refine⟨_,hs.ld .z rfl,_,hs.ld .z rfl,_,hs.ld .z rfl,_,_,_,hs.ld .z rfl,_,tl,CB hs .z tl,Sat.can hs zs3 (by simp[AB]),?_⟩
   intro h5 e5
   replace hs:=Sat.wra (xs:=AP (BO (AM C L (AN C ar).1) (AN C ar).1) (BN (AM C L (AN C ar).1) (AN C ar).1) (BM (AM C L (AN C ar).1) (AN C ar).1) (P,(AY (AM C L (AN C ar).1) (AN C ar).1).length,(AY (AM C L (AN C ar).1) (AN C ar).1).length) (BF (AM C L (AN C ar).1) (AN C ar).1)) hs zs3 e5 (by rw[BX tl,BX (BQ 32)])
   clear e5
   simp only[AS,AG]at hs
   refine⟨_,hs.ld zs3 rfl,_,hs.ld zs3 rfl,_,hs.ld zs3 rfl,_,_,_,hs.ld zs3 rfl,_,tl,CB hs zs3 tl,?_⟩
   exact k P h5 tl pl (hs.drop.sub (List.Sublist.cons_cons _ ((List.sublist_cons_self _ _).trans (List.sublist_cons_self _ _))))
end
end Go.Proofs.YteedolonhdbieaaGreatDoor
end
section
namespace Go.Proofs.YteedolonhdbieaaGreatDoor
open Go Go.Vc
set_option maxRecDepth 100000
attribute [local irreducible] BI AM BO BN BM AY BF EB sG
theorem ZC{C:Cm}(ok:C.ok):0≤(BV C).1/\(BV C).1≤A8:=by
 unfold BV DF
 split
 ·exact⟨by decide,by decide⟩
 split
 ·exact⟨by decide,by decide⟩
 ·exact (SD ok).nums _
theorem N5(C:Cm):AO C=0∨AO C=1:=by unfold AO;omega
theorem q5{C:Cm}{L:List Sec}{a:Int}(h:C9 C L=some a):a=0∨a=1:=by
 have:=N5 C
 unfold C9 at h
 split at h
 ·injection h with h;omega
 split at h
 ·injection h with h;omega
 ·cases h
section
variable {h0 h:H} {A:List Ent} {i j p r b s m:Nat} {C:Cm}
theorem E2{a b' v:Int}{x:Sl}{t:List Int}{K:Int->Int->Int->Option Addr->Nat->Nat->List Int->Prop}(hs:Sat h0 A h)(m:At A i (blk b (AP a b' v x t)))(ht:t.length=32)(k:K a b' v x.1 x.2.1 x.2.2 t):
  ∃i1:Int,hc h ⟨b,0,none⟩=some (.int .i64 i1)/\∃i2:Int,hc h ⟨b,1,none⟩=some (.int .i64 i2)/\∃i3:Int,hc h ⟨b,2,none⟩=some (.int .i64 i3)/\∃(o:Option Addr) (n c:Nat),hc h ⟨b,3,none⟩=some (.slice o n c)/\∃l:List Int,l.length=32/\hrow h ⟨b,4,none⟩ .u8 l/\K i1 i2 i3 o n c l:=
 ⟨_,hs.ld m rfl,_,hs.ld m rfl,_,hs.ld m rfl,_,_,_,hs.ld m rfl,_,ht,CB hs m ht,k⟩
theorem AbV{Q:Int->Int->Int->Option Addr->Nat->Nat->List Int->Int->Int->HP}{n6 n9 n12 n15 n60 d:Nat}{v6 v12 v15:Value}{a b' v ar:Int}{x:Sl}{t:List Int}{z:Ent}{oD oB:Obj}(ht:t.length=32)
  (hs:Sat h0 (blk n60 (AP a b' v x t)::z::HU (d+1) oB::HU d oD::blk n15 [v15]::blk n12 [v12]::blk n9 (AP 0 0 0 (none,0,0) (AB 32))::blk n6 [v6]::A) h)
  (k:∀h',Sat h0 (z::A) h'->Q a b' v x.1 x.2.1 x.2.2 t ar 0 h'):
  ∃(i65:Int),hc h (Addr.mk n60 0 none)=some (Value.int IntKind.i64 i65)/\∃(i66:Int),hc h (Addr.mk n60 1 none)=some (Value.int IntKind.i64 i66)/\∃(i67:Int),hc h (Addr.mk n60 2 none)=some (Value.int IntKind.i64 i67)/\∃(o68:Option Addr),∃
     (n69:Nat),∃(n70:Nat),hc h (Addr.mk n60 3 none)=some (Value.slice o68 n69 n70)/\∃(l71:List Int),l71.length=32/\hrow h (Addr.mk n60 4 none) IntKind.u8 l71/\AC h (Addr.mk n9 0 none) 36/\∀(h72:H),h72=hwr h (Addr.mk n9 0 none) (Value.int IntKind.i64 i65::Value.int IntKind.i64 i66::Value.int
     IntKind.i64 i67::Value.slice o68 n69 n70::AA IntKind.u8 l71)->AC h72 (Addr.mk n12 0 none) 1/\∀(h74:H),h74=hwr h72 (Addr.mk n12 0 none) [Value.int IntKind.i64 ar]->AC h74 (Addr.mk n15 0 none) 1/\∀(h76:H),h76=hwr h74 (Addr.mk n15 0 none) [Value.int IntKind.i64
     0]->CR h76 d oD/\CR h76 (d+1) oB/\∀(x78 x79 x80:Obj) (h81:H),h81=A9 (A9 (A9 h76 (d+1) x78) (d+1) x79) d x80->∃(i83:Int),hc h81 (Addr.mk n9 0 none)=some (Value.int IntKind.i64 i83)/\∃(i84:Int),hc h81 (Addr.mk n9 1 none)
     = some (Value.int IntKind.i64 i84)/\∃(i85:Int),hc h81 (Addr.mk n9 2 none)=some (Value.int IntKind.i64 i85)/\∃(o86:Option Addr),∃
     (n87:Nat),∃(n88:Nat),hc h81 (Addr.mk n9 3 none)=some (Value.slice o86 n87 n88)/\∃(l89:List Int),l89.length=32/\hrow h81 (Addr.mk
     n9 4 none) IntKind.u8 l89/\∃(i90:Int),hc h81 (Addr.mk n12 0 none)=some (Value.int IntKind.i64 i90)/\∃(i91:Int),hc h81 (Addr.mk n15 0
     none)=some (Value.int IntKind.i64 i91)/\Q i83 i84 i85 o86 n87 n88 l89 i90 i91 h81:=by
 refine E2 hs .z ht ?_
 refine⟨Sat.can hs zs6 (by simp[AB]),?_⟩
 intro h1 e1
 replace hs:=Sat.wra (xs:=AP a b' v x t) hs zs6 e1 (by rw[BX ht,BX (BQ 32)])
 clear e1;simp only[AS,AG]at hs
 refine⟨Sat.can hs zs5 (by simp),?_⟩
 intro h2 e2
 replace hs:=Sat.wra (xs:=[.int .i64 ar]) hs zs5 e2 rfl
 clear e2;simp only[AS,AG]at hs
 refine⟨Sat.can hs zs4 (by simp),?_⟩
 intro h3 e3
 replace hs:=Sat.wra (xs:=[.int .i64 0]) hs zs4 e3 rfl
 clear e3;simp only[AS,AG]at hs
 refine⟨OF hs zs3,OF hs zs2,?_⟩
 intro x1 x2 x3 h4 e4
 subst e4
 replace hs:=JC (i:=2) hs zs2 x1 rfl
 simp only[AS,AG]at hs
 replace hs:=JC (i:=2) hs zs2 x2 rfl
 simp only[AS,AG]at hs
 replace hs:=JC (i:=3) hs zs3 x3 rfl
 simp only[AS,AG]at hs
 refine E2 hs zs6 ht ?_
 refine⟨_,hs.ld zs5 rfl,_,hs.ld zs4 rfl,?_⟩
 refine k _ (hs.drop.sub (List.Sublist.cons_cons _ ?_))
 exact (List.sublist_cons_self _ _).trans ((List.sublist_cons_self _ _).trans ((List.sublist_cons_self _ _).trans ((List.sublist_cons_self _ _).trans ((List.sublist_cons_self _ _).trans (List.sublist_cons_self _ _)))))
theorem Y9{Q:Int->Int->Int->Option Addr->Nat->Nat->List Int->Int->Int->HP}{lg st rr lo z:Nat}{R:List SR}{L:List Sec}(hg:hc h0 ⟨0,0,none⟩=some E0)(hs:Sat h0 A h)(ok:C.ok)
  (g:Gx A i p C lg st rr R L) (al:At A z (blk lo [.pointer (some ⟨p,0,none⟩),.pointer (some ⟨st,0,none⟩),.pointer (some ⟨rr,0,none⟩)]))
  (k:∀P h',(BF (AZ C L) (A7 C L)).length=32->(AY (AZ C L) (A7 C L)).length<2^40->Sat h0 (FW P (AY (AZ C L) (A7 C L)).length (AY (AZ C L) (A7 C L))::A) h'->
   Q (BO (AZ C L) (A7 C L)) (BN (AZ C L) (A7 C L)) (BM (AZ C L) (A7 C L)) P (AY (AZ C L) (A7 C L)).length (AY (AZ C L) (A7 C L)).length (BF (AZ C L) (A7 C L)) (CX C L) (AZ C L) h'):J0 ⟨lo,0,none⟩ Q h:=by
 unfold J0 pC
 try simp only[AF,Nat.zero_add,List.append_nil]
 intro n6 _ hn;replace hs:=Sat.new hs hn
 intro n9 _ hn;replace hs:=Sat.new hs hn
 intro n12 _ hn;replace hs:=Sat.new hs hn
 intro n15 _ hn;replace hs:=Sat.new hs hn
 replace hs:Sat h0 (blk n15 [.int .i64 0]::blk n12 [.int .i64 0]::blk n9 (AP 0 0 0 (none,0,0) (AB 32))::blk n6 [.pointer (some ⟨lo,0,none⟩)]::A) _:=hs
 refine⟨_,hs.ld zs3 rfl,_,rfl,?_⟩
 refine⟨_,hs.ld (i:=z+4) al.s.s.s.s rfl,_,rfl,?_⟩
 obtain⟨_,_,cl⟩:=g.cl
 obtain⟨_,_,cs⟩:=g.cs
 refine bM hs g.ci.s.s.s.s cl.s.s.s.s cs.s.s.s.s ?_
 intro h1 hs
 have kz:AZ C L≠0->CX C L=0->∀e h',e=AZ C L->Sat h0 A h'->Q 0 0 0 none 0 0 (AB 32) 0 e h':=by
  intro ne en e h' he hs'
  obtain⟨e1,e2,e3,e4⟩:=YN (bs:=A7 C L) ne
  have k:=k none h'
  rw[e1,e2,e3,e4,cI ne,en]at k
  rw[he]
  exact k (BQ 32) (by decide) (aV (c:=0) (hs'.sl_nil 1 none) .z)
 rw[qV ok]
 by_cases ho:C.out=true
 ·rw[if_pos ho,if_pos (by decide)]
  refine⟨Sat.can hs zs2 (by simp[AB]),?_⟩
  intro h2 e2
  replace hs:=Sat.wra (xs:=AP 0 0 0 (none,0,0) (AB 32)) hs zs2 e2 rfl
  clear e2;simp only[AS,AG]at hs
  refine⟨Sat.can hs zs1 (by simp),?_⟩
  intro h2 e2
  replace hs:=Sat.wra (xs:=[.int .i64 0]) hs zs1 e2 rfl
  clear e2;simp only[AS,AG]at hs
  refine⟨Sat.can hs .z (by simp),?_⟩
  intro h3 e3
  replace hs:=Sat.wra (xs:=[.int .i64 8]) hs .z e3 rfl
  clear e3;simp only[AS,AG]at hs
  refine E2 hs zs2 (BQ 32) ?_
  refine⟨_,hs.ld zs1 rfl,_,hs.ld .z rfl,?_⟩
  have eG:AZ C L=8:=by unfold AZ;rw[if_pos ho]
  exact kz (by rw[eG];decide) (by unfold CX;rw[if_pos ho]) _ _ eG.symm hs.drop.drop.drop.drop
 rw[if_neg ho,if_neg (by decide)]
 obtain⟨r1,r2⟩:=ZC ok
 have hf:(BV C).1.tmod 2=AO C:=by unfold AO;rw[Int.tmod_eq_emod_of_nonneg r1]
 have f01:=N5 C
 have hw:IntKind.i64.wrap (1-AO C)=1-AO C:=by rcases f01 with y | y <;> rw[y] <;> decide
 unfold PT gS
 intro n3 _ hn;replace hs:=Sat.new hs hn
 refine⟨_,rfl,_,hs.ld .z rfl,?_⟩
 rw[hf,hw]
 intro x44 x45 x46 h47 e47
 replace hs:=An3 hs e47
 generalize BJ _=d at hs ⊢
 clear e47
 replace hs:=hs.sub (List.Sublist.cons_cons _ (List.Sublist.cons_cons _ (List.sublist_cons_self _ _)))
 refine⟨_,hs.ld zs5 rfl,_,rfl,?_⟩
 refine xJ (L:=L) hg hs ok g.s.s.s.s.s.s (z:=z+6) al.s.s.s.s.s.s (AO C) ?_
 intro P h2 tl pl hs
 intro n60 _ hn;replace hs:=Sat.new hs hn
 refine⟨Sat.can hs .z (by simp[AB]),?_⟩
 intro h3 e3
 replace hs:=Sat.wra (xs:=AP (BO (sG C L (AO C)) (AN C (AO C)).1) (BN (sG C L (AO C)) (AN C (AO C)).1) (BM (sG C L (AO C)) (AN C (AO C)).1) (P,(AY (sG C L (AO C)) (AN C (AO C)).1).length,(AY (sG C L (AO C)) (AN C (AO C)).1).length) (BF (sG C L (AO C)) (AN C (AO C)).1)) hs .z e3 (by rw[BX tl];rfl)
 clear e3;simp only[AG]at hs
 rw[LJ]
 by_cases c1:EB C L (AO C)=true
 ·rw[if_pos c1]
  have ez:sG C L (AO C)=0:=by have:=LJ C L (AO C);rw[c1]at this;simpa using this
  have ea:C9 C L=some (AO C):=by unfold C9;rw[if_pos c1]
  have eG:AZ C L=0:=by unfold AZ;rw[if_neg ho,ea]
  have eB:A7 C L=(AN C (AO C)).1:=by unfold A7;rw[ea]
  have eN:CX C L=AO C:=by unfold CX;rw[if_neg ho,ea]
  rw[eG,eB,eN]at k
  rw[ez]at hs tl pl
  exact AbV tl hs (fun h' hs'=>k P h' tl pl hs')
 rw[if_neg c1]
 refine⟨OF hs zs3,OF hs zs2,?_⟩
 intro x92 x93 h94 e94
 subst e94
 replace hs:=JC (i:=2) hs zs2 x92 rfl
 simp only[AS,AG]at hs
 replace hs:=JC (i:=2) hs zs2 x93 rfl
 simp only[AS,AG]at hs
 replace hs:=hs.drop.drop
 clear tl pl
 refine⟨_,hs.ld zs5 rfl,_,rfl,?_⟩
 refine xJ (L:=L) hg hs ok g.s.s.s.s.s.s (z:=z+6) al.s.s.s.s.s.s (1-AO C) ?_
 intro P2 h4 tl pl hs
 intro n107 _ hn;replace hs:=Sat.new hs hn
 refine⟨Sat.can hs .z (by simp[AB]),?_⟩
 intro h5 e5
 replace hs:=Sat.wra (xs:=AP (BO (sG C L (1-AO C)) (AN C (1-AO C)).1) (BN (sG C L (1-AO C)) (AN C (1-AO C)).1) (BM (sG C L (1-AO C)) (AN C (1-AO C)).1) (P2,(AY (sG C L (1-AO C)) (AN C (1-AO C)).1).length,(AY (sG C L (1-AO C)) (AN C (1-AO C)).1).length) (BF (sG C L (1-AO C)) (AN C (1-AO C)).1)) hs .z e5 (by rw[BX tl];rfl)
 clear e5;simp only[AG]at hs
 rw[LJ]
 by_cases c2:EB C L (1-AO C)=true
 ·rw[if_pos c2]
  have ez:sG C L (1-AO C)=0:=by have:=LJ C L (1-AO C);rw[c2]at this;simpa using this
  have ea:C9 C L=some (1-AO C):=by unfold C9;rw[if_neg c1,if_pos c2]
  have eG:AZ C L=0:=by unfold AZ;rw[if_neg ho,ea]
  have eB:A7 C L=(AN C (1-AO C)).1:=by unfold A7;rw[ea]
  have eN:CX C L=1-AO C:=by unfold CX;rw[if_neg ho,ea]
  rw[eG,eB,eN]at k
  rw[ez]at hs tl pl
  exact AbV tl hs (fun h' hs'=>k P2 h' tl pl hs')
 rw[if_neg c2]
 have ea:C9 C L=none:=by unfold C9;rw[if_neg c1,if_neg c2]
 have eG:AZ C L=17:=by unfold AZ;rw[if_neg ho,ea]
 have eN:CX C L=0:=by unfold CX;rw[if_neg ho,ea]
 refine⟨OF hs zs3,OF hs zs2,?_⟩
 intro x139 x140 h141 e141
 subst e141
 replace hs:=JC (i:=2) hs zs2 x139 rfl
 simp only[AS,AG]at hs
 replace hs:=JC (i:=2) hs zs2 x140 rfl
 simp only[AS,AG]at hs
 replace hs:=hs.drop.drop
 refine⟨Sat.can hs zs4 (by simp[AB]),?_⟩
 intro h6 e6
 replace hs:=Sat.wra (xs:=AP 0 0 0 (none,0,0) (AB 32)) hs zs4 e6 rfl
 clear e6;simp only[AS,AG]at hs
 refine⟨Sat.can hs zs3 (by simp),?_⟩
 intro h7 e7
 replace hs:=Sat.wra (xs:=[.int .i64 0]) hs zs3 e7 rfl
 clear e7;simp only[AS,AG]at hs
 refine⟨Sat.can hs zs2 (by simp),?_⟩
 intro h8 e8
 replace hs:=Sat.wra (xs:=[.int .i64 17]) hs zs2 e8 rfl
 clear e8;simp only[AS,AG]at hs
 refine⟨OF hs zs1,?_⟩
 intro x149 h150 e150
 subst e150
 replace hs:=JC (i:=1) hs zs1 x149 rfl
 simp only[AS,AG]at hs
 refine E2 hs zs4 (BQ 32) ?_
 refine⟨_,hs.ld zs3 rfl,_,hs.ld zs2 rfl,?_⟩
 exact kz (by rw[eG];decide) eN _ _ eG.symm hs.drop.drop.drop.drop.drop.drop
end
end Go.Proofs.YteedolonhdbieaaGreatDoor
end
section
namespace Go.Proofs.YteedolonhdbieaaGreatDoor
open Go Go.Vc
set_option maxRecDepth 100000
section
variable {h0 h:H} {A:List Ent} {i j p r b:Nat} {C:Cm}
end
structure LyE where
 slot:Int
 over:Int
 at_:Int
 mask:List Int
structure LyE.ok (s:LyE):Prop where
 at_:s.at_<2^63
 mb:A4 s.mask
 ml:s.mask.length+4096≤2^47
structure ScriptL (h:H) (p:Option Addr) (l:Nat) (sc:List LyE):Prop where
 len:sc.length=l
 lt:l<2^50
 at_:∀i (hi:i<sc.length),∃q mp ml mc,p=some q/\hc h (q.add (i*4))=some (.int .i64 sc[i].slot)/\hc h ((q.add (i*4)).add 1)=some (.int .i64 sc[i].over)/\hc h ((q.add (i*4)).add 2)=some (.int .i64 sc[i].at_)/\
  hc h ((q.add (i*4)).add 3)=some (.slice mp ml mc)/\hsv h mp 1 ml (AA .u8 sc[i].mask)/\sc[i].ok
section
variable {h0 h:H} {A B:List Ent} {i j p r b q px l pr m:Nat} {C:Cm}
theorem AiG{Q:Bool->HP}(hs:Sat h0 A h)(ci:At A i (AH p C))(cl:At A j (BY r p))(k:∀h',Sat h0 A h'->Q (GZ C) h'):PV ⟨r,0,none⟩ Q h:=by
 unfold PV gW
 try simp only[AF,Nat.zero_add]
 refine aI hs ci cl ?_
 intro h1 hs
 obtain⟨lp,lq⟩:=aJ C
 intro n17 _ hn;replace hs:=Sat.new hs hn
 refine⟨Sat.can hs .z (by decide),?_⟩
 intro h2 e
 replace hs:=Sat.wra hs .z e (by rw[FB lp lq];rfl)
 clear e
 replace hs:Sat h0 (blk n17 (BE (BL C).1.p (BL C).1.q (BL C).1.n)::A) h2:=hs
 unfold GZ at k
 by_cases ho:C.out=true
 ·have e:BL C=(⟨inf0,inf0,0⟩,8):=by unfold BL;rw[if_pos ho]
  rw[if_pos ho]at k
  rw[e,if_neg (by simp)]
  exact k _ hs.drop
 have e:BL C=(⟨pI C 0,pI C 1,BH C⟩,0):=by unfold BL;rw[if_neg ho]
 rw[if_neg ho]at k
 rw[e]at hs lp lq ⊢
 dsimp only at hs lp lq ⊢
 rw[if_pos (by simp)]
 have L:=hs.fnd .z lp lq
 refine⟨_,L.a0,_,‹_›,L.a1,_,L.a10,_,L.a11,_,L.a12,_,L.a13,_,‹_›,L.a14,_,L.a23,_,L.a24,_,L.a25,_,L.a26,?_⟩
 refine AbW hs ci.s cl.s (by simpa using ho) ?_
 intro h4 hs
 exact k _ hs.drop
end
structure StL where
 kind:Int
 slot:Int
 n:Int
 up:Bool
 mask:List Int
 x:List Int
structure StL.ok (s:StL):Prop where
 slot:s.slot<2^63
 x:s.x.length=32
 mb:A4 s.mask
 ml:s.mask.length+4096≤2^47
section
variable {h0 h:H} {A B:List Ent} {i j p r b q px l pr m:Nat} {C:Cm}
end
end Go.Proofs.YteedolonhdbieaaGreatDoor
end
