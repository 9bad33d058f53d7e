/- LoaderDoes and its parts, laid together by a program of ours: F F Lp Sl -/
import Derived.Test.YteedolonhdbieaaGreatDoorK8
set_option autoImplicit false
set_option linter.all false
section
namespace Go.Proofs.YteedolonhdbieaaGreatDoor
open Go Go.Vc
set_option maxRecDepth 100000
abbrev bS:Sg:=([.addr,.slc],[Ti])
def nD(c0:Addr->(Int->Int->Int->OA->Nat->Nat->List Int->Int->Int->HP)->HP)(c1:Addr->(Int->Int->Int->Int->Int->Int->Int->HP)->HP)(c2:Int->Int->Int->Int->Int->Int->Int->(Int->HP)->HP)(c3:Addr->Int->(Bool->Int->HP)->HP)(c4:Addr->Int->(Bool->HP)->HP)(c5:Addr->Int->OA->Nat->Nat->(Int->HP)->HP)(c6:Addr->Int->(Int->HP)->HP)(a:Addr)(B:OA)(o:Nat)(C:Nat)(Q:Int->HP)(E:H)(F:Nat)(G:Int)(I:Int)(J:Int)(K:OA)(L:Nat)(M:Nat)(N:List Int)(p:Int)(b:Int):Prop:=∀d,d=hwr E (P_ F 0) (vi G::vi I::vi J::.slice K L M::(AA .u8 N++[]))->if p != 0 then Q p d else ∃q,hc d a=some (.pointer q)/\∃r,q=some r/\c1 r (fun O P R T U V X Y=>c2 O P R T U V X (fun Z s=>if ltI Z o then Q 4 s else (2:Int)≠0/\∀(g:JT),(∀(c:Int) (h:H),(∃t,hc h a=some (.pointer t)/\∃u,t=some u/\c3 u c (fun aa v e=>∀(i:JT),(∀(j:H),(∃w,hc j a=some (.pointer w)/\∃x,w=some x/\c5 x c B o C (fun k f=>if k != 0 then Q k f else if c == b.tmod 2 then Q k f else ∃y,hc f (a.add 1)=some (.pointer y)/\∃z,y=some z/\c6 z (IntKind.i64.wrap (b+1)) (fun ab ac=>Q ab ac) f) j)->i [] j)->if v != 0 then Q v e else if aa then Q 9 e else if c != b.tmod 2 then c4 a b (fun ad A=>if !ad then Q 9 A else i [] A) e else i [] e) h)->g [.dv (.one (vi c))] h)->c0 a (fun ae af ag ah ai aj ak al am an=>∀l m,hnew an l (vi 0::vi 0::vi 0::.slice none 0 0::AA .u8 (AB 32)) m->AC m (P_ l 0) 36/\∀n,n=hwr m (P_ l 0) (vi ae::vi af::vi ag::.slice ah ai aj::(AA .u8 ak++[]))->if am == 0 then g [.dv (.one (vi (IntKind.i64.wrap (1-al))))] n else g [.dv (.one (vi (IntKind.i64.wrap (1-b.tmod 2))))] n) s) Y) d
def gO(c0:Addr->Addr->OA->Nat->Nat->(Int->Int->Int->OA->Nat->Nat->List Int->Int->HP)->HP)(c1:Addr->(Int->Int->Int->OA->Nat->Nat->List Int->Int->Int->HP)->HP)(c2:Addr->(Int->Int->Int->Int->Int->Int->Int->HP)->HP)(c3:Addr->(Int->Int->HP)->HP)(c4:Int->Int->Int->Int->Int->Int->Int->(Int->HP)->HP)(c5:Addr->Int->(Bool->Int->HP)->HP)(c6:Addr->Int->(Bool->HP)->HP)(c7:Addr->Int->OA->Nat->Nat->(Int->HP)->HP)(c8:Addr->Int->(Int->HP)->HP)(a:Addr)(c:OA)(d:Nat)(e:Nat)(Q:Int->HP)(h:H):Prop:=
∃m,hc h (a.add 1)=some (.pointer m)/\∃n,m=some n/\c3 n (fun o p b=>if p != 0 then Q p b else ∃f,hc b (a.add 1)=some (.pointer f)/\∃g,hc b (a.add 2)=some (.pointer g)/\(∃q,f=some q/\∃r,g=some r/\c0 q r c d e (fun v w x y z A B C E=>∀j k,hnew E j (vi 0::vi 0::vi 0::.slice none 0 0::AA .u8 (AB 32)) k->AC k (P_ j 0) 36/\nD c1 c2 c4 c5 c6 c7 c8 a c d e Q k j v w x y z A B C o) b)/\∀l i,hnew b l (vi 0::vi 0::vi 0::.slice none 0 0::AA .u8 (AB 32)) i->hcs i (a.add 2) [.pointer g]/\hcs i (a.add 1) [.pointer f]/\∃s,f=some s/\∃t,g=some t/\c0 s t c d e (fun F G I J K L M N u=>AC u (P_ l 0) 36/\nD c1 c2 c4 c5 c6 c7 c8 a c d e Q u l F G I J K L M N o) i) h
theorem Ad6:∀c0 c1 c2 c3 c4 c5 c6 c7 c8 a0 a1p a1l a1c Q h,gO c0 c1 c2 c3 c4 c5 c6 c7 c8 a0 a1p a1l a1c Q h=JK PP [(12,W [.addr,.addr,.slc] [.ag [Si,Si,Si,.slc,.row .u8 32],Ti] c0),(40,W [.addr] [.ag [Si,Si,Si,.slc,.row .u8 32],Ti,Ti] c1),(63,W [.addr] [.ag [Si,Si,Si,Si,Si,Si,Si]] c2),(66,W [.addr] [Ti,Ti] c3),(121,W [.ag [Si,Si,Si,Si,Si,Si,Si]] [Ti] c4),(122,W [.addr,Ti] [.bool,Ti] c5),(123,W [.addr,Ti] [.bool] c6),(124,W [.addr,Ti,.slc] [Ti] c7),(125,W [.addr,Ti] [Ti] c8)] [(255,[(10,.sc (.int .i64))]),(1023,[])] Tryz.f41 [.addr a0,.one (.slice a1p a1l a1c)] (K6 [Ti] Q) h:=by intros;kernel_rfl
def JZ:=gO GO J0 BC F8 IR NG WQ WN W7
theorem tD:AE PP 41 (W [.addr,.slc] [Ti] JZ):=bI (tc sY (tc nP (tc CU (tc Y8 (tc nH (tc sD (tc AfL (tc AeM (tc Ai2 (tn)))))))))) Tryz.func41 (by kernel_rfl) (by kernel_rfl) (Ad6 _ _ _ _ _ _ _ _ _)
attribute [irreducible] JZ
abbrev UA:Sg:=([],[.slc])
def iO:GT [] UA:=fun Q h=>∀a b,hnew h a [.int .u8 7] b->∀c d,hnew b c [vi 0,.slice (some (P_ a 0)) 1 1] d->Q (some (P_ c 0)) 1 1 d
def WU:CF UA:=iO
theorem Ag4:AE PP 117 (WS UA WU):=ro tn Tryz.func117 (by kernel_rfl) ((show EE [] [] UA [] Tryz.f117 iO from by(repeat intro _);kernel_rfl))
attribute [irreducible] WU
abbrev AaW:Sg:=([.addr],[.ag [Si,Si,Si,.slc,.row .u8 32],Ti,Ti])
abbrev T7:Sg:=([],[.bool])
def iM:GT [S4,AaW,bS,VB,L3,M5,L5,UA] T7:=fun c0 c1 c2 c3 c4 c5 c6 c7 Q h=>c0 16 1 2 3 1 0 1 (fun e C E=>c7 (fun F G I J=>c4 F G I (fun i K aj b=>∀(j:JT),(∀(k:H),(∃l,e=some l/\c5 l (fun m L f=>∀(n:JT),(∀(o:H),(∃p,e=some p/\∃q,m=some q/\∃r,i=some r/\c6 p q r (fun d s=>if d.isNone=true then Q false s else ∀t u,hnew s t [.int .u8 7] u->∀v w,hnew u v [.int .u8 1,.int .u8 2,.int .u8 3] w->c3 (some (P_ t 0)) 1 1 0 0 5 (some (P_ v 0)) 3 3 (AB 32) (fun M N O ak P=>∃x,d=some x/\c1 x (fun al am an ao ap aq ar au R T=>∃y,d=some y/\c2 y M N O (fun U V=>∃z,d=some z/\c1 z (fun X Y Z aa ab ac ad ae af ag=>∀c g,hnew ag c (vi 0::vi 0::vi 0::.slice none 0 0::AA .u8 (AB 32)) g->AC g (P_ c 0) 36/\∀a,a=hwr g (P_ c 0) (vi X::vi Y::vi Z::.slice aa ab ac::(AA .u8 ad++[]))->if R == 17 then if U == 0 then if af == 0 then if ae == 1 then ∃A,hc a (P_ c 2)=some (vi A)/\if A == 5 then ∃ah B ai,hc a (P_ c 3)=some (.slice ah B ai)/\Q ((↑B:Int)==3) a else Q false a else Q false a else Q false a else Q false a else Q false a) V) T) P) w) o)->n [] o)->if m.isNone=true then Q false f else if L != 0 then Q false f else n [] f) k)->j [] k)->if e.isNone=true then Q false b else if i.isNone=true then Q false b else if C != 0 then Q false b else if K != 0 then Q false b else j [] b) J) E) h
def P9:CF T7:=iM O7 J0 JZ Q7 G7 K1 J1 WU
theorem Ag2:AE PP 37 (WS T7 P9):=ro (tc Af3 (tc nP (tc tD (tc Ah6 (tc tB (tc uN (tc tF (tc Ag4 tn)))))))) Tryz.func37 (by kernel_rfl) ((show EE [(22,S4),(40,AaW),(41,bS),(58,VB),(59,L3),(60,M5),(96,L5),(117,UA)] [] T7 [(15,[]),(63,[])] Tryz.f37 iM from by(repeat intro _);kernel_rfl) O7 J0 JZ Q7 G7 K1 J1 WU)
attribute [irreducible] P9
abbrev MC:Sg:=([.addr],[.bool])
def iQ:GT [M5,L5] MC:=fun c0 c1 a Q h=>∃f,hc h a=some (.pointer f)/\∃g,f=some g/\c0 g (fun c i j=>AC j (a.add 1) 1/\∀d,d=hwr j (a.add 1) [.pointer c]->AC d (a.add 3) 1/\∀b,b=hwr d (a.add 3) [.pointer none]->∃k,hc b (a.add 4)=some (.pointer k)/\∃l,k=some l/\∃m,hc b (l.add 11)=some (.bool m)/\if m then if c.isNone=true then Q (i == 8) b else Q false b else if c.isNone=true then Q false b else if i != 0 then Q false b else ∃n,hc b a=some (.pointer n)/\∃o,hc b (a.add 2)=some (.pointer o)/\∃p,n=some p/\∃q,c=some q/\∃r,o=some r/\c1 p q r (fun u s=>AC s (a.add 3) 1/\∀e,e=hwr s (a.add 3) [.pointer u]->∃t,hc e (a.add 3)=some (.pointer t)/\Q (!t.isNone) e) b) h
def IY:CF MC:=iQ K1 J1
theorem tM:AE PP 44 (WS MC IY):=ro (tc uN (tc tF tn)) Tryz.func44 (by kernel_rfl) ((show EE [(60,M5),(96,L5)] [] MC [] Tryz.f44 iQ from by(repeat intro _);kernel_rfl) K1 J1)
attribute [irreducible] IY
abbrev MJ:Sg:=([.ag [.slc,.slc,.slc]],[.ag [.slc,.slc,.slc]])
def jQ:GT [] MJ:=fun d5 d6 d7 d8 d9 ea eb ec ed Q h=>∀b bb,hnew h b [.slice d5 d6 d7,.slice d8 d9 ea,.slice eb ec ed] bb->∀p q,hnew bb p [.slice none 0 0,.slice none 0 0,.slice none 0 0] q->∀(g:JT),(∀(k:Addr) (bc:H),(∀(an:JT),(∀(m:Int) (j:H),(∃ee bd ef,hc j (P_ b 0)=some (.slice ee bd ef)/\if ltI m bd then ∃x y z,hc j k=some (.slice x y z)/\∃ao ap be,hc j (P_ b 0)=some (.slice ao ap be)/\∃aq,ao=some aq/\0≤m/\m<ap/\∃ar N bf,hc j (aq.add (m.toNat*1))=some (.slice ar N bf)/\∀bg r,hnew j bg [] r->hcs r (aq.add (m.toNat*1)) [.slice ar N bf]/\hcs r (P_ b 0) [.slice ao ap be]/\hcs r k [.slice x y z]/\∃(bh:List Value),hsv r ar 32 N bh/\AW r 32 (AA .u8 (AB 32)) 32 (some (P_ bg 0)) 0 0 N bh fun eg eh ei bi=>hcs bi k [.slice x y z]/\∀bj O,hnew bi bj [.slice eg eh ei] O->hcs O k [.slice x y z]/\∃(bk:List Value),hsv O (some (P_ bj 0)) 1 1 bk/\AW O 1 [.slice none 0 0] 24 x y z 1 bk fun ej ek el bl=>AC bl k 1/\∀bm,bm=hwr bl k [.slice ej ek el]->an [.dv (.one (vi (IntKind.i64.wrap (m+1))))] bm else ∃bn bo bp,hc j k=some (.slice bn bo bp)/\∃bq br bs,hc j (k.add 1)=some (.slice bq br bs)/\∃bt bu bv,hc j (k.add 2)=some (.slice bt bu bv)/\AC j (P_ p 0) 3/\∀A,A=hwr j (P_ p 0) [.slice bn bo bp,.slice bq br bs,.slice bt bu bv]->∃bw bx bz,hc A (P_ p 0)=some (.slice bw bx bz)/\∃b0 b1 b2,hc A (P_ p 1)=some (.slice b0 b1 b2)/\∃b3 b4 b5,hc A (P_ p 2)=some (.slice b3 b4 b5)/\Q bw bx bz b0 b1 b2 b3 b4 b5 A)->an [.dv (.one (vi m))] j)->an [.dv (.one (vi 0))] bc)->g [SV.dv (DV.addr k)] bc)->∃f d i,hc q (P_ b 1)=some (.slice f d i)/\∃c a e,hc q (P_ b 2)=some (.slice c a e)/\(∀s n,hnew q s [] n->hcs n (P_ b 2) [.slice c a e]/\hcs n (P_ b 1) [.slice f d i]/\(∃(b6:List Value),hsv n f 1 d b6/\AW n 1 [vi 0] 8 (some (P_ s 0)) 0 0 d b6 fun au av aw ax=>hcs ax (P_ b 2) [.slice c a e]/\(∀ay B,hnew ax ay [] B->hcs B (P_ b 2) [.slice c a e]/\(∃(b7:List Value),hsv B c 1 a b7/\AW B 1 [.bool false] 1 (some (P_ ay 0)) 0 0 a b7 fun em en eo ep=>∀P az,hnew ep P [.slice none 0 0,.slice none 0 0,.slice none 0 0] az->AC az (P_ P 0) 3/\∀b8,b8=hwr az (P_ P 0) [.slice none 0 0,.slice au av aw,.slice em en eo]->g [SV.dv (DV.addr (P_ P 0))] b8)/\∀R T,hnew B R [.slice none 0 0,.slice none 0 0,.slice none 0 0] T->hcs T (P_ b 2) [.slice c a e]/\∃(b9:List Value),hsv T c 1 a b9/\AW T 1 [.bool false] 1 (some (P_ ay 0)) 0 0 a b9 fun eq er es ca=>AC ca (P_ R 0) 3/\∀cb,cb=hwr ca (P_ R 0) [.slice none 0 0,.slice au av aw,.slice eq er es]->g [SV.dv (DV.addr (P_ R 0))] cb)/\∀U a0,hnew ax U [.slice none 0 0,.slice none 0 0,.slice none 0 0] a0->hcs a0 (P_ b 2) [.slice c a e]/\∀cc V,hnew a0 cc [] V->hcs V (P_ b 2) [.slice c a e]/\∃(cd:List Value),hsv V c 1 a cd/\AW V 1 [.bool false] 1 (some (P_ cc 0)) 0 0 a cd fun et eu ev ce=>AC ce (P_ U 0) 3/\∀cf,cf=hwr ce (P_ U 0) [.slice none 0 0,.slice au av aw,.slice et eu ev]->g [SV.dv (DV.addr (P_ U 0))] cf)/\(∀X t,hnew n X [] t->hcs t (P_ b 2) [.slice c a e]/\hcs t (P_ b 1) [.slice f d i]/\(∃(cg:List Value),hsv t f 1 d cg/\AW t 1 [vi 0] 8 (some (P_ s 0)) 0 0 d cg fun ch ci cj Y=>hcs Y (P_ b 2) [.slice c a e]/\(∃(ck:List Value),hsv Y c 1 a ck/\AW Y 1 [.bool false] 1 (some (P_ X 0)) 0 0 a ck fun ew ex ey ez=>∀Z a1,hnew ez Z [.slice none 0 0,.slice none 0 0,.slice none 0 0] a1->AC a1 (P_ Z 0) 3/\∀cl,cl=hwr a1 (P_ Z 0) [.slice none 0 0,.slice ch ci cj,.slice ew ex ey]->g [SV.dv (DV.addr (P_ Z 0))] cl)/\∀aa ab,hnew Y aa [.slice none 0 0,.slice none 0 0,.slice none 0 0] ab->hcs ab (P_ b 2) [.slice c a e]/\∃(cm:List Value),hsv ab c 1 a cm/\AW ab 1 [.bool false] 1 (some (P_ X 0)) 0 0 a cm fun e0 e1 e2 cn=>AC cn (P_ aa 0) 3/\∀co,co=hwr cn (P_ aa 0) [.slice none 0 0,.slice ch ci cj,.slice e0 e1 e2]->g [SV.dv (DV.addr (P_ aa 0))] co)/\∀ac C,hnew t ac [.slice none 0 0,.slice none 0 0,.slice none 0 0] C->hcs C (P_ b 2) [.slice c a e]/\hcs C (P_ b 1) [.slice f d i]/\∃(cp:List Value),hsv C f 1 d cp/\AW C 1 [vi 0] 8 (some (P_ s 0)) 0 0 d cp fun e3 e4 e5 a2=>hcs a2 (P_ b 2) [.slice c a e]/\∃(cq:List Value),hsv a2 c 1 a cq/\AW a2 1 [.bool false] 1 (some (P_ X 0)) 0 0 a cq fun e6 e7 e8 cr=>AC cr (P_ ac 0) 3/\∀cs,cs=hwr cr (P_ ac 0) [.slice none 0 0,.slice e3 e4 e5,.slice e6 e7 e8]->g [SV.dv (DV.addr (P_ ac 0))] cs)/\∀o u,hnew n o [.slice none 0 0,.slice none 0 0,.slice none 0 0] u->hcs u (P_ b 2) [.slice c a e]/\hcs u (P_ b 1) [.slice f d i]/\(∃(ct:List Value),hsv u f 1 d ct/\AW u 1 [vi 0] 8 (some (P_ s 0)) 0 0 d ct fun e9 fa fb cu=>hcs cu (P_ b 2) [.slice c a e]/\∀cv ad,hnew cu cv [] ad->hcs ad (P_ b 2) [.slice c a e]/\∃(cw:List Value),hsv ad c 1 a cw/\AW ad 1 [.bool false] 1 (some (P_ cv 0)) 0 0 a cw fun fc fd fe cx=>AC cx (P_ o 0) 3/\∀cy,cy=hwr cx (P_ o 0) [.slice none 0 0,.slice e9 fa fb,.slice fc fd fe]->g [SV.dv (DV.addr (P_ o 0))] cy)/\∀cz E,hnew u cz [] E->hcs E (P_ b 2) [.slice c a e]/\hcs E (P_ b 1) [.slice f d i]/\∃(c0:List Value),hsv E f 1 d c0/\AW E 1 [vi 0] 8 (some (P_ s 0)) 0 0 d c0 fun ff fg fh a3=>hcs a3 (P_ b 2) [.slice c a e]/\∃(c1:List Value),hsv a3 c 1 a c1/\AW a3 1 [.bool false] 1 (some (P_ cz 0)) 0 0 a c1 fun fi fj fk c2=>AC c2 (P_ o 0) 3/\∀c3,c3=hwr c2 (P_ o 0) [.slice none 0 0,.slice ff fg fh,.slice fi fj fk]->g [SV.dv (DV.addr (P_ o 0))] c3)/\(∀F G,hnew q F [] G->hcs G (P_ b 2) [.slice c a e]/\hcs G (P_ b 1) [.slice f d i]/\(∀a4 v,hnew G a4 [] v->hcs v (P_ b 2) [.slice c a e]/\hcs v (P_ b 1) [.slice f d i]/\(∃(c4:List Value),hsv v f 1 d c4/\AW v 1 [vi 0] 8 (some (P_ a4 0)) 0 0 d c4 fun c5 c6 c7 ae=>hcs ae (P_ b 2) [.slice c a e]/\(∃(c8:List Value),hsv ae c 1 a c8/\AW ae 1 [.bool false] 1 (some (P_ F 0)) 0 0 a c8 fun fl fm fn fo=>∀af a5,hnew fo af [.slice none 0 0,.slice none 0 0,.slice none 0 0] a5->AC a5 (P_ af 0) 3/\∀c9,c9=hwr a5 (P_ af 0) [.slice none 0 0,.slice c5 c6 c7,.slice fl fm fn]->g [SV.dv (DV.addr (P_ af 0))] c9)/\∀ag ah,hnew ae ag [.slice none 0 0,.slice none 0 0,.slice none 0 0] ah->hcs ah (P_ b 2) [.slice c a e]/\∃(da:List Value),hsv ah c 1 a da/\AW ah 1 [.bool false] 1 (some (P_ F 0)) 0 0 a da fun fp fq fr db=>AC db (P_ ag 0) 3/\∀dc,dc=hwr db (P_ ag 0) [.slice none 0 0,.slice c5 c6 c7,.slice fp fq fr]->g [SV.dv (DV.addr (P_ ag 0))] dc)/\∀ai I,hnew v ai [.slice none 0 0,.slice none 0 0,.slice none 0 0] I->hcs I (P_ b 2) [.slice c a e]/\hcs I (P_ b 1) [.slice f d i]/\∃(dd:List Value),hsv I f 1 d dd/\AW I 1 [vi 0] 8 (some (P_ a4 0)) 0 0 d dd fun fs ft fu a6=>hcs a6 (P_ b 2) [.slice c a e]/\∃(de:List Value),hsv a6 c 1 a de/\AW a6 1 [.bool false] 1 (some (P_ F 0)) 0 0 a de fun fv fw fx df=>AC df (P_ ai 0) 3/\∀dg,dg=hwr df (P_ ai 0) [.slice none 0 0,.slice fs ft fu,.slice fv fw fx]->g [SV.dv (DV.addr (P_ ai 0))] dg)/\∀aj ak,hnew G aj [.slice none 0 0,.slice none 0 0,.slice none 0 0] ak->hcs ak (P_ b 2) [.slice c a e]/\hcs ak (P_ b 1) [.slice f d i]/\∀dh J,hnew ak dh [] J->hcs J (P_ b 2) [.slice c a e]/\hcs J (P_ b 1) [.slice f d i]/\∃(di:List Value),hsv J f 1 d di/\AW J 1 [vi 0] 8 (some (P_ dh 0)) 0 0 d di fun fy fz f0 a7=>hcs a7 (P_ b 2) [.slice c a e]/\∃(dj:List Value),hsv a7 c 1 a dj/\AW a7 1 [.bool false] 1 (some (P_ F 0)) 0 0 a dj fun f1 f2 f3 dk=>AC dk (P_ aj 0) 3/\∀dl,dl=hwr dk (P_ aj 0) [.slice none 0 0,.slice fy fz f0,.slice f1 f2 f3]->g [SV.dv (DV.addr (P_ aj 0))] dl)/\∀l K,hnew q l [.slice none 0 0,.slice none 0 0,.slice none 0 0] K->hcs K (P_ b 2) [.slice c a e]/\hcs K (P_ b 1) [.slice f d i]/\(∀a8 w,hnew K a8 [] w->hcs w (P_ b 2) [.slice c a e]/\hcs w (P_ b 1) [.slice f d i]/\(∃(dm:List Value),hsv w f 1 d dm/\AW w 1 [vi 0] 8 (some (P_ a8 0)) 0 0 d dm fun f4 f5 f6 dn=>hcs dn (P_ b 2) [.slice c a e]/\∀dp al,hnew dn dp [] al->hcs al (P_ b 2) [.slice c a e]/\∃(dq:List Value),hsv al c 1 a dq/\AW al 1 [.bool false] 1 (some (P_ dp 0)) 0 0 a dq fun f7 f8 f9 dr=>AC dr (P_ l 0) 3/\∀ds,ds=hwr dr (P_ l 0) [.slice none 0 0,.slice f4 f5 f6,.slice f7 f8 f9]->g [SV.dv (DV.addr (P_ l 0))] ds)/\∀dt L,hnew w dt [] L->hcs L (P_ b 2) [.slice c a e]/\hcs L (P_ b 1) [.slice f d i]/\∃(du:List Value),hsv L f 1 d du/\AW L 1 [vi 0] 8 (some (P_ a8 0)) 0 0 d du fun ga gb gc a9=>hcs a9 (P_ b 2) [.slice c a e]/\∃(dw:List Value),hsv a9 c 1 a dw/\AW a9 1 [.bool false] 1 (some (P_ dt 0)) 0 0 a dw fun gd ge gf dx=>AC dx (P_ l 0) 3/\∀dy,dy=hwr dx (P_ l 0) [.slice none 0 0,.slice ga gb gc,.slice gd ge gf]->g [SV.dv (DV.addr (P_ l 0))] dy)/\∀dz am,hnew K dz [] am->hcs am (P_ b 2) [.slice c a e]/\hcs am (P_ b 1) [.slice f d i]/\∀d0 M,hnew am d0 [] M->hcs M (P_ b 2) [.slice c a e]/\hcs M (P_ b 1) [.slice f d i]/\∃(d1:List Value),hsv M f 1 d d1/\AW M 1 [vi 0] 8 (some (P_ d0 0)) 0 0 d d1 fun gg gh gi ba=>hcs ba (P_ b 2) [.slice c a e]/\∃(d2:List Value),hsv ba c 1 a d2/\AW ba 1 [.bool false] 1 (some (P_ dz 0)) 0 0 a d2 fun gj gk gl d3=>AC d3 (P_ l 0) 3/\∀d4,d4=hwr d3 (P_ l 0) [.slice none 0 0,.slice gg gh gi,.slice gj gk gl]->g [SV.dv (DV.addr (P_ l 0))] d4
def HC:CF MJ:=jQ
theorem tU:AE PP 52 (WS MJ HC):=ro tn Tryz.func52 (by kernel_rfl) ((show EE [] [] MJ [(3,[(3,.addr)]),(58,[(4,.sc (.int .i64))])] Tryz.f52 jQ from by(repeat intro _);kernel_rfl))
attribute [irreducible] HC
abbrev UR:Sg:=([.ag [Si,Si,Si,Si,Si,Si,Si],.ag [.slc,.slc,.slc]],[.bool])
def jR:GT [] UR:=fun A B C E F G I J K L M N O P R T Q h=>∀d i,hnew h d [vi A,vi B,vi C,vi E,vi F,vi G,vi I] i->∀e a,hnew i e [.slice J K L,.slice M N O,.slice P R T] a->∃f,hc a (P_ d 6)=some (vi f)/\∀(j:JT),(∀(k:H),(∀(g:JT),(∀(c:Int) (b:H),(if ltI c (IntKind.i64.wrap (2+IntKind.i64.wrap (2*f))) then ∃l m U,hc b (P_ e 0)=some (.slice l m U)/\∃n,l=some n/\0≤c/\c<m/\∃V o X,hc b (n.add (c.toNat*1))=some (.slice V o X)/\∃p,hc b (P_ d 0)=some (vi p)/\if (↑o:Int) != p then Q false b else ∃q r Y,hc b (P_ e 1)=some (.slice q r Y)/\∃s,q=some s/\0≤c/\c<r/\∃t,hc b (s.add (c.toNat*1))=some (vi t)/\if ltI t 0 then Q false b else g [.dv (.one (vi (IntKind.i64.wrap (c+1))))] b else Q true b)->g [.dv (.one (vi c))] b)->g [.dv (.one (vi 0))] k)->j [] k)->∃Z u aa,hc a (P_ e 0)=some (.slice Z u aa)/\if ((↑u:Int) != IntKind.i64.wrap (2+IntKind.i64.wrap (2*f)))=true then Q false a else ∃ab v ac,hc a (P_ e 1)=some (.slice ab v ac)/\if ((↑v:Int) != IntKind.i64.wrap (2+IntKind.i64.wrap (2*f)))=true then Q false a else ∃ad w ae,hc a (P_ e 2)=some (.slice ad w ae)/\∃x,hc a (P_ d 1)=some (vi x)/\∃y,hc a (P_ d 2)=some (vi y)/\∃z,hc a (P_ d 4)=some (vi z)/\if ((↑w:Int) != IntKind.i64.wrap (IntKind.i64.wrap (x*y)+z))=true then Q false a else j [] a
def QQ:CF UR:=jR
theorem AgM:AE PP 129 (WS UR QQ):=ro tn Tryz.func129 (by kernel_rfl) ((show EE [] [] UR [(7,[]),(122,[(6,.sc (.int .i64))])] Tryz.f129 jR from by(repeat intro _);kernel_rfl))
attribute [irreducible] QQ
abbrev US:Sg:=([.ag [Si,Si,Si,Si,Si,Si,Si],.ag [.slc,.slc,.slc]],[.ptr,Ti])
def jS:GT [ID,MJ,UR] US:=fun c0 c1 c2 ad ae af ag ah ai aj ak al am an ao ap aq ar au Q h=>∀a n,hnew h a [vi ad,vi ae,vi af,vi ag,vi ah,vi ai,vi aj] n->∀e d,hnew n e [.slice ak al am,.slice an ao ap,.slice aq ar au] d->∃o,hc d (P_ a 0)=some (vi o)/\∃p,hc d (P_ a 1)=some (vi p)/\∃q,hc d (P_ a 2)=some (vi q)/\∃r,hc d (P_ a 3)=some (vi r)/\∃s,hc d (P_ a 4)=some (vi s)/\∃t,hc d (P_ a 5)=some (vi t)/\∃u,hc d (P_ a 6)=some (vi u)/\c0 o p q r s t u (fun v b=>if v != 0 then Q none v b else ∃w,hc b (P_ a 0)=some (vi w)/\∃x,hc b (P_ a 1)=some (vi x)/\∃y,hc b (P_ a 2)=some (vi y)/\∃z,hc b (P_ a 3)=some (vi z)/\∃A,hc b (P_ a 4)=some (vi A)/\∃B,hc b (P_ a 5)=some (vi B)/\∃C,hc b (P_ a 6)=some (vi C)/\∃E F G,hc b (P_ e 0)=some (.slice E F G)/\∃I J K,hc b (P_ e 1)=some (.slice I J K)/\∃L M N,hc b (P_ e 2)=some (.slice L M N)/\c2 w x y z A B C E F G I J K L M N (fun av c=>if !av then Q none 5 c else ∃f,hc c (P_ a 0)=some (vi f)/\∃g,hc c (P_ a 1)=some (vi g)/\∃i,hc c (P_ a 2)=some (vi i)/\∃j,hc c (P_ a 3)=some (vi j)/\∃k,hc c (P_ a 4)=some (vi k)/\∃l,hc c (P_ a 5)=some (vi l)/\∃m,hc c (P_ a 6)=some (vi m)/\∃O P R,hc c (P_ e 0)=some (.slice O P R)/\∃T U V,hc c (P_ e 1)=some (.slice T U V)/\∃X Y Z,hc c (P_ e 2)=some (.slice X Y Z)/\c1 O P R T U V X Y Z (fun aw ax ay az a0 a1 a2 a3 a4 aa=>hcs aa (P_ a 0) [vi f,vi g,vi i,vi j,vi k,vi l,vi m]/\∀ab ac,hnew aa ab [vi f,vi g,vi i,vi j,vi k,vi l,vi m,.slice aw ax ay,.slice az a0 a1,.slice a2 a3 a4,vi 0,.bool false,vi (-1),.slice none 0 0] ac->Q (some (P_ ab 0)) 0 ac) c) b) d
def QR:CF US:=jS HD HC QQ
theorem AgN:AE PP 49 (WS US QR):=ro (tc nU (tc tU (tc AgM tn))) Tryz.func49 (by kernel_rfl) ((show EE [(23,ID),(52,MJ),(129,UR)] [] US [] Tryz.f49 jS from by(repeat intro _);kernel_rfl) HD HC QQ)
attribute [irreducible] QR
abbrev V6:Sg:=([.slc,.fn],[Ti])
def mS:GT [] V6:=fun n d q o Q h=>∀(c:JT),(∀(a:Int) (b:H),(if ltI a d then ∃e,n=some e/\0≤a/\a<d/\∃f g i,hc b (e.add (a.toNat*1))=some (.slice f g i)/\HM PP o [DV.one (.slice f g i)] (fun p j=>∃(k:DV),∃(l:List DV),p=k::l/\∃(m:Bool),k=DV.one (.bool m)/\l=[]/\if m then Q a j else c [.dv (.one (vi (IntKind.i64.wrap (a+1))))] j) b else Q (-1) b)->c [.dv (.one (vi a))] b)->c [.dv (.one (vi 0))] h
def W5:CF V6:=mS
theorem AhZ:AE PP 205 (WS V6 W5):=ro tn Tryz.func205 (by kernel_rfl) ((show EE [] [] V6 [(26,[(8,.sc (.int .i64))])] Tryz.f205 mS from by(repeat intro _);kernel_rfl))
attribute [irreducible] W5
abbrev V4:Sg:=([.slc,.fn],[.bool])
def mQ:GT [V6] V4:=fun c0 a b c d Q h=>c0 a b c d (fun e f=>Q (leI 0 e) f) h
def RP:CF V4:=mQ W5
theorem AhX:AE PP 131 (WS V4 RP):=ro (tc AhZ tn) Tryz.func131 (by kernel_rfl) ((show EE [(205,V6)] [] V4 [] Tryz.f131 mQ from by(repeat intro _);kernel_rfl) W5)
attribute [irreducible] RP
abbrev V7:Sg:=([.slc,.fn],[Ti])
def mT:GT [] V7:=fun l d o m Q h=>∀(c:JT),(∀(a:Int) (b:H),(if ltI a d then ∃e,l=some e/\0≤a/\a<d/\∃f,hc b (e.add (a.toNat*1))=some (vi f)/\HM PP m [DV.one (vi f)] (fun n g=>∃(i:DV),∃(j:List DV),n=i::j/\∃(k:Bool),i=DV.one (.bool k)/\j=[]/\if k then Q a g else c [.dv (.one (vi (IntKind.i64.wrap (a+1))))] g) b else Q (-1) b)->c [.dv (.one (vi a))] b)->c [.dv (.one (vi 0))] h
def W6:CF V7:=mT
theorem Ai0:AE PP 206 (WS V7 W6):=ro tn Tryz.func206 (by kernel_rfl) ((show EE [] [] V7 [(26,[(8,.sc (.int .i64))])] Tryz.f206 mT from by(repeat intro _);kernel_rfl))
attribute [irreducible] W6
abbrev V5:Sg:=([.slc,.fn],[.bool])
def mR:GT [V7] V5:=fun c0 a b c d Q h=>c0 a b c d (fun e f=>Q (leI 0 e) f) h
def RQ:CF V5:=mR W6
theorem AhY:AE PP 133 (WS V5 RQ):=ro (tc Ai0 tn) Tryz.func133 (by kernel_rfl) ((show EE [(206,V7)] [] V5 [] Tryz.f133 mR from by(repeat intro _);kernel_rfl) W6)
attribute [irreducible] RQ
abbrev S3:Sg:=([.ag [Si,Si,Si,Si,Si,Si,Si],.ag [.slc,.slc,.slc]],[.ptr,Ti])
def fD:GT [H7,LW,LV,LU,V4,V5] S3:=fun c0 c1 c2 c3 c4 c5 a5 a6 a7 a8 a9 ba bb bc bd be bf bg bh bi bj bk Q h=>∀a v,hnew h a [vi a5,vi a6,vi a7,vi a8,vi a9,vi ba,vi bb] v->∀c g,hnew v c [.slice bc bd be,.slice bf bg bh,.slice bi bj bk] g->∃w,hc g (P_ a 0)=some (vi w)/\∃x,hc g (P_ a 1)=some (vi x)/\∃y,hc g (P_ a 2)=some (vi y)/\∃z,hc g (P_ a 3)=some (vi z)/\∃A,hc g (P_ a 4)=some (vi A)/\∃B,hc g (P_ a 5)=some (vi B)/\∃C,hc g (P_ a 6)=some (vi C)/\c0 w x y z A B C (fun E f=>if E != 0 then Q none E f else ∀(i:JT),(∀(F:Bool) (b:H),(if F then Q none 5 b else ∃k,hc b (P_ a 0)=some (vi k)/\∃l,hc b (P_ a 1)=some (vi l)/\∃m,hc b (P_ a 2)=some (vi m)/\∃n,hc b (P_ a 3)=some (vi n)/\∃o,hc b (P_ a 4)=some (vi o)/\∃p,hc b (P_ a 5)=some (vi p)/\∃q,hc b (P_ a 6)=some (vi q)/\∃G I J,hc b (P_ c 0)=some (.slice G I J)/\∃K L M,hc b (P_ c 1)=some (.slice K L M)/\∃N O P,hc b (P_ c 2)=some (.slice N O P)/\c3 G I J K L M N O P (fun bl bm bn bo bp bq br bs bt R=>hcs R (P_ a 0) [vi k,vi l,vi m,vi n,vi o,vi p,vi q]/\∀T U,hnew R T [vi k,vi l,vi m,vi n,vi o,vi p,vi q,.slice bl bm bn,.slice bo bp bq,.slice br bs bt,vi 0,.bool false,vi (-1),.slice none 0 0] U->Q (some (P_ T 0)) 0 U) b)->i [.dv (.one (.bool F))] b)->∃V r X,hc f (P_ c 0)=some (.slice V r X)/\∃Y,hc f (P_ a 0)=some (vi Y)/\∃Z,hc f (P_ a 1)=some (vi Z)/\∃aa,hc f (P_ a 2)=some (vi aa)/\∃ab,hc f (P_ a 3)=some (vi ab)/\∃ac,hc f (P_ a 4)=some (vi ac)/\∃ad,hc f (P_ a 5)=some (vi ad)/\∃ae,hc f (P_ a 6)=some (vi ae)/\c1 Y Z aa ab ac ad ae (fun bu d=>hcs d (P_ c 0) [.slice V r X]/\if (↑r:Int) != bu then i [.dv (.one (.bool true))] d else ∃af s ag,hc d (P_ c 1)=some (.slice af s ag)/\∃ah,hc d (P_ a 0)=some (vi ah)/\∃ai,hc d (P_ a 1)=some (vi ai)/\∃aj,hc d (P_ a 2)=some (vi aj)/\∃ak,hc d (P_ a 3)=some (vi ak)/\∃al,hc d (P_ a 4)=some (vi al)/\∃am,hc d (P_ a 5)=some (vi am)/\∃an,hc d (P_ a 6)=some (vi an)/\c1 ah ai aj ak al am an (fun bv e=>hcs e (P_ c 1) [.slice af s ag]/\if (↑s:Int) != bv then i [.dv (.one (.bool true))] e else ∃ao t ap,hc e (P_ c 2)=some (.slice ao t ap)/\∃aq,hc e (P_ a 0)=some (vi aq)/\∃ar,hc e (P_ a 1)=some (vi ar)/\∃au,hc e (P_ a 2)=some (vi au)/\∃av,hc e (P_ a 3)=some (vi av)/\∃aw,hc e (P_ a 4)=some (vi aw)/\∃ax,hc e (P_ a 5)=some (vi ax)/\∃ay,hc e (P_ a 6)=some (vi ay)/\c2 aq ar au av aw ax ay (fun bw j=>hcs j (P_ c 2) [.slice ao t ap]/\if (↑t:Int) != bw then i [.dv (.one (.bool true))] j else ∃az a0 a1,hc j (P_ c 0)=some (.slice az a0 a1)/\c4 az a0 a1 (.func (Fn.func xQ) (Array.mk []) (Array.mk [.pointer (some (P_ a 0))])) (fun bx u=>if bx then i [.dv (.one (.bool true))] u else ∃a2 a3 a4,hc u (P_ c 1)=some (.slice a2 a3 a4)/\c5 a2 a3 a4 (.func (Fn.func xR) (Array.mk []) (Array.mk [])) (fun bz b0=>i [.dv (.one (.bool bz))] b0) u) j) e) d) f) g
def JU:CF S3:=fD GN IU IT JV RP RQ
theorem Af0:AE PP 51 (WS S3 JU):=ro (tc nN (tc sU (tc sT (tc sS (tc AhX (tc AhY tn)))))) Tryz.func51 (by kernel_rfl) ((show EE [(90,H7),(91,LW),(92,LV),(114,LU),(131,V4),(133,V5)] [] S3 [(7,[(7,.sc (.bool))])] Tryz.f51 fD from by(repeat intro _);kernel_rfl) GN IU IT JV RP RQ)
attribute [irreducible] JU
abbrev T8:Sg:=([.ag [Si,Si,Si,Si,Si,Si,Si],.slc,.ag [.slc,.slc,.slc]],[.ptr,.bool])
def iN:GT [VI,MC,US,UT,S3,MJ,L3] T8:=fun c0 c1 c2 c3 c4 c5 c6 av aw ax ay az a0 a1 t u v a2 a3 a4 a5 a6 a7 a8 a9 ba Q h=>∀a w,hnew h a [vi av,vi aw,vi ax,vi ay,vi az,vi a0,vi a1] w->∀f x,hnew w f [.slice a2 a3 a4,.slice a5 a6 a7,.slice a8 a9 ba] x->c0 t u v (fun bb bc bu b=>∃y,hc b (P_ a 0)=some (vi y)/\∃z,hc b (P_ a 1)=some (vi z)/\∃A,hc b (P_ a 2)=some (vi A)/\∃B,hc b (P_ a 3)=some (vi B)/\∃C,hc b (P_ a 4)=some (vi C)/\∃E,hc b (P_ a 5)=some (vi E)/\∃F,hc b (P_ a 6)=some (vi F)/\∃G I J,hc b (P_ f 0)=some (.slice G I J)/\∃K L M,hc b (P_ f 1)=some (.slice K L M)/\∃N O P,hc b (P_ f 2)=some (.slice N O P)/\c2 y z A B C E F G I J K L M N O P (fun bd R d=>∀(j:JT),(∀(k:OA) (T:Int) (g:H),(∀(U:JT),(∀(V:H),c6 t u v (fun X be bv c=>∃l,hc c (P_ a 0)=some (vi l)/\∃m,hc c (P_ a 1)=some (vi m)/\∃n,hc c (P_ a 2)=some (vi n)/\∃o,hc c (P_ a 3)=some (vi o)/\∃p,hc c (P_ a 4)=some (vi p)/\∃q,hc c (P_ a 5)=some (vi q)/\∃r,hc c (P_ a 6)=some (vi r)/\∃i,k=some i/\∃Y Z aa,hc c (i.add 7)=some (.slice Y Z aa)/\∃ab ac ad,hc c (i.add 8)=some (.slice ab ac ad)/\∃ae af ag,hc c (i.add 9)=some (.slice ae af ag)/\c5 Y Z aa ab ac ad ae af ag (fun bf bg bh bi bj bk bl bm bn ah=>hcs ah (P_ a 0) [vi l,vi m,vi n,vi o,vi p,vi q,vi r]/\c4 l m n o p q r bf bg bh bi bj bk bl bm bn (fun ai bo e=>∀(aj:JT),(∀(ak:H),(∀s al,hnew ak s [.pointer ai,.pointer none,.pointer X,.pointer none,.pointer k,.pointer bb] al->c1 (P_ s 0) (fun bp bq=>Q (some (P_ s 0)) bp bq) al)->aj [] ak)->if X.isNone=true then Q none false e else if ai.isNone=true then Q none false e else if be != 0 then Q none false e else if bo != 0 then Q none false e else aj [] e) ah) c) V->U [] V)->if bc != 0 then Q none true g else if T != 0 then Q none true g else U [] g)->j [.dv (.one (.pointer k)),.dv (.one (vi T))] g)->if R == 5 then ∃am,hc d (P_ a 0)=some (vi am)/\∃an,hc d (P_ a 1)=some (vi an)/\∃ao,hc d (P_ a 2)=some (vi ao)/\∃ap,hc d (P_ a 3)=some (vi ap)/\∃aq,hc d (P_ a 4)=some (vi aq)/\∃ar,hc d (P_ a 5)=some (vi ar)/\∃au,hc d (P_ a 6)=some (vi au)/\c3 am an ao ap aq ar au (fun br bs bt=>j [.dv (.one (.pointer br)),.dv (.one (vi bs))] bt) d else j [.dv (.one (.pointer bd)),.dv (.one (vi R))] d) b) x
def QA:CF T8:=iN NL IY QR QS JU HC G7
theorem Ag3:AE PP 38 (WS T8 QA):=ro (tc AhD (tc tM (tc AgN (tc AgO (tc Af0 (tc tU (tc tB tn))))))) Tryz.func38 (by kernel_rfl) ((show EE [(21,VI),(44,MC),(49,US),(50,UT),(51,S3),(52,MJ),(59,L3)] [] T8 [(15,[(11,.sc (.ptr)),(12,.sc (.int .i64))]),(31,[]),(255,[])] Tryz.f38 iN from by(repeat intro _);kernel_rfl) NL IY QR QS JU HC G7)
attribute [irreducible] QA
abbrev IF:Sg:=([.addr],[Ti,Ti])
def kU:GT [MU] IF:=fun c0 a Q h=>∃b,hc h (a.add 1)=some (vi b)/\c0 a b (fun c d e=>Q c d e) h
def HF:CF IF:=kU KU
theorem nW:AE PP 257 (WS IF HF):=ro (tc t7 tn) Tryz.func257 (by kernel_rfl) ((show EE [(242,MU)] [] IF [] Tryz.f257 kU from by(repeat intro _);kernel_rfl) KU)
attribute [irreducible] HF
abbrev IG:Sg:=([.addr],[Ti])
def lW:GT [IF] IG:=fun c0 a Q h=>c0 a (fun b d c=>(2:Int)≠0/\Q (b.tmod 2) c) h
def HG:CF IG:=lW HF
theorem nX:AE PP 252 (WS IG HG):=ro (tc nW tn) Tryz.func252 (by kernel_rfl) ((show EE [(257,IF)] [] IG [] Tryz.f252 lW from by(repeat intro _);kernel_rfl) HF)
attribute [irreducible] HG
abbrev M2:Sg:=([.addr,Ti],[Ti])
def lV:GT [] M2:=fun c a Q h=>∃b,hc h (c.add 11)=some (.bool b)/\if b then Q 8 h else if a != 0 then if a != 1 then Q 2 h else Q 0 h else Q 0 h
def KZ:CF M2:=lV
theorem uI:AE PP 289 (WS M2 KZ):=ro tn Tryz.func289 (by kernel_rfl) ((show EE [] [] M2 [] Tryz.f289 lV from by(repeat intro _);kernel_rfl))
attribute [irreducible] KZ
abbrev VK:Sg:=([.addr,Ti],[.slc])
def lN:GT [] VK:=fun g i Q h=>∀y z,hnew h y [] z->∀(j:JT),(∀(k:OA) (l m:Nat) (b:Int) (a:H),(∃A,hc a (g.add 6)=some (vi A)/\if ltI b A then ∃B C L,hc a (g.add 7)=some (.slice B C L)/\∃e,hc a (g.add 6)=some (vi e)/\∃E,B=some E/\0≤IntKind.i64.wrap (IntKind.i64.wrap (2+IntKind.i64.wrap (i*e))+b)/\IntKind.i64.wrap (IntKind.i64.wrap (2+IntKind.i64.wrap (i*e))+b)<(↑C:Int)/\∃F n M,hc a (E.add ((IntKind.i64.wrap (IntKind.i64.wrap (2+IntKind.i64.wrap (i*e))+b)).toNat*1))=some (.slice F n M)/\∀(o:JT),(∀(p:OA) (q r:Nat) (c:Int) (s:H),(if ltI c n then ∀(t:JT),(∀(u:OA) (v w:Nat) (d:Int) (f:H),(if ltI d 32 then ∃G,F=some G/\0≤c/\c<n/\0≤d/\d<(↑32:Int)/\∃I,hc f ((G.add (c.toNat*32)).add (d.toNat*1))=some (.int .u8 I)/\∀J x,hnew f J [.int .u8 I] x->∃(K:List Value),hsv x (some (P_ J 0)) 1 1 K/\AW x 1 [.int .u8 0] 1 u v w 1 K fun N O P R=>t [.dv (.one (.slice N O P)),.dv (.one (vi (IntKind.i64.wrap (d+1))))] R else o [.dv (.one (.slice u v w)),.dv (.one (vi (IntKind.i64.wrap (c+1))))] f)->t [.dv (.one (.slice u v w)),.dv (.one (vi d))] f)->t [.dv (.one (.slice p q r)),.dv (.one (vi 0))] s else j [.dv (.one (.slice p q r)),.dv (.one (vi (IntKind.i64.wrap (b+1))))] s)->o [.dv (.one (.slice p q r)),.dv (.one (vi c))] s)->o [.dv (.one (.slice k l m)),.dv (.one (vi 0))] a else Q k l m a)->j [.dv (.one (.slice k l m)),.dv (.one (vi b))] a)->j [.dv (.one (.slice (some (P_ y 0)) 0 0)),.dv (.one (vi 0))] z
def RE:CF VK:=lN
theorem AhF:AE PP 306 (WS VK RE):=ro tn Tryz.func306 (by kernel_rfl) ((show EE [] [] VK [(58,[(5,.sc (.slc)),(6,.sc (.int .i64))]),(7462,[(5,.sc (.slc)),(8,.sc (.int .i64))]),(477586,[(5,.sc (.slc)),(9,.sc (.int .i64))])] Tryz.f306 lN from by(repeat intro _);kernel_rfl))
attribute [irreducible] RE
abbrev VL:Sg:=([.addr,Ti],[.slc,Ti])
def lO:GT [VD,M2,VK] VL:=fun c0 c1 c2 o p Q h=>c1 o p (fun q r=>if q != 0 then Q none 0 0 q r else c2 o p (fun f g i e=>if ltI (↑g:Int) 16 then Q none 0 0 5 e else ∃s,f=some s/\(0:Int)≤12/\12<(↑g:Int)/\∃a,hc e (s.add 12)=some (.int .u8 a)/\∃t,f=some t/\(0:Int)≤13/\13<(↑g:Int)/\∃b,hc e (t.add 13)=some (.int .u8 b)/\∃u,f=some u/\(0:Int)≤14/\14<(↑g:Int)/\∃c,hc e (u.add 14)=some (.int .u8 c)/\∃v,f=some v/\(0:Int)≤15/\15<(↑g:Int)/\∃d,hc e (v.add 15)=some (.int .u8 d)/\if ltI (↑g:Int) (IntKind.i64.wrap (IntKind.i64.wrap (IntKind.i64.wrap (IntKind.i64.wrap (48+IntKind.i64.wrap a)+IntKind.i64.wrap (256*IntKind.i64.wrap b))+IntKind.i64.wrap (65536*IntKind.i64.wrap c))+IntKind.i64.wrap (16777216*IntKind.i64.wrap d))) then Q none 0 0 5 e else 0≤IntKind.i64.wrap (IntKind.i64.wrap (IntKind.i64.wrap (IntKind.i64.wrap (48+IntKind.i64.wrap a)+IntKind.i64.wrap (256*IntKind.i64.wrap b))+IntKind.i64.wrap (65536*IntKind.i64.wrap c))+IntKind.i64.wrap (16777216*IntKind.i64.wrap d))/\IntKind.i64.wrap (IntKind.i64.wrap (IntKind.i64.wrap (IntKind.i64.wrap (48+IntKind.i64.wrap a)+IntKind.i64.wrap (256*IntKind.i64.wrap b))+IntKind.i64.wrap (65536*IntKind.i64.wrap c))+IntKind.i64.wrap (16777216*IntKind.i64.wrap d))≤(↑i:Int)/\c0 (AJ f 0 i 1) ((IntKind.i64.wrap (IntKind.i64.wrap (IntKind.i64.wrap (IntKind.i64.wrap (48+IntKind.i64.wrap a)+IntKind.i64.wrap (256*IntKind.i64.wrap b))+IntKind.i64.wrap (65536*IntKind.i64.wrap c))+IntKind.i64.wrap (16777216*IntKind.i64.wrap d))).toNat-0) (i-0) (fun y z A B C E F G I J=>∀l w,hnew J l (vi 0::vi 0::vi 0::.slice none 0 0::AA .u8 (AB 32)) w->∀j m,hnew w j [vi 0,vi 0] m->AC m (P_ l 0) 36/\∀n,n=hwr m (P_ l 0) (vi y::vi z::vi A::.slice B C E::(AA .u8 F++[]))->AC n (P_ j 0) 2/\∀k,k=hwr n (P_ j 0) [vi G,vi I]->∃x,hc k (P_ j 0)=some (vi x)/\if x != 0 then Q none 0 0 5 k else 0≤IntKind.i64.wrap (IntKind.i64.wrap (IntKind.i64.wrap (IntKind.i64.wrap (48+IntKind.i64.wrap a)+IntKind.i64.wrap (256*IntKind.i64.wrap b))+IntKind.i64.wrap (65536*IntKind.i64.wrap c))+IntKind.i64.wrap (16777216*IntKind.i64.wrap d))/\IntKind.i64.wrap (IntKind.i64.wrap (IntKind.i64.wrap (IntKind.i64.wrap (48+IntKind.i64.wrap a)+IntKind.i64.wrap (256*IntKind.i64.wrap b))+IntKind.i64.wrap (65536*IntKind.i64.wrap c))+IntKind.i64.wrap (16777216*IntKind.i64.wrap d))≤(↑i:Int)/\Q (AJ f 0 i 1) ((IntKind.i64.wrap (IntKind.i64.wrap (IntKind.i64.wrap (IntKind.i64.wrap (48+IntKind.i64.wrap a)+IntKind.i64.wrap (256*IntKind.i64.wrap b))+IntKind.i64.wrap (65536*IntKind.i64.wrap c))+IntKind.i64.wrap (16777216*IntKind.i64.wrap d))).toNat-0) (i-0) 0 k) e) r) h
def RF:CF VL:=lO NK KZ RE
theorem AhG:AE PP 288 (WS VL RF):=ro (tc uB (tc uI (tc AhF tn))) Tryz.func288 (by kernel_rfl) ((show EE [(16,VD),(289,M2),(306,VK)] [] VL [] Tryz.f288 lO from by(repeat intro _);kernel_rfl) NK KZ RE)
attribute [irreducible] RF
abbrev VR:Sg:=([.addr,.addr,Ti],[.ag [Si,Si,Si,.slc,.row .u8 32],.slc,.bool])
def l9:GT [cB,VL] VR:=fun c0 c1 l K L Q h=>∀a m,hnew h a (vi 0::vi 0::vi 0::.slice none 0 0::AA .u8 (AB 32)) m->c1 l L (fun n o p M f=>if M != 0 then AC f (P_ a 0) 36/\∀d,d=hwr f (P_ a 0) (vi 0::vi 0::vi 0::.slice none 0 0::AA .u8 (AB 32))->∃q,hc d (P_ a 0)=some (vi q)/\∃r,hc d (P_ a 1)=some (vi r)/\∃s,hc d (P_ a 2)=some (vi s)/\∃t u v,hc d (P_ a 3)=some (.slice t u v)/\∃(g:List Int),g.length=32/\hrow d (P_ a 4) .u8 g/\Q q r s t u v g none 0 0 false d else c0 l K n o p (fun N O P R T U V X Y=>∀b i,hnew Y b (vi 0::vi 0::vi 0::.slice none 0 0::AA .u8 (AB 32)) i->AC i (P_ b 0) 36/\∀c,c=hwr i (P_ b 0) (vi N::vi O::vi P::.slice R T U::(AA .u8 V++[]))->∃w,hc c (P_ b 0)=some (vi w)/\∃x,hc c (P_ b 1)=some (vi x)/\∃y,hc c (P_ b 2)=some (vi y)/\∃z A B,hc c (P_ b 3)=some (.slice z A B)/\∃(j:List Int),j.length=32/\hrow c (P_ b 4) .u8 j/\AC c (P_ a 0) 36/\∀e,e=hwr c (P_ a 0) (vi w::vi x::vi y::.slice z A B::(AA .u8 j++[]))->∃C,hc e (P_ a 0)=some (vi C)/\∃E,hc e (P_ a 1)=some (vi E)/\∃F,hc e (P_ a 2)=some (vi F)/\∃G I J,hc e (P_ a 3)=some (.slice G I J)/\∃(k:List Int),k.length=32/\hrow e (P_ a 4) .u8 k/\Q C E F G I J k n o p (X == 0) e) f) m
def RJ:CF VR:=l9 I1 RF
theorem AhL:AE PP 253 (WS VR RJ):=ro (tc uE (tc AhG tn)) Tryz.func253 (by kernel_rfl) ((show EE [(186,cB),(288,VL)] [] VR [] Tryz.f253 l9 from by(repeat intro _);kernel_rfl) I1 RF)
attribute [irreducible] RJ
abbrev VP:Sg:=([.addr,.addr],[.ag [Si,Si,Si,.slc,.row .u8 32],Ti,.slc,Ti])
def lY:GT [IG,VR] VP:=fun c0 c1 n y Q h=>∀a k,hnew h a (vi 0::vi 0::vi 0::.slice none 0 0::AA .u8 (AB 32)) k->∃z,hc k (n.add 11)=some (.bool z)/\if z then AC k (P_ a 0) 36/\∀f,f=hwr k (P_ a 0) (vi 0::vi 0::vi 0::.slice none 0 0::AA .u8 (AB 32))->∃A,hc f (P_ a 0)=some (vi A)/\∃B,hc f (P_ a 1)=some (vi B)/\∃C,hc f (P_ a 2)=some (vi C)/\∃E F G,hc f (P_ a 3)=some (.slice E F G)/\∃(q:List Int),q.length=32/\hrow f (P_ a 4) .u8 q/\Q A B C E F G q 0 none 0 0 8 f else c0 n (fun o ap=>∀(p:JT),(∀(l:Int) (m:H),(if ltI l 2 then if l == 1 then c1 n y (IntKind.i64.wrap (1-o)) (fun aq ar au av aw ax ay az a2 a3 a4 a5=>∀d r,hnew a5 d (vi 0::vi 0::vi 0::.slice none 0 0::AA .u8 (AB 32)) r->AC r (P_ d 0) 36/\∀b,b=hwr r (P_ d 0) (vi aq::vi ar::vi au::.slice av aw ax::(AA .u8 ay++[]))->if a4 then ∃I,hc b (P_ d 0)=some (vi I)/\∃J,hc b (P_ d 1)=some (vi J)/\∃K,hc b (P_ d 2)=some (vi K)/\∃L M N,hc b (P_ d 3)=some (.slice L M N)/\∃(s:List Int),s.length=32/\hrow b (P_ d 4) .u8 s/\AC b (P_ a 0) 36/\∀g,g=hwr b (P_ a 0) (vi I::vi J::vi K::.slice L M N::(AA .u8 s++[]))->∃O,hc g (P_ a 0)=some (vi O)/\∃P,hc g (P_ a 1)=some (vi P)/\∃R,hc g (P_ a 2)=some (vi R)/\∃T U V,hc g (P_ a 3)=some (.slice T U V)/\∃(t:List Int),t.length=32/\hrow g (P_ a 4) .u8 t/\Q O P R T U V t (IntKind.i64.wrap (1-o)) az a2 a3 0 g else p [.dv (.one (vi (IntKind.i64.wrap (l+1))))] b) m else c1 n y o (fun a6 a7 a8 a9 ba bb bc bd be bf bg bh=>∀e u,hnew bh e (vi 0::vi 0::vi 0::.slice none 0 0::AA .u8 (AB 32)) u->AC u (P_ e 0) 36/\∀c,c=hwr u (P_ e 0) (vi a6::vi a7::vi a8::.slice a9 ba bb::(AA .u8 bc++[]))->if bg then ∃X,hc c (P_ e 0)=some (vi X)/\∃Y,hc c (P_ e 1)=some (vi Y)/\∃Z,hc c (P_ e 2)=some (vi Z)/\∃aa ab ac,hc c (P_ e 3)=some (.slice aa ab ac)/\∃(v:List Int),v.length=32/\hrow c (P_ e 4) .u8 v/\AC c (P_ a 0) 36/\∀i,i=hwr c (P_ a 0) (vi X::vi Y::vi Z::.slice aa ab ac::(AA .u8 v++[]))->∃ad,hc i (P_ a 0)=some (vi ad)/\∃ae,hc i (P_ a 1)=some (vi ae)/\∃af,hc i (P_ a 2)=some (vi af)/\∃ag ah ai,hc i (P_ a 3)=some (.slice ag ah ai)/\∃(w:List Int),w.length=32/\hrow i (P_ a 4) .u8 w/\Q ad ae af ag ah ai w o bd be bf 0 i else p [.dv (.one (vi (IntKind.i64.wrap (l+1))))] c) m else AC m (P_ a 0) 36/\∀j,j=hwr m (P_ a 0) (vi 0::vi 0::vi 0::.slice none 0 0::AA .u8 (AB 32))->∃aj,hc j (P_ a 0)=some (vi aj)/\∃ak,hc j (P_ a 1)=some (vi ak)/\∃al,hc j (P_ a 2)=some (vi al)/\∃am an ao,hc j (P_ a 3)=some (.slice am an ao)/\∃(x:List Int),x.length=32/\hrow j (P_ a 4) .u8 x/\Q aj ak al am an ao x 0 none 0 0 17 j)->p [.dv (.one (vi l))] m)->p [.dv (.one (vi 0))] ap) k
def NO:CF VP:=lY HG RJ
theorem uJ:AE PP 202 (WS VP NO):=ro (tc nX (tc AhL tn)) Tryz.func202 (by kernel_rfl) ((show EE [(252,IG),(253,VR)] [] VP [(122,[(9,.sc (.int .i64))])] Tryz.f202 lY from by(repeat intro _);kernel_rfl) HG RJ)
attribute [irreducible] NO
abbrev AaX:Sg:=([.addr],[.bool])
def Y2(c0:Int->Int->Int->OA->Nat->Nat->List Int->Int->Int->Int->OA->Nat->Nat->List Int->(Bool->HP)->HP)(Q:Bool->HP)(G:H)(e:Nat)(I:Int)(J:Int)(K:Int)(L:OA)(M:Nat)(N:Nat)(O:List Int)(c:Nat)(P:Int)(R:Int)(T:Int)(U:Int):Prop:=∀a,a=hwr G (P_ e 0) (vi I::vi J::vi K::.slice L M N::(AA .u8 O++[]))->∀(f:JT),(∀(n:Bool) (o:H),(∀(g:JT),(∀(b:Int) (d:H),(∃V p X,hc d (P_ c 3)=some (.slice V p X)/\if ltI b p then ∃h i Y,hc d (P_ c 3)=some (.slice h i Y)/\∃q,h=some q/\0≤b/\b<i/\∃r,hc d (q.add (b.toNat*1))=some (.int .u8 r)/\∃j,h=some j/\0≤b/\b<i/\AC d (j.add (b.toNat*1)) 1/\∀s,s=hwr d (j.add (b.toNat*1)) [.int .u8 (bits .xor .u8 r 255)]->g [.dv (.one (vi (IntKind.i64.wrap (b+1))))] s else Q n d)->g [.dv (.one (vi b))] d)->g [.dv (.one (vi 0))] o)->f [.dv (.one (.bool n))] o)->∃t,hc a (P_ c 0)=some (vi t)/\∃u,hc a (P_ c 1)=some (vi u)/\∃v,hc a (P_ c 2)=some (vi v)/\∃w x y,hc a (P_ c 3)=some (.slice w x y)/\∃(k:List Int),k.length=32/\hrow a (P_ c 4) .u8 k/\∃z,hc a (P_ e 0)=some (vi z)/\∃A,hc a (P_ e 1)=some (vi A)/\∃B,hc a (P_ e 2)=some (vi B)/\∃C E F,hc a (P_ e 3)=some (.slice C E F)/\∃(l:List Int),l.length=32/\hrow a (P_ e 4) .u8 l/\c0 t u v w x y k z A B C E F l (fun Z m=>if Z then if P == R then f [.dv (.one (.bool (T == U)))] m else f [.dv (.one (.bool false))] m else f [.dv (.one (.bool false))] m) a
def iS(c0:Int->Int->Int->OA->Nat->Nat->List Int->Int->Int->Int->OA->Nat->Nat->List Int->(Bool->HP)->HP)(c1:Addr->(Int->Int->Int->OA->Nat->Nat->List Int->Int->Int->HP)->HP)(c2:Addr->Addr->(Int->Int->Int->OA->Nat->Nat->List Int->Int->OA->Nat->Nat->Int->HP)->HP)(a:Addr)(Q:Bool->HP)(h:H):Prop:=
∃l,hc h (a.add 3)=some (.pointer l)/\∃m,l=some m/\c1 m (fun u v w x y z A n o B=>∀b g,hnew B b (vi 0::vi 0::vi 0::.slice none 0 0::AA .u8 (AB 32)) g->AC g (P_ b 0) 36/\∀c,c=hwr g (P_ b 0) (vi u::vi v::vi w::.slice x y z::(AA .u8 A++[]))->∃d,hc c (a.add 4)=some (.pointer d)/\∃e,hc c (a.add 5)=some (.pointer e)/\(∃p,d=some p/\∃q,e=some q/\c2 p q (fun C E F G I J K L aa ab ac M N=>∀i j,hnew N i (vi 0::vi 0::vi 0::.slice none 0 0::AA .u8 (AB 32)) j->AC j (P_ i 0) 36/\Y2 c0 Q j i C E F G I J K b n L o M) c)/\∀k f,hnew c k (vi 0::vi 0::vi 0::.slice none 0 0::AA .u8 (AB 32)) f->hcs f (a.add 5) [.pointer e]/\hcs f (a.add 4) [.pointer d]/\∃r,d=some r/\∃s,e=some s/\c2 r s (fun O P R T U V X Y ad ae af Z t=>AC t (P_ k 0) 36/\Y2 c0 Q t k O P R T U V X b n Y o Z) f) h
theorem Ad7:∀c0 c1 c2 a0 Q h,iS c0 c1 c2 a0 Q h=JK PP [(29,W [.ag [Si,Si,Si,.slc,.row .u8 32],.ag [Si,Si,Si,.slc,.row .u8 32]] [.bool] c0),(40,W [.addr] [.ag [Si,Si,Si,.slc,.row .u8 32],Ti,Ti] c1),(202,W [.addr,.addr] [.ag [Si,Si,Si,.slc,.row .u8 32],Ti,.slc,Ti] c2)] [(15,[(10,.sc (.bool))]),(250,[(11,.sc (.int .i64))])] Tryz.f127 [.addr a0] (K6 [.bool] Q) h:=by intros;kernel_rfl
def QE:=iS Q9 J0 NO
theorem Ag7:AE PP 127 (W [.addr] [.bool] QE):=bI (tc Ah8 (tc nP (tc uJ (tn)))) Tryz.func127 (by kernel_rfl) (by kernel_rfl) (Ad7 _ _ _)
attribute [irreducible] QE
abbrev MX:Sg:=([.ag [Si,Si,Si,Si,Si,Si,Si]],[Ti])
def lP:GT [ID] MX:=fun c0 n o p q r s t Q h=>∀a b,hnew h a [vi n,vi o,vi p,vi q,vi r,vi s,vi t] b->∃d,hc b (P_ a 0)=some (vi d)/\∃e,hc b (P_ a 1)=some (vi e)/\∃f,hc b (P_ a 2)=some (vi f)/\∃g,hc b (P_ a 3)=some (vi g)/\∃i,hc b (P_ a 4)=some (vi i)/\∃j,hc b (P_ a 5)=some (vi j)/\∃k,hc b (P_ a 6)=some (vi k)/\c0 d e f g i j k (fun u c=>if u != 0 then Q 0 c else ∃l,hc c (P_ a 6)=some (vi l)/\∃m,hc c (P_ a 0)=some (vi m)/\Q (IntKind.i64.wrap (IntKind.i64.wrap (l*m)*32)) c) b
def KX:CF MX:=lP HD
theorem uF:AE PP 254 (WS MX KX):=ro (tc nU tn) Tryz.func254 (by kernel_rfl) ((show EE [(23,ID)] [] MX [] Tryz.f254 lP from by(repeat intro _);kernel_rfl) HD)
attribute [irreducible] KX
abbrev VQ:Sg:=([.addr,.addr],[Ti])
def lZ:GT [VP,IG] VQ:=fun c0 c1 d e Q h=>c0 d e (fun f g i j k l m n s t u o p=>∀a b,hnew p a (vi 0::vi 0::vi 0::.slice none 0 0::AA .u8 (AB 32)) b->AC b (P_ a 0) 36/\∀c,c=hwr b (P_ a 0) (vi f::vi g::vi i::.slice j k l::(AA .u8 m++[]))->if o == 0 then Q (IntKind.i64.wrap (1-n)) c else c1 d (fun q r=>Q (IntKind.i64.wrap (1-q)) r) c) h
def RI:CF VQ:=lZ NO HG
theorem AhK:AE PP 255 (WS VQ RI):=ro (tc uJ (tc nX tn)) Tryz.func255 (by kernel_rfl) ((show EE [(202,VP),(252,IG)] [] VQ [] Tryz.f255 lZ from by(repeat intro _);kernel_rfl) NO HG)
attribute [irreducible] RI
abbrev MZ:Sg:=([.slc],[.bool])
def lT:GT [H9] MZ:=fun c0 i g k Q h=>∀(d:JT),(∀(a:Int) (b:H),(if ltI a g then ∃e,i=some e/\0≤a/\a<g/\∃(c:List Int),c.length=32/\hrow b (e.add (a.toNat*32)) .u8 c/\c0 (fun j f=>hcs f (e.add (a.toNat*32)) (AA .u8 c++[])/\if !c == j then Q false f else d [.dv (.one (vi (IntKind.i64.wrap (a+1))))] f) b else Q true b)->d [.dv (.one (vi a))] b)->d [.dv (.one (vi 0))] h
def I2:CF MZ:=lT G8
theorem uH:AE PP 290 (WS MZ I2):=ro (tc nQ tn) Tryz.func290 (by kernel_rfl) ((show EE [(204,H9)] [] MZ [(26,[(3,.sc (.int .i64))])] Tryz.f290 lT from by(repeat intro _);kernel_rfl) G8)
attribute [irreducible] I2
abbrev MY:Sg:=([.addr,Ti],[.bool,Ti])
def lQ:GT [M2,MZ] MY:=fun c0 c1 e b Q h=>c0 e b (fun i j=>if i != 0 then Q false i j else ∀(g:JT),(∀(a:Int) (c:H),(∃k,hc c (e.add 6)=some (vi k)/\if ltI a k then ∃d,hc c (e.add 6)=some (vi d)/\∃l m w,hc c (e.add 7)=some (.slice l m w)/\∃n,l=some n/\0≤IntKind.i64.wrap (IntKind.i64.wrap (2+IntKind.i64.wrap (b*d))+a)/\IntKind.i64.wrap (IntKind.i64.wrap (2+IntKind.i64.wrap (b*d))+a)<(↑m:Int)/\∃o p q,hc c (n.add ((IntKind.i64.wrap (IntKind.i64.wrap (2+IntKind.i64.wrap (b*d))+a)).toNat*1))=some (.slice o p q)/\c1 o p q (fun x f=>if !x then ∃r s y,hc f (e.add 8)=some (.slice r s y)/\∃t,r=some t/\0≤IntKind.i64.wrap (IntKind.i64.wrap (2+IntKind.i64.wrap (b*d))+a)/\IntKind.i64.wrap (IntKind.i64.wrap (2+IntKind.i64.wrap (b*d))+a)<(↑s:Int)/\∃u,hc f (t.add ((IntKind.i64.wrap (IntKind.i64.wrap (2+IntKind.i64.wrap (b*d))+a)).toNat*1))=some (vi u)/\∃v,hc f (e.add 5)=some (vi v)/\if leI v u then Q true 0 f else g [.dv (.one (vi (IntKind.i64.wrap (a+1))))] f else g [.dv (.one (vi (IntKind.i64.wrap (a+1))))] f) c else Q false 0 c)->g [.dv (.one (vi a))] c)->g [.dv (.one (vi 0))] j) h
def KY:CF MY:=lQ KZ I2
theorem uG:AE PP 256 (WS MY KY):=ro (tc uI (tc uH tn)) Tryz.func256 (by kernel_rfl) ((show EE [(289,M2),(290,MZ)] [] MY [(122,[(7,.sc (.int .i64))])] Tryz.f256 lQ from by(repeat intro _);kernel_rfl) KZ I2)
attribute [irreducible] KY
abbrev U1:Sg:=([.addr],[Ti])
def kF:GT [MQ] U1:=fun c0 c Q h=>∀a b,hnew h a [.pointer (some c)] b->c0 (P_ a 0) (fun d e=>Q d e) b
def Q0:CF U1:=kF KP
theorem AgW:AE PP 258 (WS U1 Q0):=ro (tc t3 tn) Tryz.func258 (by kernel_rfl) ((show EE [(278,MQ)] [] U1 [] Tryz.f258 kF from by(repeat intro _);kernel_rfl) KP)
attribute [irreducible] Q0
abbrev U4:Sg:=([.addr],[.bool])
def kR:GT [MS] U4:=fun c0 c Q h=>∀a b,hnew h a [.pointer (some c)] b->c0 (P_ a 0) (fun d e=>Q d e) b
def Q3:CF U4:=kR KR
theorem AgZ:AE PP 259 (WS U4 Q3):=ro (tc t5 tn) Tryz.func259 (by kernel_rfl) ((show EE [(283,MS)] [] U4 [] Tryz.f259 kR from by(repeat intro _);kernel_rfl) KR)
attribute [irreducible] Q3
abbrev VN:Sg:=([.addr,Ti,.slc,Ti],[Ti])
def lU:GT [H9,IA] VN:=fun c0 c1 f t u n z b Q h=>c0 (fun v w=>∀c g,hnew w c (AA .u8 (AB 32)) g->AC g (P_ c 0) 32/\∀o,o=hwr g (P_ c 0) (AA .u8 v++[])->∀(i:JT),(∀(d:H),(∃p,hc d (f.add 6)=some (vi p)/\∃j,hc d f=some (vi j)/\j≠0/\∃k,hc d f=some (vi k)/\k≠0/\∃(l:List Int),l.length=32/\hrow d (P_ c 0) .u8 l/\c1 f (IntKind.i64.wrap (IntKind.i64.wrap (2+IntKind.i64.wrap (t*p))+IntKind.i64.wrap (b.tdiv j))) (b.tmod k) l (fun x y=>Q x y) d)->i [] d)->∀(m:JT),(∀(a:Int) (e:H),(if ltI a 32 then if ltI (IntKind.i64.wrap (IntKind.i64.wrap (32*b)+a)) (↑n:Int) then ∃q,u=some q/\0≤IntKind.i64.wrap (IntKind.i64.wrap (32*b)+a)/\IntKind.i64.wrap (IntKind.i64.wrap (32*b)+a)<(↑n:Int)/\∃r,hc e (q.add ((IntKind.i64.wrap (IntKind.i64.wrap (32*b)+a)).toNat*1))=some (.int .u8 r)/\0≤a/\a<(↑32:Int)/\AC e ((P_ c 0).add (a.toNat*1)) 1/\∀s,s=hwr e ((P_ c 0).add (a.toNat*1)) [.int .u8 r]->m [.dv (.one (vi (IntKind.i64.wrap (a+1))))] s else i [] e else i [] e)->m [.dv (.one (vi a))] e)->m [.dv (.one (vi 0))] o) h
def NN:CF VN:=lU G8 G9
theorem AhI:AE PP 292 (WS VN NN):=ro (tc nQ (tc nR tn)) Tryz.func292 (by kernel_rfl) ((show EE [(204,H9),(280,IA)] [] VN [(7,[]),(58,[(10,.sc (.int .i64))])] Tryz.f292 lU from by(repeat intro _);kernel_rfl) G8 G9)
attribute [irreducible] NN
abbrev VM:Sg:=([.addr,Ti,.slc],[Ti])
def lS:GT [MX,MY,MZ,MH,VN] VM:=fun c0 c1 c2 c3 c4 a d n f o Q h=>c1 a d (fun L p b=>if p != 0 then Q p b else if (↑f:Int)==0 then Q 1 b else ∃q,hc b a=some (vi q)/\∃r,hc b (a.add 1)=some (vi r)/\∃s,hc b (a.add 2)=some (vi s)/\∃t,hc b (a.add 3)=some (vi t)/\∃u,hc b (a.add 4)=some (vi u)/\∃v,hc b (a.add 5)=some (vi v)/\∃w,hc b (a.add 6)=some (vi w)/\c0 q r s t u v w (fun M k=>if ltI M f then Q 4 k else if L then Q 9 k else ∀(i:JT),(∀(c:Int) (e:H),(∃x,hc e (a.add 6)=some (vi x)/\if ltI c x then ∃g,hc e (a.add 6)=some (vi g)/\∃y z N,hc e (a.add 7)=some (.slice y z N)/\∃A,y=some A/\0≤IntKind.i64.wrap (IntKind.i64.wrap (2+IntKind.i64.wrap (d*g))+c)/\IntKind.i64.wrap (IntKind.i64.wrap (2+IntKind.i64.wrap (d*g))+c)<(↑z:Int)/\∃B C E,hc e (A.add ((IntKind.i64.wrap (IntKind.i64.wrap (2+IntKind.i64.wrap (d*g))+c)).toNat*1))=some (.slice B C E)/\c2 B C E (fun O F=>if O then i [.dv (.one (vi (IntKind.i64.wrap (c+1))))] F else c3 a (IntKind.i64.wrap (IntKind.i64.wrap (2+IntKind.i64.wrap (d*g))+c)) (fun G I=>if G != 0 then Q G I else i [.dv (.one (vi (IntKind.i64.wrap (c+1))))] I) F) e else ∀(l:JT),(∀(j:Int) (m:H),(if ltI (IntKind.i64.wrap (32*j)) (↑f:Int) then c4 a d n f o j (fun J K=>if J != 0 then Q J K else l [.dv (.one (vi (IntKind.i64.wrap (j+1))))] K) m else c4 a d n f o 0 (fun P R=>Q P R) m)->l [.dv (.one (vi j))] m)->l [.dv (.one (vi 1))] e)->i [.dv (.one (vi c))] e)->i [.dv (.one (vi 0))] k) b) h
def RG:CF VM:=lS KX KY I2 KH NN
theorem AhH:AE PP 260 (WS VM RG):=ro (tc uF (tc uG (tc uH (tc tS (tc AhI tn))))) Tryz.func260 (by kernel_rfl) ((show EE [(254,MX),(256,MY),(290,MZ),(291,MH),(292,VN)] [] VM [(122,[(9,.sc (.int .i64))]),(250,[(12,.sc (.int .i64))])] Tryz.f260 lS from by(repeat intro _);kernel_rfl) KX KY I2 KH NN)
attribute [irreducible] RG
abbrev U5:Sg:=([.addr,Ti],[Ti])
def kS:GT [MP,IF] U5:=fun c0 c1 b c Q h=>c1 b (fun g d a=>if d != 0 then Q d a else if leI c g then Q 2 a else ∀(e:Int),e=4611686018427387904->if ltI e c then Q 2 a else ∃f,hc a (b.add 1)=some (vi f)/\c0 b f c (fun i j=>Q i j) a) h
def Q4:CF U5:=kS KO HF
theorem Ah0:AE PP 261 (WS U5 Q4):=ro (tc t2 (tc nW tn)) Tryz.func261 (by kernel_rfl) ((show EE [(180,MP),(257,IF)] [] U5 [] Tryz.f261 kS from by(repeat intro _);kernel_rfl) KO HF)
attribute [irreducible] Q4
abbrev VO:Sg:=([.addr,.addr,.slc],[Ti])
def lX:GT [cB,IG,MX,VQ,MY,IF,U1,U4,VM,U5] VO:=fun c0 c1 c2 c3 c4 c5 c6 c7 c8 c9 a o p e q Q h=>∃r,hc h (a.add 11)=some (.bool r)/\if r then Q 8 h else c0 a o p e q (fun G I J K L M N s O=>∀f g,hnew O f (vi 0::vi 0::vi 0::.slice none 0 0::AA .u8 (AB 32)) g->AC g (P_ f 0) 36/\∀b,b=hwr g (P_ f 0) (vi G::vi I::vi J::.slice K L M::(AA .u8 N++[]))->if s != 0 then Q s b else ∃t,hc b a=some (vi t)/\∃u,hc b (a.add 1)=some (vi u)/\∃v,hc b (a.add 2)=some (vi v)/\∃w,hc b (a.add 3)=some (vi w)/\∃x,hc b (a.add 4)=some (vi x)/\∃y,hc b (a.add 5)=some (vi y)/\∃z,hc b (a.add 6)=some (vi z)/\c2 t u v w x y z (fun P A=>if ltI P e then Q 4 A else c3 a o (fun c R=>c1 a (fun B T=>c4 a c (fun U ab V=>c5 a (fun i ac j=>∀(d:JT),(∀(C:H),c8 a c p e q (fun k l=>if k != 0 then Q k l else if !c != B then Q k l else c9 a (IntKind.i64.wrap (i+1)) (fun X Y=>Q X Y) l) C->d [] C)->if U then Q 9 j else if c != B then c6 a (fun Z m=>if Z == 0 then c7 a (fun aa n=>if aa then Q 9 n else ∀(E:Int),E=4611686018427387904->if leI E i then Q 9 n else d [] n) m else ∀(F:Int),F=4611686018427387904->if leI F i then Q 9 m else d [] m) j else d [] j) V) T) R) A) b) h
def RH:CF VO:=lX I1 HG KX RI KY HF Q0 Q3 RG Q4
theorem AhJ:AE PP 203 (WS VO RH):=ro (tc uE (tc nX (tc uF (tc AhK (tc uG (tc nW (tc AgW (tc AgZ (tc AhH (tc Ah0 tn)))))))))) Tryz.func203 (by kernel_rfl) ((show EE [(186,cB),(252,IG),(254,MX),(255,VQ),(256,MY),(257,IF),(258,U1),(259,U4),(260,VM),(261,U5)] [] VO [(1023,[])] Tryz.f203 lX from by(repeat intro _);kernel_rfl) I1 HG KX RI KY HF Q0 Q3 RG Q4)
attribute [irreducible] RH
abbrev UC:Sg:=([.addr,.slc],[.bool])
def iR:GT [bS,VO] UC:=fun c0 c1 i j a K Q h=>(0:Int)≤0/\0≤IntKind.i64.wrap ((↑a:Int)+5)/\(↑1:Int)*IntKind.i64.wrap ((↑a:Int)+5)≤2^48/\IntKind.i64.wrap ((↑a:Int)+5)≤2^48/\∀p k,hnew h p (List.replicate (IntKind.i64.wrap ((↑a:Int)+5)).toNat [.int .u8 0]).flatten k->∃(q:List Value),hsv k j 1 a q/\AW k 1 [.int .u8 0] 1 (some (P_ p 0)) 0 (IntKind.i64.wrap ((↑a:Int)+5)).toNat a q fun L M N O=>∀r l,hnew O r [.int .u8 1,.int .u8 2,.int .u8 3,.int .u8 4,.int .u8 5] l->∃(s:List Value),hsv l (some (P_ r 0)) 1 5 s/\AW l 1 [.int .u8 0] 1 L M N 5 s fun e T b t=>0≤(↑a:Int)/\(↑a:Int)≤(↑b:Int)/\∃u,hc t (i.add 3)=some (.pointer u)/\∃v,u=some v/\c0 v (AJ e 0 b 1) ((↑a:Int).toNat-0) (b-0) (fun P m=>∃w,hc m (i.add 4)=some (.pointer w)/\∃x,hc m (i.add 5)=some (.pointer x)/\∃y,w=some y/\∃z,x=some z/\c1 y z j a K (fun R d=>0≤IntKind.i64.wrap ((↑a:Int)+5)/\IntKind.i64.wrap ((↑a:Int)+5)≤(↑(b-0):Int)/\∀(g:JT),(∀(A:Bool) (B:H),(∀(n:JT),(∀(c:Int) (f:H),(if ltI c (↑((↑a:Int).toNat-0):Int) then ∃(C:Addr),AJ e 0 b 1=some C/\0≤c/\c<(↑((↑a:Int).toNat-0):Int)/\∃E,hc f (C.add (c.toNat*1))=some (.int .u8 E)/\∃(o:Addr),AJ e 0 b 1=some o/\0≤c/\c<(↑((↑a:Int).toNat-0):Int)/\AC f (o.add (c.toNat*1)) 1/\∀F,F=hwr f (o.add (c.toNat*1)) [.int .u8 (bits .xor .u8 E 255)]->n [.dv (.one (vi (IntKind.i64.wrap (c+1))))] F else Q A f)->n [.dv (.one (vi c))] f)->n [.dv (.one (vi 0))] B)->g [.dv (.one (.bool A))] B)->if P == R then ∃(G:List Int),hsv d (AJ e 0 b 1) 1 ((↑a:Int).toNat-0) (AA .u8 G)/\∃(I:List Int),hsv d j 1 a (AA .u8 I)/\if (bytesOf G).toList == (bytesOf I).toList then 0≤(↑a:Int)/\(↑a:Int)≤(↑((IntKind.i64.wrap ((↑a:Int)+5)).toNat-0):Int)/\∃(J:List Int),hsv d (AJ (AJ (AJ e 0 b 1) 0 (b-0) 1) (↑a:Int).toNat (b-0-0) 1) 1 ((IntKind.i64.wrap ((↑a:Int)+5)).toNat-0-(↑a:Int).toNat) (AA .u8 J)/\g [.dv (.one (.bool ((bytesOf J).toList == (ByteArray.mk #[1,2,3,4,5]).toList)))] d else g [.dv (.one (.bool false))] d else g [.dv (.one (.bool false))] d) m) t
def QD:CF UC:=iR JZ RH
theorem Ag6:AE PP 128 (WS UC QD):=ro (tc tD (tc AhJ tn)) Tryz.func128 (by kernel_rfl) ((show EE [(41,bS),(203,VO)] [] UC [(255,[(9,.sc (.bool))]),(4090,[(10,.sc (.int .i64))])] Tryz.f128 iR from by(repeat intro _);kernel_rfl) JZ RH)
attribute [irreducible] QD
abbrev UD:Sg:=([.addr,.ag [Si,Si,Si,.slc]],[.bool])
def iT:GT [WB,V9,S0,S1,MC,U6,U9,UO,UP,AaX,UC] UD:=fun c0 c1 c2 c3 c4 c5 c6 c7 c8 c9 c10 c ab ac ad ae af ag Q h=>∀b a,hnew h b [vi ab,vi ac,vi ad,.slice ae af ag] a->∃l,hc a (P_ b 0)=some (vi l)/\if l == 5 then ∃f,hc a c=some (.pointer f)/\∃g,hc a (P_ b 1)=some (vi g)/\∃m i u,hc a (P_ b 3)=some (.slice m i u)/\∀v d,hnew a v [] d->hcs d (P_ b 3) [.slice m i u]/\hcs d (P_ b 1) [vi g]/\hcs d c [.pointer f]/\∃(w:List Value),hsv d m 1 i w/\AW d 1 [.int .u8 0] 1 (some (P_ v 0)) 0 0 i w fun ah ai aj n=>hcs n (P_ b 1) [vi g]/\hcs n c [.pointer f]/\∃x,f=some x/\c2 x g ah ai aj (fun j=>∃y,hc j (c.add 4)=some (.pointer y)/\∃z,hc j (P_ b 1)=some (vi z)/\∃A B C,hc j (P_ b 3)=some (.slice A B C)/\∃E,y=some E/\c7 E z A B C (fun ak=>Q true ak) j) n else if l == 6 then ∃F,hc a c=some (.pointer F)/\∃G,F=some G/\c3 G (fun I=>∃J,hc I (c.add 4)=some (.pointer J)/\∃K,J=some K/\c8 K (fun al=>c4 c (fun am an=>Q am an) al) I) a else ∃L,hc a (c.add 3)=some (.pointer L)/\if L.isNone=true then Q true a else ∃e,hc a (P_ b 0)=some (vi e)/\if e == 1 then c9 c (fun ao ap=>Q ao ap) a else if e == 2 then ∃M N O,hc a (P_ b 3)=some (.slice M N O)/\c10 c M N O (fun aq ar=>Q aq ar) a else if e == 3 then ∃P,hc a (c.add 1)=some (.pointer P)/\∃R,hc a (P_ b 1)=some (vi R)/\∃T,hc a (P_ b 2)=some (vi T)/\∃o,hc a (c.add 4)=some (.pointer o)/\∃p,hc a (P_ b 1)=some (vi p)/\∃q,hc a (P_ b 2)=some (vi q)/\∃U,P=some U/\c1 U R T (fun au k=>hcs k (P_ b 2) [vi q]/\hcs k (P_ b 1) [vi p]/\hcs k (c.add 4) [.pointer o]/\∃V,o=some V/\c5 V p q (fun av aw=>Q (au == av) aw) k) a else if e == 4 then ∃X,hc a (c.add 1)=some (.pointer X)/\∃Y,hc a (P_ b 1)=some (vi Y)/\∃r,hc a (c.add 4)=some (.pointer r)/\∃s,hc a (P_ b 1)=some (vi s)/\∃Z,X=some Z/\c0 Z Y (fun ax t=>hcs t (P_ b 1) [vi s]/\hcs t (c.add 4) [.pointer r]/\∃aa,r=some aa/\c6 aa s (fun ay az=>Q (ax == ay) az) t) a else Q true a
def QF:CF UD:=iT RT RR NH O5 IY Q5 WX NJ QO QE QD
theorem Ag8:AE PP 47 (WS UD QF):=ro (tc Ai5 (tc Ai3 (tc AeV (tc AeW (tc tM (tc Ah1 (tc Ah2 (tc AgJ (tc AgK (tc Ag7 (tc Ag6 tn))))))))))) Tryz.func47 (by kernel_rfl) ((show EE [(11,WB),(25,V9),(39,S0),(43,S1),(44,MC),(110,U6),(111,U9),(112,UO),(113,UP),(127,AaX),(128,UC)] [] UD [] Tryz.f47 iT from by(repeat intro _);kernel_rfl) RT RR NH O5 IY Q5 WX NJ QO QE QD)
attribute [irreducible] QF
abbrev UB:Sg:=([.addr],[.bool])
def iP:GT [SZ,UU,S2,ET] UB:=fun c0 c1 c2 c3 a Q h=>∃x,hc h a=some (.pointer x)/\∃e,hc h (a.add 4)=some (.pointer e)/\∃c,e=some c/\∃f g i,hc h (c.add 7)=some (.slice f g i)/\∃j k l,hc h (c.add 8)=some (.slice j k l)/\∃m n o,hc h (c.add 9)=some (.slice m n o)/\∃y,x=some y/\c2 y (fun E F G I J K L M N p=>hcs p (c.add 7) [.slice f g i,.slice j k l,.slice m n o]/\hcs p (a.add 4) [.pointer e]/\c1 E F G I J K L M N f g i j k l m n o (fun O d=>if O then ∃z,hc d a=some (.pointer z)/\∃q,hc d (a.add 4)=some (.pointer q)/\∃r,q=some r/\∃s,hc d (r.add 10)=some (vi s)/\∃A,z=some A/\c0 A (fun P b=>hcs b (r.add 10) [vi s]/\hcs b (a.add 4) [.pointer q]/\if P == s then ∃B,hc b a=some (.pointer B)/\∃t,hc b (a.add 4)=some (.pointer t)/\∃u,t=some u/\∃v,hc b (u.add 11)=some (.bool v)/\∃C,B=some C/\c3 C (fun R w=>hcs w (u.add 11) [.bool v]/\hcs w (a.add 4) [.pointer t]/\Q (R == v) w) b else Q false b) d else Q false d) p) h
def QC:CF UB:=iP O4 QT O6 EJ
theorem Ag5:AE PP 48 (WS UB QC):=ro (tc AeU (tc AgP (tc AeX (tc RZ tn)))) Tryz.func48 (by kernel_rfl) ((show EE [(26,SZ),(33,UU),(34,S2),(42,ET)] [] UB [] Tryz.f48 iP from by(repeat intro _);kernel_rfl) O4 QT O6 EJ)
attribute [irreducible] QC
abbrev bW:Sg:=([.ag [Si,Si,Si,Si,Si,Si,Si],.slc,.ag [.slc,.slc,.slc],.slc],[.bool])
def iL:GT [T7,T8,UD,UB] bW:=fun c0 c1 c2 c3 U V X Y Z aa ab ac ad ae af ag ah ai aj ak al am an ao l au Q h=>∀c m,hnew h c [vi U,vi V,vi X,vi Y,vi Z,vi aa,vi ab] m->∀f n,hnew m f [.slice af ag ah,.slice ai aj ak,.slice al am an] n->c0 (fun ap a=>if !ap then Q false a else ∃o,hc a (P_ c 0)=some (vi o)/\∃p,hc a (P_ c 1)=some (vi p)/\∃q,hc a (P_ c 2)=some (vi q)/\∃r,hc a (P_ c 3)=some (vi r)/\∃s,hc a (P_ c 4)=some (vi s)/\∃t,hc a (P_ c 5)=some (vi t)/\∃u,hc a (P_ c 6)=some (vi u)/\∃v w x,hc a (P_ f 0)=some (.slice v w x)/\∃y z A,hc a (P_ f 1)=some (.slice y z A)/\∃B C E,hc a (P_ f 2)=some (.slice B C E)/\c1 o p q r s t u ac ad ae v w x y z A B C E (fun g i j=>∀(F:JT),(∀(G:H),(∀(k:JT),(∀(b:Int) (d:H),(if ltI b l then ∃e,ao=some e/\0≤b/\b<l/\∃I,hc d (e.add (b.toNat*4))=some (vi I)/\∃J,hc d ((e.add (b.toNat*4)).add 1)=some (vi J)/\∃K,hc d ((e.add (b.toNat*4)).add 2)=some (vi K)/\∃L M N,hc d ((e.add (b.toNat*4)).add 3)=some (.slice L M N)/\∃O,g=some O/\c2 O I J K L M N (fun aq P=>if !aq then Q false P else ∃R,g=some R/\c3 R (fun ar T=>if !ar then Q false T else k [.dv (.one (vi (IntKind.i64.wrap (b+1))))] T) P) d else Q true d)->k [.dv (.one (vi b))] d)->k [.dv (.one (vi 0))] G)->F [] G)->if g.isNone=true then Q i j else if !i then Q i j else F [] j) a) n
def WT:CF bW:=iL P9 QA QF QC
theorem Ag1:AE PP 7 (WS bW WT):=ro (tc Ag2 (tc Ag3 (tc Ag8 (tc Ag5 tn)))) Tryz.func7 (by kernel_rfl) ((show EE [(37,T7),(38,T8),(47,UD),(48,UB)] [] bW [(15,[]),(250,[(11,.sc (.int .i64))])] Tryz.f7 iL from by(repeat intro _);kernel_rfl) P9 QA QF QC)
attribute [irreducible] WT
abbrev bQ:Sg:=([.slc,.addr],[.bool])
def fE:GT [] bQ:=fun d b e c Q h=>∃a,hc h c=some (vi a)/\Q ((↑b:Int) != a) h
def YX:CF bQ:=fE
theorem Af1:AE PP 132 (WS bQ YX):=ro tn Tryz.func132 (by kernel_rfl) ((show EE [] [] bQ [] Tryz.f132 fE from by(repeat intro _);kernel_rfl))
attribute [irreducible] YX
abbrev bR:Sg:=([Ti],[.bool])
def fF:GT [] bR:=fun a Q h=>Q (ltI a 0) h
def YY:CF bR:=fF
theorem Af2:AE PP 134 (WS bR YY):=ro tn Tryz.func134 (by kernel_rfl) ((show EE [] [] bR [] Tryz.f134 fF from by(repeat intro _);kernel_rfl))
attribute [irreducible] YY
abbrev bO:Sg:=([Ti],[Tb])
def fB:GT [] bO:=fun a Q h=>Q 255 h
def YV:CF bO:=fB
theorem AeY:AE PP 266 (WS bO YV):=ro tn Tryz.func266 (by kernel_rfl) ((show EE [] [] bO [] Tryz.f266 fB from by(repeat intro _);kernel_rfl))
attribute [irreducible] YV
abbrev bP:Sg:=([Ti,.addr],[Tb])
def fC:GT [] bP:=fun b c Q h=>∃j d k,hc h c=some (.slice j d k)/\if (↑d:Int)==0 then Q 0 h else ∃e f l,hc h c=some (.slice e f l)/\∃m a n,hc h c=some (.slice m a n)/\(↑a:Int)≠0/\∃g,e=some g/\0≤b.tmod (↑a:Int)/\b.tmod (↑a:Int)<(↑f:Int)/\∃i,hc h (g.add ((b.tmod (↑a:Int)).toNat*1))=some (.int .u8 i)/\Q i h
def YW:CF bP:=fC
theorem AeZ:AE PP 267 (WS bP YW):=ro tn Tryz.func267 (by kernel_rfl) ((show EE [] [] bP [] Tryz.f267 fC from by(repeat intro _);kernel_rfl))
attribute [irreducible] YW
end Go.Proofs.YteedolonhdbieaaGreatDoor
end
section
namespace Go.Vc
abbrev si(i:Nat):SV:=.dv (.one (.int .i64 (i:Int)))
theorem BB{J:List SV->HP}(N:Nat)(Inv:Nat->HP)(step:∀i h,i<N->Inv i h->(∀h',Inv (i+1) h'->J [si (i+1)] h')->J [si i] h)
  (exit:∀h,Inv N h->J [si N] h) (i:Nat) (h:H) (hi:i≤N) (inv:Inv i h):J [si i] h:=by
 generalize e:N-i=n
 induction n generalizing i h with
 | zero=>
  have:i=N:=by omega
  subst this;exact exit h inv
 | succ n ih=>exact step i h (by omega) inv fun h' inv'=>ih (i+1) h' (by omega) inv' (by omega)
theorem AU{i:Nat}(h:i<2^62):IntKind.i64.wrap ((i:Int)+1)=((i+1:Nat):Int):=by
 rw[IntKind.wrap_i64];omega
theorem AL{n:Int}(h:-(2^62)≤n/\n≤2^62):IntKind.i64.wrap n=n:=by
 rw[IntKind.wrap_i64];omega
def BP(g:Nat->Int->Int)(i:Nat)(ns:List Int):List Int:=ns.mapIdx fun j v=>if j<i then g j v else v
@[simp] theorem yY(g:Nat->Int->Int)(i:Nat)(ns:List Int):(BP g i ns).length=ns.length:=by simp[BP]
theorem JB(g:Nat->Int->Int)(i:Nat)(ns:List Int)(j:Nat):(BP g i ns)[j]?=ns[j]?.map fun v=>if j<i then g j v else v:=by simp[BP]
@[simp] theorem aO(g:Nat->Int->Int)(ns:List Int):BP g 0 ns=ns:=by
 apply List.ext_getElem?;intro j;rw[JB];simp
theorem SH(g:Nat->Int->Int)(i:Nat)(ns:List Int)(hi:i<ns.length):(BP g i ns).set i (g i ns[i])=BP g (i+1) ns:=by
 apply List.ext_getElem?;intro j
 by_cases h:i=j
 ·subst h;rw[List.getElem?_set_self (by simpa using hi),JB];simp[hi]
 ·rw[List.getElem?_set_ne h,JB,JB]
  congr 1;funext v
  by_cases h1:j<i
  ·rw[if_pos h1,if_pos (by omega)]
  ·rw[if_neg h1,if_neg (by omega)]
theorem E4(k:IntKind)(ns:List Int)(i:Nat)(n:Int):(AA k ns).set i (.int k n)=AA k (ns.set i n):=by simp[AA,List.map_set]
@[simp] theorem ArK(p:Option Addr)(l c:Nat):(Value.slice p l c).oneCell'=true:=rfl
@[simp] theorem ArH(b:Bool):(Value.bool b).oneCell'=true:=rfl
@[simp] theorem ArJ(p:Option Addr):(Value.pointer p).oneCell'=true:=rfl
@[simp] theorem ArL(s:ByteArray):(Value.string s).oneCell'=true:=rfl
inductive Tag where
 | blk (b:Nat) (vs:List Value)
 | sl (p:Option Addr) (l c sz:Nat) (vs:List Value)
 | of (n:Nat)
structure Ent where
 tag:Tag
 P:H->(Nat->Prop)->Prop
 st:∀{h h':H} {f:Nat->Prop},P h f->(∀b,f b->h'[b]?=h[b]?)->P h' f
 lt:∀{h:H} {f:Nat->Prop} {b:Nat},P h f->f b->b<h.size
def SatX:List Ent->H->(Nat->Prop)->Prop
 | [],_,O=>∀b,¬O b
 | e::A,h,O=>∃f g,e.P h f/\SatX A h g/\(∀b,f b->¬g b)/\(∀b,O b↔f b∨g b)
theorem SatX.st{A:List Ent}{h h':H}{O:Nat->Prop}(s:SatX A h O)(e:∀b,O b->h'[b]?=h[b]?):SatX A h' O:=by
 induction A generalizing O with
 | nil=>exact s
 | cons x A ih=>
  obtain⟨f,g,hp,hg,hd,ho⟩:=s
  exact⟨f,g,x.st hp fun b hb=>e b ((ho b).2 (Or.inl hb)),ih hg fun b hb=>e b ((ho b).2 (Or.inr hb)),hd,ho⟩
theorem SatX.lt{A:List Ent}{h:H}{O:Nat->Prop}(s:SatX A h O){b:Nat}(hb:O b):b<h.size:=by
 induction A generalizing O with
 | nil=>exact absurd hb (s b)
 | cons x A ih=>
  obtain⟨f,g,hp,hg,hd,ho⟩:=s
  rcases (ho b).1 hb with k | k
  ·exact x.lt hp k
  ·exact ih hg k
theorem SatX.iff{A:List Ent}{h:H}{O O':Nat->Prop}(s:SatX A h O)(e:∀b,O b↔O' b):SatX A h O':=by
 have:O=O':=funext fun b=>propext (e b)
 exact this ▸ s
theorem SatX.append{A B:List Ent}{h:H}{O:Nat->Prop}:SatX (A++B) h O↔∃f g,SatX A h f/\SatX B h g/\(∀b,f b->¬g b)/\(∀b,O b↔f b∨g b):=by
 induction A generalizing O with
 | nil=>
  constructor
  ·intro s;exact⟨fun _=>False,O,fun _ x=>x,s,fun _ x=>x.elim,fun b=>by simp⟩
  ·rintro⟨f,g,hf,hg,_,ho⟩
   refine hg.iff fun b=>?_
   rw[ho];constructor
   ·exact Or.inr
   ·rintro (k | k)
    ·exact absurd k (hf b)
    ·exact k
 | cons x A ih=>
  constructor
  ·rintro⟨f,g,hp,hg,hd,ho⟩
   obtain⟨f',g',h1,h2,h3,h4⟩:=ih.1 hg
   refine⟨fun b=>f b∨f' b,g',⟨f,f',hp,h1,fun b k k'=>hd b k ((h4 b).2 (Or.inl k')),fun b=>Iff.rfl⟩,h2,?_,?_⟩
   ·rintro b (k | k) k'
    ·exact hd b k ((h4 b).2 (Or.inr k'))
    ·exact h3 b k k'
   ·intro b;rw[ho,h4,or_assoc]
  ·rintro⟨f,g,⟨f1,f2,hp,h1,h2,h3⟩,hg,hd,ho⟩
   refine⟨f1,fun b=>f2 b∨g b,hp,ih.2 ⟨f2,g,h1,hg,fun b k k'=>hd b ((h3 b).2 (Or.inr k)) k',fun b=>Iff.rfl⟩,?_,?_⟩
   ·rintro b k (k' | k')
    ·exact h2 b k k'
    ·exact hd b ((h3 b).2 (Or.inl k)) k'
   ·intro b;rw[ho,h3,or_assoc]
inductive At:List Ent->Nat->Ent->Prop where
 | z {A:List Ent} {e:Ent}:At (e::A) 0 e
 | s {A:List Ent} {e x:Ent} {i:Nat}:At A i e->At (x::A) (i+1) e
def put:List Ent->Nat->Ent->List Ent
 | [],_,_=>[]
 | _::A,0,e=>e::A
 | x::A,i+1,e=>x::put A i e
@[simp] theorem AG(x e:Ent)(A:List Ent):put (x::A) 0 e=e::A:=rfl
@[simp] theorem AS(x e:Ent)(A:List Ent)(i:Nat):put (x::A) (i+1) e=x::put A i e:=rfl
theorem zs1{a b:Ent}{A:List Ent}:At (a::b::A) 1 b:=(.s .z)
theorem zs2{a b c:Ent}{A:List Ent}:At (a::b::c::A) 2 c:=(.s (.s .z))
theorem zs3{a b c d:Ent}{A:List Ent}:At (a::b::c::d::A) 3 d:=(.s (.s (.s .z)))
theorem zs4{a b c d e:Ent}{A:List Ent}:At (a::b::c::d::e::A) 4 e:=(.s (.s (.s (.s .z))))
theorem zs5{a b c d e f:Ent}{A:List Ent}:At (a::b::c::d::e::f::A) 5 f:=(.s (.s (.s (.s (.s .z)))))
theorem zs6{a b c d e f g:Ent}{A:List Ent}:At (a::b::c::d::e::f::g::A) 6 g:=(.s (.s (.s (.s (.s (.s .z))))))
theorem zs7{a b c d e f g h:Ent}{A:List Ent}:At (a::b::c::d::e::f::g::h::A) 7 h:=(.s (.s (.s (.s (.s (.s (.s .z)))))))
theorem zs8{a b c d e f g h i:Ent}{A:List Ent}:At (a::b::c::d::e::f::g::h::i::A) 8 i:=(.s (.s (.s (.s (.s (.s (.s (.s .z))))))))
theorem zs9{a b c d e f g h i j:Ent}{A:List Ent}:At (a::b::c::d::e::f::g::h::i::j::A) 9 j:=(.s (.s (.s (.s (.s (.s (.s (.s (.s .z)))))))))
theorem ArP{a b c d e f g h i j k:Ent}{A:List Ent}:At (a::b::c::d::e::f::g::h::i::j::k::A) 10 k:=(.s (.s (.s (.s (.s (.s (.s (.s (.s (.s .z))))))))))
theorem ArQ{a b c d e f g h i j k l:Ent}{A:List Ent}:At (a::b::c::d::e::f::g::h::i::j::k::l::A) 11 l:=(.s (.s (.s (.s (.s (.s (.s (.s (.s (.s (.s .z)))))))))))
theorem ArR{a b c d e f g h i j k l m:Ent}{A:List Ent}:At (a::b::c::d::e::f::g::h::i::j::k::l::m::A) 12 m:=(.s (.s (.s (.s (.s (.s (.s (.s (.s (.s (.s (.s .z))))))))))))
theorem ArS{a b c d e f g h i j k l m n:Ent}{A:List Ent}:At (a::b::c::d::e::f::g::h::i::j::k::l::m::n::A) 13 n:=(.s (.s (.s (.s (.s (.s (.s (.s (.s (.s (.s (.s (.s .z)))))))))))))
theorem ArT{a b c d e f g h i j k l m n o:Ent}{A:List Ent}:At (a::b::c::d::e::f::g::h::i::j::k::l::m::n::o::A) 14 o:=(.s (.s (.s (.s (.s (.s (.s (.s (.s (.s (.s (.s (.s (.s .z))))))))))))))
theorem At.put{A:List Ent}{i:Nat}{e:Ent}(a:At A i e)(x:Ent):At (Vc.put A i x) i x:=by
 induction a with
 | z=>exact .z
 | s _ ih=>exact .s ih
theorem At.put_ne{A:List Ent}{i j:Nat}{e:Ent}(a:At A i e)(hj:i≠j)(x:Ent):At (Vc.put A j x) i e:=by
 induction a generalizing j with
 | z=>cases j with
  | zero=>exact absurd rfl hj
  | succ j=>exact .z
 | s q ih=>cases j with
  | zero=>exact .s q
  | succ j=>exact .s (ih (by omega))
@[simp] theorem CD(A:List Ent)(i:Nat)(x y:Ent):put (put A i x) i y=put A i y:=by
 induction A generalizing i with
 | nil=>rfl
 | cons a A ih=>cases i with
  | zero=>rfl
  | succ i=>simp[ih]
theorem At.put_self{A:List Ent}{i:Nat}{e:Ent}(a:At A i e):Vc.put A i e=A:=by
 induction a with
 | z=>rfl
 | s _ ih=>simp[ih]
theorem SatX.take{A:List Ent}{i:Nat}{e:Ent}(a:At A i e){h:H}{O:Nat->Prop}(s:SatX A h O):
  ∃f g:Nat->Prop,e.P h f/\(∀b,f b->¬g b)/\(∀b,O b↔f b∨g b)/\
   ∀(e':Ent) (h':H) (f':Nat->Prop),e'.P h' f'->(∀b,g b->h'[b]?=h[b]?)->(∀b,f' b->¬g b)->SatX (Vc.put A i e') h' (fun b=>f' b∨g b):=by
 induction a generalizing O with
 | z=>
  obtain⟨f,g,hp,hg,hd,ho⟩:=s
  exact⟨f,g,hp,hd,ho,fun e' h' f' hp' hsame hd'=>⟨f',g,hp',hg.st hsame,hd',fun b=>Iff.rfl⟩⟩
 | s a ih=>
  obtain⟨f,g,hp,hg,hd,ho⟩:=s
  obtain⟨f1,g1,h1,h2,h3,h4⟩:=ih hg
  refine⟨f1,fun b=>f b∨g1 b,h1,?_,?_,?_⟩
  ·rintro b k (k' | k')
   ·exact hd b k' ((h3 b).2 (Or.inl k))
   ·exact h2 b k k'
  ·intro b;rw[ho,h3];constructor
   ·rintro (k | k | k) <;> simp[k]
   ·rintro (k | k | k) <;> simp[k]
  ·intro e' h' f' hp' hsame hd'
   refine⟨f,fun b=>f' b∨g1 b,Ent.st _ hp fun b k=>hsame b (Or.inl k),h4 e' h' f' hp' (fun b k=>hsame b (Or.inr k)) (fun b k k'=>hd' b k (Or.inr k')),?_,?_⟩
   ·rintro b k (k' | k')
    ·exact hd' b k' (Or.inl k)
    ·exact hd b k ((h3 b).2 (Or.inr k'))
   ·intro b;constructor
    ·rintro (k | k | k) <;> simp[k]
    ·rintro (k | k | k) <;> simp[k]
/-! ### With a base -/
def Sat(h0:H)(A:List Ent)(h:H):Prop:=Ext CJ h0 h/\∃O,SatX A h O/\∀b,O b->h0.size≤b
theorem Sat.init(h:H):Sat h [] h:=⟨Ext.refl _ _,fun _=>False,fun _ x=>x,fun _ x=>x.elim⟩
theorem Sat.ex{h0 h:H}{A:List Ent}(s:Sat h0 A h):Ext CJ h0 h:=s.1
theorem Sat.ext{h0 h h':H}{A:List Ent}(s:Sat h0 A h)(x:Ext CJ h h'):Sat h0 A h':=by
 obtain⟨s1,O,s2,s3⟩:=s
 exact⟨s1.trans x,O,s2.st fun b hb=>x.eq b (s2.lt hb) (fun y=>y),s3⟩
theorem Sat.add{h0 h h':H}{A:List Ent}(s:Sat h0 A h)(x:Ext CJ h h'){e:Ent}{f:Nat->Prop}(p:e.P h' f)(n:∀b,f b->h.size≤b):Sat h0 (e::A) h':=by
 obtain⟨s1,O,s2,s3⟩:=s
 refine⟨s1.trans x,fun b=>f b∨O b,⟨f,O,p,s2.st fun b hb=>x.eq b (s2.lt hb) (fun y=>y),?_,fun b=>Iff.rfl⟩,?_⟩
 ·intro b k k';have:=n b k;have:=s2.lt k';omega
 ·rintro b (k | k)
  ·have:=n b k;have:=s1.size;omega
  ·exact s3 b k
theorem Sat.drop{h0 h:H}{A:List Ent}{e:Ent}(s:Sat h0 (e::A) h):Sat h0 A h:=by
 obtain⟨s1,O,⟨f,g,_,hg,_,ho⟩,s3⟩:=s
 exact⟨s1,g,hg,fun b hb=>s3 b ((ho b).2 (Or.inr hb))⟩
theorem Sat.sub{h0 h:H}{A B:List Ent}(s:Sat h0 A h)(p:B.Sublist A):Sat h0 B h:=by
 obtain⟨s1,O,s2,s3⟩:=s
 have:∃O',SatX B h O'/\∀b,O' b->O b:=by
  clear s3
  induction p generalizing O with
  | slnil=>exact⟨O,s2,fun _ x=>x⟩
  | cons a _ ih=>
   obtain⟨f,g,hp,hg,hd,ho⟩:=s2
   obtain⟨O',h1,h2⟩:=ih g hg
   exact⟨O',h1,fun b hb=>(ho b).2 (Or.inr (h2 b hb))⟩
  | cons_cons a _ ih=>
   obtain⟨f,g,hp,hg,hd,ho⟩:=s2
   obtain⟨O',h1,h2⟩:=ih g hg
   exact⟨fun b=>f b∨O' b,⟨f,O',hp,h1,fun b k k'=>hd b k (h2 b k'),fun b=>Iff.rfl⟩,fun b hb=>(ho b).2 (hb.imp id (h2 b))⟩
 obtain⟨O',h1,h2⟩:=this
 exact⟨s1,O',h1,fun b hb=>s3 b (h2 b hb)⟩
theorem Sat.nil{h0 h:H}{A:List Ent}(s:Sat h0 A h):Sat h0 [] h:=⟨s.1,fun _=>False,fun _ x=>x,fun _ x=>x.elim⟩
theorem Sat.perm{h0 h:H}{A B:List Ent}(s:Sat h0 A h)(p:A.Perm B):Sat h0 B h:=by
 obtain⟨s1,O,s2,s3⟩:=s
 refine⟨s1,O,?_,s3⟩
 clear s3
 induction p generalizing O with
 | nil=>exact s2
 | cons x _ ih=>
  obtain⟨f,g,hp,hg,hd,ho⟩:=s2
  exact⟨f,g,hp,ih g hg,hd,ho⟩
 | swap x y l=>
  obtain⟨f,g,hp,⟨f1,g1,hp1,hg1,hd1,ho1⟩,hd,ho⟩:=s2
  refine⟨f1,fun b=>f b∨g1 b,hp1,⟨f,g1,hp,hg1,fun b k k'=>hd b k ((ho1 b).2 (Or.inr k')),fun b=>Iff.rfl⟩,?_,?_⟩
  ·rintro b k (k' | k')
   ·exact hd b k' ((ho1 b).2 (Or.inl k))
   ·exact hd1 b k k'
  ·intro b;rw[ho,ho1];constructor
   ·rintro (k | k | k) <;> simp[k]
   ·rintro (k | k | k) <;> simp[k]
 | trans _ _ ih1 ih2=>exact ih2 O (ih1 O s2)
theorem Sat.takeK{h0 h:H}{A:List Ent}(s:Sat h0 A h){i:Nat}{e:Ent}(a:At A i e):∃f:Nat->Prop,e.P h f/\(∀b,f b->h0.size≤b)/\
  ∀(h':H) (e':Ent) (f':Nat->Prop),e'.P h' f'->(∀b,f' b->f b∨h.size≤b)->Ext f h h'->Sat h0 (Vc.put A i e') h':=by
 obtain⟨s1,O,s2,s3⟩:=s
 obtain⟨f,g,hp,hd,ho,hk⟩:=s2.take a
 refine⟨f,hp,fun b hb=>s3 b ((ho b).2 (Or.inl hb)),fun h' e' f' hp' hn hx=>?_⟩
 have hg:∀b,g b->b<h.size:=fun b hb=>s2.lt ((ho b).2 (Or.inr hb))
 refine⟨s1.comp hx (fun b hb hf=>?_),_,hk e' h' f' hp' (fun b hb=>hx.eq b (hg b hb) (fun hf=>hd b hf hb)) ?_,?_⟩
 ·have:=s3 b ((ho b).2 (Or.inl hf));omega
 ·intro b k1 k2
  rcases hn b k1 with k | k
  ·exact hd b k k2
  ·have:=hg b k2;omega
 ·rintro b (k1 | k1)
  ·rcases hn b k1 with k | k
   ·exact s3 b ((ho b).2 (Or.inl k))
   ·have:=s1.size;omega
  ·exact s3 b ((ho b).2 (Or.inr k1))
theorem Sat.take{h0 h:H}{A:List Ent}(s:Sat h0 A h){i:Nat}{e:Ent}(a:At A i e):∃f,e.P h f/\∀b,f b->h0.size≤b:=by
 obtain⟨f,h1,h2,_⟩:=s.takeK a
 exact⟨f,h1,h2⟩
theorem Sat.upd{h0 h h':H}{A:List Ent}(s:Sat h0 A h){i:Nat}{e e':Ent}(a:At A i e)
  (k:∀f,e.P h f->∃f',e'.P h' f'/\(∀b,f' b->f b∨h.size≤b)/\Ext f h h'):Sat h0 (Vc.put A i e') h':=by
 obtain⟨f,hp,_,hk⟩:=s.takeK a
 obtain⟨f',h1,h2,h3⟩:=k f hp
 exact hk h' e' f' h1 h2 h3
theorem Sat.as{h0 h:H}{A:List Ent}(s:Sat h0 A h){i:Nat}{e e':Ent}(a:At A i e)(k:∀f,e.P h f->e'.P h f):Sat h0 (Vc.put A i e') h:=
 s.upd a fun f hp=>⟨f,k f hp,fun _=>Or.inl,Ext.refl _ _⟩
/-! ### A block;a slice -/
@[irreducible] def XI(b:Nat)(vs:List Value)(h:H)(f:Nat->Prop):Prop:=Blk h b vs/\∀x,f x↔x=b
def blk(b:Nat)(vs:List Value):Ent where
 tag:=.blk b vs
 P:=XI b vs
 st:=by unfold XI;rintro h h' f ⟨k,e⟩ hs;exact⟨k.of_eq (hs b ((e b).2 rfl)),e⟩
 lt:=by unfold XI;rintro h f x ⟨k,e⟩ hx;rw[(e x).1 hx];exact k.lt
theorem blk_P{b:Nat}{vs:List Value}{h:H}{f:Nat->Prop}:(blk b vs).P h f↔Blk h b vs/\∀x,f x↔x=b:=by
 show XI b vs h f↔_;unfold XI;rfl
@[irreducible] def slP(p:Option Addr)(l c sz:Nat)(vs:List Value)(h:H)(f:Nat->Prop):Prop:=∃bs,OwnS h p l c sz vs bs/\∀x,f x↔x∈bs
def slE(p:Option Addr)(l c sz:Nat)(vs:List Value):Ent where
 tag:=.sl p l c sz vs
 P:=slP p l c sz vs
 st:=by
  unfold slP;rintro h h' f ⟨bs,⟨h1,h2,h3,h4⟩,e⟩ hs
  refine⟨bs,⟨h1,h2,h3,?_⟩,e⟩
  rcases h4 with h4 | ⟨b,rest,e1,rfl,k,e2⟩
  ·exact Or.inl h4
  ·exact Or.inr ⟨b,rest,e1,rfl,k.of_eq (hs b ((e b).2 (by simp))),e2⟩
 lt:=by unfold slP;rintro h f x ⟨bs,o,e⟩ hx;exact o.lt x ((e x).1 hx)
theorem slE_P{p:Option Addr}{l c sz:Nat}{vs:List Value}{h:H}{f:Nat->Prop}:(slE p l c sz vs).P h f↔∃bs,OwnS h p l c sz vs bs/\∀x,f x↔x∈bs:=by
 show slP p l c sz vs h f↔_;unfold slP;rfl
@[irreducible] def exP{α:Type}(φ:α->Prop)(F:α->List Ent)(h:H)(f:Nat->Prop):Prop:=∃a,φ a/\SatX (F a) h f
def exE{α:Type}(n:Nat)(φ:α->Prop)(F:α->List Ent):Ent where
 tag:=.of n
 P:=exP φ F
 st:=by unfold exP;rintro h h' f ⟨a,ha,s⟩ hs;exact⟨a,ha,s.st hs⟩
 lt:=by unfold exP;rintro h f x ⟨a,ha,s⟩ hx;exact s.lt hx
theorem exE_P{α:Type}{n:Nat}{φ:α->Prop}{F:α->List Ent}{h:H}{f:Nat->Prop}:(exE n φ F).P h f↔∃a,φ a/\SatX (F a) h f:=by
 show exP φ F h f↔_;unfold exP;rfl
theorem Sat.open_{h0 h:H}{A:List Ent}{α:Type}{n:Nat}{φ:α->Prop}{F:α->List Ent}(s:Sat h0 (exE n φ F::A) h):∃a,φ a/\Sat h0 (F a++A) h:=by
 obtain⟨s1,O,⟨f,g,hp,hg,hd,ho⟩,s3⟩:=s
 obtain⟨a,ha,s⟩:=exE_P.1 hp
 exact⟨a,ha,s1,O,SatX.append.2 ⟨f,g,s,hg,hd,ho⟩,s3⟩
theorem Sat.close{h0 h:H}{A:List Ent}{α:Type}{n:Nat}{φ:α->Prop}{F:α->List Ent}(a:α)(ha:φ a)(s:Sat h0 (F a++A) h):Sat h0 (exE n φ F::A) h:=by
 obtain⟨s1,O,s2,s3⟩:=s
 obtain⟨f,g,hf,hg,hd,ho⟩:=SatX.append.1 s2
 exact⟨s1,O,⟨f,g,exE_P.2 ⟨a,ha,hf⟩,hg,hd,ho⟩,s3⟩
def del:List Ent->Nat->List Ent
 | [],_=>[]
 | _::A,0=>A
 | x::A,i+1=>x::del A i
theorem At.perm{A:List Ent}{i:Nat}{e:Ent}(a:At A i e):A.Perm (e::del A i):=by
 induction a with
 | z=>exact .refl _
 | s _ ih=>exact (ih.cons _).trans (.swap _ _ _)
theorem At.perm_put{A:List Ent}{i:Nat}{e:Ent}(a:At A i e)(x:Ent):(x::del A i).Perm (Vc.put A i x):=by
 induction a with
 | z=>exact .refl _
 | s _ ih=>exact (List.Perm.swap _ _ _).trans (ih.cons _)
theorem Sat.front{h0 h:H}{A:List Ent}(s:Sat h0 A h){i:Nat}{e:Ent}(a:At A i e):Sat h0 (e::del A i) h:=s.perm a.perm
theorem Sat.back{h0 h:H}{A:List Ent}{i:Nat}{e x:Ent}(a:At A i e)(s:Sat h0 (x::del A i) h):Sat h0 (Vc.put A i x) h:=s.perm (a.perm_put x)
/-! ### Steps -/
theorem Sat.new{h0 h h':H}{A:List Ent}(s:Sat h0 A h){b:Nat}{vs:List Value}(n:hnew h b vs h'):Sat h0 (blk b vs::A) h':=
 s.add n.ext (blk_P.2 ⟨n.blk,fun _=>Iff.rfl⟩) fun x hx=>by rw[hx,n.b];exact Nat.le_refl _
theorem Sat.blkOf{h0 h:H}{A:List Ent}(s:Sat h0 A h){i b:Nat}{vs:List Value}(a:At A i (blk b vs)):Blk h b vs:=by
 obtain⟨f,hp,_⟩:=s.take a
 exact (blk_P.1 hp).1
theorem Sat.old{h0 h:H}{A:List Ent}(s:Sat h0 A h){i b:Nat}{vs:List Value}(a:At A i (blk b vs)):h0.size≤b:=by
 obtain⟨f,hp,hl⟩:=s.take a
 exact hl b (((blk_P.1 hp).2 b).2 rfl)
theorem Sat.ld{h0 h:H}{A:List Ent}(s:Sat h0 A h){i b:Nat}{vs:List Value}(a:At A i (blk b vs)){o:Nat}{v:Value}(e:vs[o]?=some v):hc h ⟨b,o,none⟩=some v:=by
 rw[(s.blkOf a).hc,e]
theorem Sat.cs1{h0 h:H}{A:List Ent}(s:Sat h0 A h){i b:Nat}{vs:List Value}(a:At A i (blk b vs)){o:Nat}{xs:List Value}(e:∀i,i<xs.length->vs[o+i]?=xs[i]?):hcs h ⟨b,o,none⟩ xs:=(s.blkOf a).hcs e
theorem Sat.cs{h0 h:H}{A:List Ent}(s:Sat h0 A h){i b:Nat}{vs:List Value}(a:At A i (blk b vs)){o:Nat}{xs:List Value}(e:(vs.drop o).take xs.length=xs):hcs h ⟨b,o,none⟩ xs:=by
 refine s.cs1 a fun i hi=>?_
 have:((vs.drop o).take xs.length)[i]?=xs[i]?:=by rw[e]
 rw[List.getElem?_take_of_lt hi,List.getElem?_drop]at this
 exact this
theorem Sat.row{h0 h:H}{A:List Ent}(s:Sat h0 A h){i b:Nat}{vs:List Value}(a:At A i (blk b vs)){o:Nat}{k:IntKind}{ns:List Int}(e:∀i,i<ns.length->vs[o+i]?=ns[i]?.map (Value.int k)):hrow h ⟨b,o,none⟩ k ns:=(s.blkOf a).hrow e
theorem Sat.can{h0 h:H}{A:List Ent}(s:Sat h0 A h){i b:Nat}{vs:List Value}(a:At A i (blk b vs)){o n:Nat}(e:o+n≤vs.length):AC h ⟨b,o,none⟩ n:=(s.blkOf a).can e
theorem Sat.wr{h0 h h':H}{A:List Ent}(s:Sat h0 A h){i b:Nat}{vs:List Value}(a:At A i (blk b vs)){o:Nat}{xs:List Value}(e:h'=hwr h ⟨b,o,none⟩ xs):Sat h0 (Vc.put A i (blk b (AR vs o xs))) h':=by
 subst e
 refine s.upd a fun f hp=>?_
 obtain⟨k,hf⟩:=blk_P.1 hp
 refine⟨f,blk_P.2 ⟨k.wr o xs,hf⟩,fun _=>Or.inl,(Ext.wr h b o xs).mono fun x _ hx=>(hf x).2 hx⟩
theorem Sat.sv{h0 h:H}{A:List Ent}(s:Sat h0 A h){i:Nat}{p:Option Addr}{l c sz:Nat}{vs:List Value}(a:At A i (slE p l c sz vs)):hsv h p sz l vs:=by
 obtain⟨f,hp,_⟩:=s.take a
 obtain⟨bs,o,_⟩:=slE_P.1 hp
 exact o.hsv
theorem Sat.base{h0 h:H}{A:List Ent}(s:Sat h0 A h){p:Option Addr}{sz l:Nat}{vs:List Value}(e:hsv h0 p sz l vs):hsv h p sz l vs:=EC s.1 e fun _ _ x=>x
theorem Sat.own{h0 h h':H}{A:List Ent}(s:Sat h0 A h)(x:Ext CJ h h'){p:Option Addr}{l c sz:Nat}{vs:List Value}{bs:List Nat}(o:OwnS h' p l c sz vs bs)(n:newB h bs):Sat h0 (slE p l c sz vs::A) h':=
 s.add x (f:=fun x=>x∈bs) (slE_P.2 ⟨bs,o,fun _=>Iff.rfl⟩) n
theorem Sat.app{h0 h:H}{A:List Ent}(s:Sat h0 A h){i:Nat}{p:Option Addr}{l c n sz:Nat}{old vs z:List Value}{B:Nat}(a:At A i (slE p l c sz old)){K:Option Addr->Nat->Nat->HP}
  (hl:vs.length=n*sz) (hz:z.length=sz) (hv:∀v,v∈vs->v.oneCell'=true) (hb:(l+n)*B≤2^47)
  (k:∀p' c' h',Sat h0 (Vc.put A i (slE p' (l+n) c' sz (old++vs))) h'->K p' (l+n) c' h'):AW h sz z B p l c n vs K:=by
 obtain⟨f,hp,_,hk⟩:=s.takeK a
 obtain⟨bs,o,hf⟩:=slE_P.1 hp
 refine AnG o hl hz hv hb fun p' c' h' bs' hx ho hn=>k _ _ _ ?_
 refine hk h' _ (fun x=>x∈bs') (slE_P.2 ⟨bs',ho,fun _=>Iff.rfl⟩) (fun b hb=>?_) (hx.mono fun x _ hx=>(hf x).2 hx)
 rcases hn b hb with h1 | h1
 ·exact Or.inl ((hf b).2 h1)
 ·exact Or.inr h1
theorem Sat.app_new{h0 h:H}{A:List Ent}(s:Sat h0 A h){p:Option Addr}{n sz:Nat}{vs z:List Value}{B:Nat}{K:Option Addr->Nat->Nat->HP}
  (hl:vs.length=n*sz) (hz:z.length=sz) (hv:∀v,v∈vs->v.oneCell'=true) (hb:n*B≤2^47)
  (k:∀p' c' h',Sat h0 (slE p' n c' sz vs::A) h'->K p' n c' h'):AW h sz z B p 0 0 n vs K:=
 zF hl hz hv hb fun p' c' h' bs x o nb=>k p' c' h' (s.own x o nb)
theorem At.app{A B:List Ent}{i:Nat}{e:Ent}(a:At A i e):At (A++B) i e:=by
 induction a with
 | z=>exact .z
 | s _ ih=>exact .s ih
theorem At.get{A:List Ent}{i:Nat}{e:Ent}(h:A[i]?=some e):At A i e:=by
 induction A generalizing i with
 | nil=>simp at h
 | cons x A ih=>cases i with
  | zero=>simp at h;subst h;exact .z
  | succ i=>exact .s (ih (by simpa using h))
theorem At.mem{A:List Ent}{e:Ent}(h:e∈A):∃i,At A i e:=by
 obtain⟨i,hi⟩:=List.mem_iff_getElem?.1 h
 exact⟨i,At.get hi⟩
end Go.Vc
end
