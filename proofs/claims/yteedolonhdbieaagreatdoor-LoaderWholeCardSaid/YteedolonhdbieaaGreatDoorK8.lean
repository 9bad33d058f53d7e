/- LoaderWhole and its parts, laid together by a program of ours: F Lp Sl Mt Rd -/
import Derived.ProofKit
import Derived.SizedLaws
import Derived.Test.YteedolonhdbieaaGreatDoorK7
set_option autoImplicit false
set_option linter.all false
section
namespace Go.Proofs.YteedolonhdbieaaGreatDoor
open Go Go.Vc
set_option maxRecDepth 100000
abbrev YT:Sg:=([.addr,.slc],[Ti])
def gF(c0:Addr->(Int->Int->Int->OA->Nat->Nat->List Int->Int->Int->HP)->HP)(c1:Addr->(Int->Int->Int->Int->Int->Int->Int->HP)->HP)(c2:Int->Int->Int->Int->Int->Int->Int->(Int->HP)->HP)(c3:Addr->Int->(Bool->Int->HP)->HP)(c4:Addr->Int->(Bool->HP)->HP)(c5:Addr->Int->OA->Nat->Nat->(Int->HP)->HP)(c6:Addr->Int->(Int->HP)->HP)(a:Addr)(B:OA)(o:Nat)(C:Nat)(Q:Int->HP)(E:H)(F:Nat)(G:Int)(I:Int)(J:Int)(K:OA)(L:Nat)(M:Nat)(N:List Int)(p:Int)(b:Int):Prop:=∀d,d=hwr E (P_ F 0) (vi G::vi I::vi J::.slice K L M::(AA .u8 N++[]))->if p != 0 then Q p d else ∃q,hc d a=some (.pointer q)/\∃r,q=some r/\c1 r (fun O P R T U V X Y=>c2 O P R T U V X (fun Z s=>if ltI Z o then Q 4 s else (2:Int)≠0/\∀(g:JT),(∀(c:Int) (h:H),(∃t,hc h a=some (.pointer t)/\∃u,t=some u/\c3 u c (fun aa v e=>∀(i:JT),(∀(j:H),(∃w,hc j a=some (.pointer w)/\∃x,w=some x/\c5 x c B o C (fun k f=>if k != 0 then Q k f else if c == b.tmod 2 then Q k f else ∃y,hc f (a.add 1)=some (.pointer y)/\∃z,y=some z/\c6 z (IntKind.i64.wrap (b+1)) (fun ab ac=>Q ab ac) f) j)->i [] j)->if v != 0 then Q v e else if aa then Q 9 e else if c != b.tmod 2 then c4 a b (fun ad A=>if !ad then Q 9 A else i [] A) e else i [] e) h)->g [.dv (.one (vi c))] h)->c0 a (fun ae af ag ah ai aj ak al am an=>∀l m,hnew an l (vi 0::vi 0::vi 0::.slice none 0 0::AA .u8 (AB 32)) m->AC m (P_ l 0) 36/\∀n,n=hwr m (P_ l 0) (vi ae::vi af::vi ag::.slice ah ai aj::(AA .u8 ak++[]))->if am == 0 then g [.dv (.one (vi (IntKind.i64.wrap (1-al))))] n else g [.dv (.one (vi (IntKind.i64.wrap (1-b.tmod 2))))] n) s) Y) d
def cJ(c0:Addr->Addr->OA->Nat->Nat->(Int->Int->Int->OA->Nat->Nat->List Int->Int->HP)->HP)(c1:Addr->(Int->Int->Int->OA->Nat->Nat->List Int->Int->Int->HP)->HP)(c2:Addr->(Int->Int->Int->Int->Int->Int->Int->HP)->HP)(c3:Addr->(Int->Int->HP)->HP)(c4:Int->Int->Int->Int->Int->Int->Int->(Int->HP)->HP)(c5:Addr->Int->(Bool->Int->HP)->HP)(c6:Addr->Int->(Bool->HP)->HP)(c7:Addr->Int->OA->Nat->Nat->(Int->HP)->HP)(c8:Addr->Int->(Int->HP)->HP)(a:Addr)(c:OA)(d:Nat)(e:Nat)(Q:Int->HP)(h:H):Prop:=
∃m,hc h (a.add 1)=some (.pointer m)/\∃n,m=some n/\c3 n (fun o p b=>if p != 0 then Q p b else ∃f,hc b (a.add 1)=some (.pointer f)/\∃g,hc b (a.add 2)=some (.pointer g)/\(∃q,f=some q/\∃r,g=some r/\c0 q r c d e (fun v w x y z A B C E=>∀j k,hnew E j (vi 0::vi 0::vi 0::.slice none 0 0::AA .u8 (AB 32)) k->AC k (P_ j 0) 36/\gF c1 c2 c4 c5 c6 c7 c8 a c d e Q k j v w x y z A B C o) b)/\∀l i,hnew b l (vi 0::vi 0::vi 0::.slice none 0 0::AA .u8 (AB 32)) i->hcs i (a.add 2) [.pointer g]/\hcs i (a.add 1) [.pointer f]/\∃s,f=some s/\∃t,g=some t/\c0 s t c d e (fun F G I J K L M N u=>AC u (P_ l 0) 36/\gF c1 c2 c4 c5 c6 c7 c8 a c d e Q u l F G I J K L M N o) i) h
theorem yG:∀c0 c1 c2 c3 c4 c5 c6 c7 c8 a0 a1p a1l a1c Q h,cJ c0 c1 c2 c3 c4 c5 c6 c7 c8 a0 a1p a1l a1c Q h=M7 PP [(12,W [.addr,.addr,.slc] [.ag [Si,Si,Si,.slc,.row .u8 32],Ti] c0),(40,W [.addr] [.ag [Si,Si,Si,.slc,.row .u8 32],Ti,Ti] c1),(63,W [.addr] [.ag [Si,Si,Si,Si,Si,Si,Si]] c2),(66,W [.addr] [Ti,Ti] c3),(121,W [.ag [Si,Si,Si,Si,Si,Si,Si]] [Ti] c4),(122,W [.addr,Ti] [.bool,Ti] c5),(123,W [.addr,Ti] [.bool] c6),(124,W [.addr,Ti,.slc] [Ti] c7),(125,W [.addr,Ti] [Ti] c8)] [(255,[(10,.sc (.int .i64))]),(1023,[])] Tryz.f41 [.addr a0,.one (.slice a1p a1l a1c)] (PU [Ti] Q) h:=by intros;kernel_rfl
def JG:=cJ GO IP A7 F7 IJ LT TM TJ TW
theorem nH:AE PP 41 (W [.addr,.slc] [Ti] JG):=uX (tc mV (tc gS (tc C6 (tc WC (tc gJ (tc mC (tc Ab1 (tc Aa2 (tc AcP (tn)))))))))) Tryz.func41 (by kernel_rfl) (by kernel_rfl) (yG _ _ _ _ _ _ _ _ _)
attribute [irreducible] JG
abbrev RX:Sg:=([],[.slc])
def dO:GT [] RX:=fun Q h=>∀a b,hnew h a [.int .u8 7] b->∀c d,hnew b c [vi 0,.slice (some (P_ a 0)) 1 1] d->Q (some (P_ c 0)) 1 1 d
def TP:CF RX:=dO
theorem AbL:AE PP 117 (WS RX TP):=ro tn Tryz.func117 (by kernel_rfl) ((show EE [] [] RX [] Tryz.f117 dO from by(repeat intro _);kernel_rfl))
attribute [irreducible] TP
abbrev YU:Sg:=([.addr],[.ag [Si,Si,Si,.slc,.row .u8 32],Ti,Ti])
abbrev RT:Sg:=([],[.bool])
def dL:GT [QR,YU,YT,SF,K2,LJ,K4,RX] RT:=fun c0 c1 c2 c3 c4 c5 c6 c7 Q h=>c0 16 1 2 3 1 0 1 (fun e C E=>c7 (fun F G I J=>c4 F G I (fun i K aj b=>∀(j:JT),(∀(k:H),(∃l,e=some l/\c5 l (fun m L f=>∀(n:JT),(∀(o:H),(∃p,e=some p/\∃q,m=some q/\∃r,i=some r/\c6 p q r (fun d s=>if d.isNone=true then Q false s else ∀t u,hnew s t [.int .u8 7] u->∀v w,hnew u v [.int .u8 1,.int .u8 2,.int .u8 3] w->c3 (some (P_ t 0)) 1 1 0 0 5 (some (P_ v 0)) 3 3 (AB 32) (fun M N O ak P=>∃x,d=some x/\c1 x (fun al am an ao ap aq ar au R T=>∃y,d=some y/\c2 y M N O (fun U V=>∃z,d=some z/\c1 z (fun X Y Z aa ab ac ad ae af ag=>∀c g,hnew ag c (vi 0::vi 0::vi 0::.slice none 0 0::AA .u8 (AB 32)) g->AC g (P_ c 0) 36/\∀a,a=hwr g (P_ c 0) (vi X::vi Y::vi Z::.slice aa ab ac::(AA .u8 ad++[]))->if R == 17 then if U == 0 then if af == 0 then if ae == 1 then ∃A,hc a (P_ c 2)=some (vi A)/\if A == 5 then ∃ah B ai,hc a (P_ c 3)=some (.slice ah B ai)/\Q ((↑B:Int)==3) a else Q false a else Q false a else Q false a else Q false a else Q false a) V) T) P) w) o)->n [] o)->if m.isNone=true then Q false f else if L != 0 then Q false f else n [] f) k)->j [] k)->if e.isNone=true then Q false b else if i.isNone=true then Q false b else if C != 0 then Q false b else if K != 0 then Q false b else j [] b) J) E) h
def OJ:CF RT:=dL NJ IP JG O0 HF JS IQ TP
theorem AbI:AE PP 37 (WS RT OJ):=ro (tc AaI (tc gS (tc nH (tc Ac2 (tc nF (tc nY (tc nI (tc AbL tn)))))))) Tryz.func37 (by kernel_rfl) ((show EE [(22,QR),(40,YU),(41,YT),(58,SF),(59,K2),(60,LJ),(96,K4),(117,RX)] [] RT [(15,[]),(63,[])] Tryz.f37 dL from by(repeat intro _);kernel_rfl) NJ IP JG O0 HF JS IQ TP)
attribute [irreducible] OJ
abbrev LB:Sg:=([.addr],[.bool])
def V7:GT [LJ,K4] LB:=fun c0 c1 a Q h=>∃f,hc h a=some (.pointer f)/\∃g,f=some g/\c0 g (fun c i j=>AC j (a.add 1) 1/\∀d,d=hwr j (a.add 1) [.pointer c]->AC d (a.add 3) 1/\∀b,b=hwr d (a.add 3) [.pointer none]->∃k,hc b (a.add 4)=some (.pointer k)/\∃l,k=some l/\∃m,hc b (l.add 11)=some (.bool m)/\if m then if c.isNone=true then Q (i == 8) b else Q false b else if c.isNone=true then Q false b else if i != 0 then Q false b else ∃n,hc b a=some (.pointer n)/\∃o,hc b (a.add 2)=some (.pointer o)/\∃p,n=some p/\∃q,c=some q/\∃r,o=some r/\c1 p q r (fun u s=>AC s (a.add 3) 1/\∀e,e=hwr s (a.add 3) [.pointer u]->∃t,hc e (a.add 3)=some (.pointer t)/\Q (!t.isNone) e) b) h
def GP:CF LB:=V7 JS IQ
theorem nP:AE PP 44 (WS LB GP):=ro (tc nY (tc nI tn)) Tryz.func44 (by kernel_rfl) ((show EE [(60,LJ),(96,K4)] [] LB [] Tryz.f44 V7 from by(repeat intro _);kernel_rfl) JS IQ)
attribute [irreducible] GP
abbrev LE:Sg:=([.ag [.slc,.slc,.slc]],[.ag [.slc,.slc,.slc]])
def eD:GT [] LE:=fun d5 d6 d7 d8 d9 ea eb ec ed Q h=>∀b bb,hnew h b [.slice d5 d6 d7,.slice d8 d9 ea,.slice eb ec ed] bb->∀p q,hnew bb p [.slice none 0 0,.slice none 0 0,.slice none 0 0] q->∀(g:JT),(∀(k:Addr) (bc:H),(∀(an:JT),(∀(m:Int) (j:H),(∃ee bd ef,hc j (P_ b 0)=some (.slice ee bd ef)/\if ltI m bd then ∃x y z,hc j k=some (.slice x y z)/\∃ao ap be,hc j (P_ b 0)=some (.slice ao ap be)/\∃aq,ao=some aq/\0≤m/\m<ap/\∃ar N bf,hc j (aq.add (m.toNat*1))=some (.slice ar N bf)/\∀bg r,hnew j bg [] r->hcs r (aq.add (m.toNat*1)) [.slice ar N bf]/\hcs r (P_ b 0) [.slice ao ap be]/\hcs r k [.slice x y z]/\∃(bh:List Value),hsv r ar 32 N bh/\AZ r 32 (AA .u8 (AB 32)) 32 (some (P_ bg 0)) 0 0 N bh fun eg eh ei bi=>hcs bi k [.slice x y z]/\∀bj O,hnew bi bj [.slice eg eh ei] O->hcs O k [.slice x y z]/\∃(bk:List Value),hsv O (some (P_ bj 0)) 1 1 bk/\AZ O 1 [.slice none 0 0] 24 x y z 1 bk fun ej ek el bl=>AC bl k 1/\∀bm,bm=hwr bl k [.slice ej ek el]->an [.dv (.one (vi (IntKind.i64.wrap (m+1))))] bm else ∃bn bo bp,hc j k=some (.slice bn bo bp)/\∃bq br bs,hc j (k.add 1)=some (.slice bq br bs)/\∃bt bu bv,hc j (k.add 2)=some (.slice bt bu bv)/\AC j (P_ p 0) 3/\∀A,A=hwr j (P_ p 0) [.slice bn bo bp,.slice bq br bs,.slice bt bu bv]->∃bw bx bz,hc A (P_ p 0)=some (.slice bw bx bz)/\∃b0 b1 b2,hc A (P_ p 1)=some (.slice b0 b1 b2)/\∃b3 b4 b5,hc A (P_ p 2)=some (.slice b3 b4 b5)/\Q bw bx bz b0 b1 b2 b3 b4 b5 A)->an [.dv (.one (vi m))] j)->an [.dv (.one (vi 0))] bc)->g [SV.dv (DV.addr k)] bc)->∃f d i,hc q (P_ b 1)=some (.slice f d i)/\∃c a e,hc q (P_ b 2)=some (.slice c a e)/\(∀s n,hnew q s [] n->hcs n (P_ b 2) [.slice c a e]/\hcs n (P_ b 1) [.slice f d i]/\(∃(b6:List Value),hsv n f 1 d b6/\AZ n 1 [vi 0] 8 (some (P_ s 0)) 0 0 d b6 fun au av aw ax=>hcs ax (P_ b 2) [.slice c a e]/\(∀ay B,hnew ax ay [] B->hcs B (P_ b 2) [.slice c a e]/\(∃(b7:List Value),hsv B c 1 a b7/\AZ B 1 [.bool false] 1 (some (P_ ay 0)) 0 0 a b7 fun em en eo ep=>∀P az,hnew ep P [.slice none 0 0,.slice none 0 0,.slice none 0 0] az->AC az (P_ P 0) 3/\∀b8,b8=hwr az (P_ P 0) [.slice none 0 0,.slice au av aw,.slice em en eo]->g [SV.dv (DV.addr (P_ P 0))] b8)/\∀R T,hnew B R [.slice none 0 0,.slice none 0 0,.slice none 0 0] T->hcs T (P_ b 2) [.slice c a e]/\∃(b9:List Value),hsv T c 1 a b9/\AZ T 1 [.bool false] 1 (some (P_ ay 0)) 0 0 a b9 fun eq er es ca=>AC ca (P_ R 0) 3/\∀cb,cb=hwr ca (P_ R 0) [.slice none 0 0,.slice au av aw,.slice eq er es]->g [SV.dv (DV.addr (P_ R 0))] cb)/\∀U a0,hnew ax U [.slice none 0 0,.slice none 0 0,.slice none 0 0] a0->hcs a0 (P_ b 2) [.slice c a e]/\∀cc V,hnew a0 cc [] V->hcs V (P_ b 2) [.slice c a e]/\∃(cd:List Value),hsv V c 1 a cd/\AZ V 1 [.bool false] 1 (some (P_ cc 0)) 0 0 a cd fun et eu ev ce=>AC ce (P_ U 0) 3/\∀cf,cf=hwr ce (P_ U 0) [.slice none 0 0,.slice au av aw,.slice et eu ev]->g [SV.dv (DV.addr (P_ U 0))] cf)/\(∀X t,hnew n X [] t->hcs t (P_ b 2) [.slice c a e]/\hcs t (P_ b 1) [.slice f d i]/\(∃(cg:List Value),hsv t f 1 d cg/\AZ t 1 [vi 0] 8 (some (P_ s 0)) 0 0 d cg fun ch ci cj Y=>hcs Y (P_ b 2) [.slice c a e]/\(∃(ck:List Value),hsv Y c 1 a ck/\AZ Y 1 [.bool false] 1 (some (P_ X 0)) 0 0 a ck fun ew ex ey ez=>∀Z a1,hnew ez Z [.slice none 0 0,.slice none 0 0,.slice none 0 0] a1->AC a1 (P_ Z 0) 3/\∀cl,cl=hwr a1 (P_ Z 0) [.slice none 0 0,.slice ch ci cj,.slice ew ex ey]->g [SV.dv (DV.addr (P_ Z 0))] cl)/\∀aa ab,hnew Y aa [.slice none 0 0,.slice none 0 0,.slice none 0 0] ab->hcs ab (P_ b 2) [.slice c a e]/\∃(cm:List Value),hsv ab c 1 a cm/\AZ ab 1 [.bool false] 1 (some (P_ X 0)) 0 0 a cm fun e0 e1 e2 cn=>AC cn (P_ aa 0) 3/\∀co,co=hwr cn (P_ aa 0) [.slice none 0 0,.slice ch ci cj,.slice e0 e1 e2]->g [SV.dv (DV.addr (P_ aa 0))] co)/\∀ac C,hnew t ac [.slice none 0 0,.slice none 0 0,.slice none 0 0] C->hcs C (P_ b 2) [.slice c a e]/\hcs C (P_ b 1) [.slice f d i]/\∃(cp:List Value),hsv C f 1 d cp/\AZ C 1 [vi 0] 8 (some (P_ s 0)) 0 0 d cp fun e3 e4 e5 a2=>hcs a2 (P_ b 2) [.slice c a e]/\∃(cq:List Value),hsv a2 c 1 a cq/\AZ a2 1 [.bool false] 1 (some (P_ X 0)) 0 0 a cq fun e6 e7 e8 cr=>AC cr (P_ ac 0) 3/\∀cs,cs=hwr cr (P_ ac 0) [.slice none 0 0,.slice e3 e4 e5,.slice e6 e7 e8]->g [SV.dv (DV.addr (P_ ac 0))] cs)/\∀o u,hnew n o [.slice none 0 0,.slice none 0 0,.slice none 0 0] u->hcs u (P_ b 2) [.slice c a e]/\hcs u (P_ b 1) [.slice f d i]/\(∃(ct:List Value),hsv u f 1 d ct/\AZ u 1 [vi 0] 8 (some (P_ s 0)) 0 0 d ct fun e9 fa fb cu=>hcs cu (P_ b 2) [.slice c a e]/\∀cv ad,hnew cu cv [] ad->hcs ad (P_ b 2) [.slice c a e]/\∃(cw:List Value),hsv ad c 1 a cw/\AZ ad 1 [.bool false] 1 (some (P_ cv 0)) 0 0 a cw fun fc fd fe cx=>AC cx (P_ o 0) 3/\∀cy,cy=hwr cx (P_ o 0) [.slice none 0 0,.slice e9 fa fb,.slice fc fd fe]->g [SV.dv (DV.addr (P_ o 0))] cy)/\∀cz E,hnew u cz [] E->hcs E (P_ b 2) [.slice c a e]/\hcs E (P_ b 1) [.slice f d i]/\∃(c0:List Value),hsv E f 1 d c0/\AZ E 1 [vi 0] 8 (some (P_ s 0)) 0 0 d c0 fun ff fg fh a3=>hcs a3 (P_ b 2) [.slice c a e]/\∃(c1:List Value),hsv a3 c 1 a c1/\AZ a3 1 [.bool false] 1 (some (P_ cz 0)) 0 0 a c1 fun fi fj fk c2=>AC c2 (P_ o 0) 3/\∀c3,c3=hwr c2 (P_ o 0) [.slice none 0 0,.slice ff fg fh,.slice fi fj fk]->g [SV.dv (DV.addr (P_ o 0))] c3)/\(∀F G,hnew q F [] G->hcs G (P_ b 2) [.slice c a e]/\hcs G (P_ b 1) [.slice f d i]/\(∀a4 v,hnew G a4 [] v->hcs v (P_ b 2) [.slice c a e]/\hcs v (P_ b 1) [.slice f d i]/\(∃(c4:List Value),hsv v f 1 d c4/\AZ v 1 [vi 0] 8 (some (P_ a4 0)) 0 0 d c4 fun c5 c6 c7 ae=>hcs ae (P_ b 2) [.slice c a e]/\(∃(c8:List Value),hsv ae c 1 a c8/\AZ ae 1 [.bool false] 1 (some (P_ F 0)) 0 0 a c8 fun fl fm fn fo=>∀af a5,hnew fo af [.slice none 0 0,.slice none 0 0,.slice none 0 0] a5->AC a5 (P_ af 0) 3/\∀c9,c9=hwr a5 (P_ af 0) [.slice none 0 0,.slice c5 c6 c7,.slice fl fm fn]->g [SV.dv (DV.addr (P_ af 0))] c9)/\∀ag ah,hnew ae ag [.slice none 0 0,.slice none 0 0,.slice none 0 0] ah->hcs ah (P_ b 2) [.slice c a e]/\∃(da:List Value),hsv ah c 1 a da/\AZ ah 1 [.bool false] 1 (some (P_ F 0)) 0 0 a da fun fp fq fr db=>AC db (P_ ag 0) 3/\∀dc,dc=hwr db (P_ ag 0) [.slice none 0 0,.slice c5 c6 c7,.slice fp fq fr]->g [SV.dv (DV.addr (P_ ag 0))] dc)/\∀ai I,hnew v ai [.slice none 0 0,.slice none 0 0,.slice none 0 0] I->hcs I (P_ b 2) [.slice c a e]/\hcs I (P_ b 1) [.slice f d i]/\∃(dd:List Value),hsv I f 1 d dd/\AZ I 1 [vi 0] 8 (some (P_ a4 0)) 0 0 d dd fun fs ft fu a6=>hcs a6 (P_ b 2) [.slice c a e]/\∃(de:List Value),hsv a6 c 1 a de/\AZ a6 1 [.bool false] 1 (some (P_ F 0)) 0 0 a de fun fv fw fx df=>AC df (P_ ai 0) 3/\∀dg,dg=hwr df (P_ ai 0) [.slice none 0 0,.slice fs ft fu,.slice fv fw fx]->g [SV.dv (DV.addr (P_ ai 0))] dg)/\∀aj ak,hnew G aj [.slice none 0 0,.slice none 0 0,.slice none 0 0] ak->hcs ak (P_ b 2) [.slice c a e]/\hcs ak (P_ b 1) [.slice f d i]/\∀dh J,hnew ak dh [] J->hcs J (P_ b 2) [.slice c a e]/\hcs J (P_ b 1) [.slice f d i]/\∃(di:List Value),hsv J f 1 d di/\AZ J 1 [vi 0] 8 (some (P_ dh 0)) 0 0 d di fun fy fz f0 a7=>hcs a7 (P_ b 2) [.slice c a e]/\∃(dj:List Value),hsv a7 c 1 a dj/\AZ a7 1 [.bool false] 1 (some (P_ F 0)) 0 0 a dj fun f1 f2 f3 dk=>AC dk (P_ aj 0) 3/\∀dl,dl=hwr dk (P_ aj 0) [.slice none 0 0,.slice fy fz f0,.slice f1 f2 f3]->g [SV.dv (DV.addr (P_ aj 0))] dl)/\∀l K,hnew q l [.slice none 0 0,.slice none 0 0,.slice none 0 0] K->hcs K (P_ b 2) [.slice c a e]/\hcs K (P_ b 1) [.slice f d i]/\(∀a8 w,hnew K a8 [] w->hcs w (P_ b 2) [.slice c a e]/\hcs w (P_ b 1) [.slice f d i]/\(∃(dm:List Value),hsv w f 1 d dm/\AZ w 1 [vi 0] 8 (some (P_ a8 0)) 0 0 d dm fun f4 f5 f6 dn=>hcs dn (P_ b 2) [.slice c a e]/\∀dp al,hnew dn dp [] al->hcs al (P_ b 2) [.slice c a e]/\∃(dq:List Value),hsv al c 1 a dq/\AZ al 1 [.bool false] 1 (some (P_ dp 0)) 0 0 a dq fun f7 f8 f9 dr=>AC dr (P_ l 0) 3/\∀ds,ds=hwr dr (P_ l 0) [.slice none 0 0,.slice f4 f5 f6,.slice f7 f8 f9]->g [SV.dv (DV.addr (P_ l 0))] ds)/\∀dt L,hnew w dt [] L->hcs L (P_ b 2) [.slice c a e]/\hcs L (P_ b 1) [.slice f d i]/\∃(du:List Value),hsv L f 1 d du/\AZ L 1 [vi 0] 8 (some (P_ a8 0)) 0 0 d du fun ga gb gc a9=>hcs a9 (P_ b 2) [.slice c a e]/\∃(dw:List Value),hsv a9 c 1 a dw/\AZ a9 1 [.bool false] 1 (some (P_ dt 0)) 0 0 a dw fun gd ge gf dx=>AC dx (P_ l 0) 3/\∀dy,dy=hwr dx (P_ l 0) [.slice none 0 0,.slice ga gb gc,.slice gd ge gf]->g [SV.dv (DV.addr (P_ l 0))] dy)/\∀dz am,hnew K dz [] am->hcs am (P_ b 2) [.slice c a e]/\hcs am (P_ b 1) [.slice f d i]/\∀d0 M,hnew am d0 [] M->hcs M (P_ b 2) [.slice c a e]/\hcs M (P_ b 1) [.slice f d i]/\∃(d1:List Value),hsv M f 1 d d1/\AZ M 1 [vi 0] 8 (some (P_ d0 0)) 0 0 d d1 fun gg gh gi ba=>hcs ba (P_ b 2) [.slice c a e]/\∃(d2:List Value),hsv ba c 1 a d2/\AZ ba 1 [.bool false] 1 (some (P_ dz 0)) 0 0 a d2 fun gj gk gl d3=>AC d3 (P_ l 0) 3/\∀d4,d4=hwr d3 (P_ l 0) [.slice none 0 0,.slice gg gh gi,.slice gj gk gl]->g [SV.dv (DV.addr (P_ l 0))] d4
def HG:CF LE:=eD
theorem nS:AE PP 52 (WS LE HG):=ro tn Tryz.func52 (by kernel_rfl) ((show EE [] [] LE [(3,[(3,.addr)]),(58,[(4,.sc (.int .i64))])] Tryz.f52 eD from by(repeat intro _);kernel_rfl))
attribute [irreducible] HG
abbrev SA:Sg:=([.ag [Si,Si,Si,Si,Si,Si,Si],.ag [.slc,.slc,.slc]],[.bool])
def eI:GT [] SA:=fun A B C E F G I J K L M N O P R T Q h=>∀d i,hnew h d [vi A,vi B,vi C,vi E,vi F,vi G,vi I] i->∀e a,hnew i e [.slice J K L,.slice M N O,.slice P R T] a->∃f,hc a (P_ d 6)=some (vi f)/\∀(j:JT),(∀(k:H),(∀(g:JT),(∀(c:Int) (b:H),(if ltI c (IntKind.i64.wrap (2+IntKind.i64.wrap (2*f))) then ∃l m U,hc b (P_ e 0)=some (.slice l m U)/\∃n,l=some n/\0≤c/\c<m/\∃V o X,hc b (n.add (c.toNat*1))=some (.slice V o X)/\∃p,hc b (P_ d 0)=some (vi p)/\if (↑o:Int) != p then Q false b else ∃q r Y,hc b (P_ e 1)=some (.slice q r Y)/\∃s,q=some s/\0≤c/\c<r/\∃t,hc b (s.add (c.toNat*1))=some (vi t)/\if ltI t 0 then Q false b else g [.dv (.one (vi (IntKind.i64.wrap (c+1))))] b else Q true b)->g [.dv (.one (vi c))] b)->g [.dv (.one (vi 0))] k)->j [] k)->∃Z u aa,hc a (P_ e 0)=some (.slice Z u aa)/\if ((↑u:Int) != IntKind.i64.wrap (2+IntKind.i64.wrap (2*f)))=true then Q false a else ∃ab v ac,hc a (P_ e 1)=some (.slice ab v ac)/\if ((↑v:Int) != IntKind.i64.wrap (2+IntKind.i64.wrap (2*f)))=true then Q false a else ∃ad w ae,hc a (P_ e 2)=some (.slice ad w ae)/\∃x,hc a (P_ d 1)=some (vi x)/\∃y,hc a (P_ d 2)=some (vi y)/\∃z,hc a (P_ d 4)=some (vi z)/\if ((↑w:Int) != IntKind.i64.wrap (IntKind.i64.wrap (x*y)+z))=true then Q false a else j [] a
def OV:CF SA:=eI
theorem AbX:AE PP 129 (WS SA OV):=ro tn Tryz.func129 (by kernel_rfl) ((show EE [] [] SA [(7,[]),(122,[(6,.sc (.int .i64))])] Tryz.f129 eI from by(repeat intro _);kernel_rfl))
attribute [irreducible] OV
abbrev SB:Sg:=([.ag [Si,Si,Si,Si,Si,Si,Si],.ag [.slc,.slc,.slc]],[.ptr,Ti])
def eJ:GT [LF,LE,SA] SB:=fun c0 c1 c2 ad ae af ag ah ai aj ak al am an ao ap aq ar au Q h=>∀a n,hnew h a [vi ad,vi ae,vi af,vi ag,vi ah,vi ai,vi aj] n->∀e d,hnew n e [.slice ak al am,.slice an ao ap,.slice aq ar au] d->∃o,hc d (P_ a 0)=some (vi o)/\∃p,hc d (P_ a 1)=some (vi p)/\∃q,hc d (P_ a 2)=some (vi q)/\∃r,hc d (P_ a 3)=some (vi r)/\∃s,hc d (P_ a 4)=some (vi s)/\∃t,hc d (P_ a 5)=some (vi t)/\∃u,hc d (P_ a 6)=some (vi u)/\c0 o p q r s t u (fun v b=>if v != 0 then Q none v b else ∃w,hc b (P_ a 0)=some (vi w)/\∃x,hc b (P_ a 1)=some (vi x)/\∃y,hc b (P_ a 2)=some (vi y)/\∃z,hc b (P_ a 3)=some (vi z)/\∃A,hc b (P_ a 4)=some (vi A)/\∃B,hc b (P_ a 5)=some (vi B)/\∃C,hc b (P_ a 6)=some (vi C)/\∃E F G,hc b (P_ e 0)=some (.slice E F G)/\∃I J K,hc b (P_ e 1)=some (.slice I J K)/\∃L M N,hc b (P_ e 2)=some (.slice L M N)/\c2 w x y z A B C E F G I J K L M N (fun av c=>if !av then Q none 5 c else ∃f,hc c (P_ a 0)=some (vi f)/\∃g,hc c (P_ a 1)=some (vi g)/\∃i,hc c (P_ a 2)=some (vi i)/\∃j,hc c (P_ a 3)=some (vi j)/\∃k,hc c (P_ a 4)=some (vi k)/\∃l,hc c (P_ a 5)=some (vi l)/\∃m,hc c (P_ a 6)=some (vi m)/\∃O P R,hc c (P_ e 0)=some (.slice O P R)/\∃T U V,hc c (P_ e 1)=some (.slice T U V)/\∃X Y Z,hc c (P_ e 2)=some (.slice X Y Z)/\c1 O P R T U V X Y Z (fun aw ax ay az a0 a1 a2 a3 a4 aa=>hcs aa (P_ a 0) [vi f,vi g,vi i,vi j,vi k,vi l,vi m]/\∀ab ac,hnew aa ab [vi f,vi g,vi i,vi j,vi k,vi l,vi m,.slice aw ax ay,.slice az a0 a1,.slice a2 a3 a4,vi 0,.bool false,vi (-1),.slice none 0 0] ac->Q (some (P_ ab 0)) 0 ac) c) b) d
def OW:CF SB:=eJ JP HG OV
theorem AbY:AE PP 49 (WS SB OW):=ro (tc nT (tc nS (tc AbX tn))) Tryz.func49 (by kernel_rfl) ((show EE [(23,LF),(52,LE),(129,SA)] [] SB [] Tryz.f49 eJ from by(repeat intro _);kernel_rfl) JP HG OV)
attribute [irreducible] OW
abbrev S1:Sg:=([.slc,.fn],[Ti])
def fQ:GT [] S1:=fun n d q o Q h=>∀(c:JT),(∀(a:Int) (b:H),(if ltI a d then ∃e,n=some e/\0≤a/\a<d/\∃f g i,hc b (e.add (a.toNat*1))=some (.slice f g i)/\HM PP o [DV.one (.slice f g i)] (fun p j=>∃(k:DV),∃(l:List DV),p=k::l/\∃(m:Bool),k=DV.one (.bool m)/\l=[]/\if m then Q a j else c [.dv (.one (vi (IntKind.i64.wrap (a+1))))] j) b else Q (-1) b)->c [.dv (.one (vi a))] b)->c [.dv (.one (vi 0))] h
def TU:CF S1:=fQ
theorem AcM:AE PP 205 (WS S1 TU):=ro tn Tryz.func205 (by kernel_rfl) ((show EE [] [] S1 [(26,[(8,.sc (.int .i64))])] Tryz.f205 fQ from by(repeat intro _);kernel_rfl))
attribute [irreducible] TU
abbrev SZ:Sg:=([.slc,.fn],[.bool])
def fO:GT [S1] SZ:=fun c0 a b c d Q h=>c0 a b c d (fun e f=>Q (leI 0 e) f) h
def PB:CF SZ:=fO TU
theorem AcK:AE PP 131 (WS SZ PB):=ro (tc AcM tn) Tryz.func131 (by kernel_rfl) ((show EE [(205,S1)] [] SZ [] Tryz.f131 fO from by(repeat intro _);kernel_rfl) TU)
attribute [irreducible] PB
abbrev S2:Sg:=([.slc,.fn],[Ti])
def fR:GT [] S2:=fun l d o m Q h=>∀(c:JT),(∀(a:Int) (b:H),(if ltI a d then ∃e,l=some e/\0≤a/\a<d/\∃f,hc b (e.add (a.toNat*1))=some (vi f)/\HM PP m [DV.one (vi f)] (fun n g=>∃(i:DV),∃(j:List DV),n=i::j/\∃(k:Bool),i=DV.one (.bool k)/\j=[]/\if k then Q a g else c [.dv (.one (vi (IntKind.i64.wrap (a+1))))] g) b else Q (-1) b)->c [.dv (.one (vi a))] b)->c [.dv (.one (vi 0))] h
def TV:CF S2:=fR
theorem AcN:AE PP 206 (WS S2 TV):=ro tn Tryz.func206 (by kernel_rfl) ((show EE [] [] S2 [(26,[(8,.sc (.int .i64))])] Tryz.f206 fR from by(repeat intro _);kernel_rfl))
attribute [irreducible] TV
abbrev S0:Sg:=([.slc,.fn],[.bool])
def fP:GT [S2] S0:=fun c0 a b c d Q h=>c0 a b c d (fun e f=>Q (leI 0 e) f) h
def PC:CF S0:=fP TV
theorem AcL:AE PP 133 (WS S0 PC):=ro (tc AcN tn) Tryz.func133 (by kernel_rfl) ((show EE [(206,S2)] [] S0 [] Tryz.f133 fP from by(repeat intro _);kernel_rfl) TV)
attribute [irreducible] PC
abbrev QQ:Sg:=([.ag [Si,Si,Si,Si,Si,Si,Si],.ag [.slc,.slc,.slc]],[.ptr,Ti])
def aU:GT [H8,KX,KW,QT,SZ,S0] QQ:=fun c0 c1 c2 c3 c4 c5 a5 a6 a7 a8 a9 ba bb bc bd be bf bg bh bi bj bk Q h=>∀a v,hnew h a [vi a5,vi a6,vi a7,vi a8,vi a9,vi ba,vi bb] v->∀c g,hnew v c [.slice bc bd be,.slice bf bg bh,.slice bi bj bk] g->∃w,hc g (P_ a 0)=some (vi w)/\∃x,hc g (P_ a 1)=some (vi x)/\∃y,hc g (P_ a 2)=some (vi y)/\∃z,hc g (P_ a 3)=some (vi z)/\∃A,hc g (P_ a 4)=some (vi A)/\∃B,hc g (P_ a 5)=some (vi B)/\∃C,hc g (P_ a 6)=some (vi C)/\c0 w x y z A B C (fun E f=>if E != 0 then Q none E f else ∀(i:JT),(∀(F:Bool) (b:H),(if F then Q none 5 b else ∃k,hc b (P_ a 0)=some (vi k)/\∃l,hc b (P_ a 1)=some (vi l)/\∃m,hc b (P_ a 2)=some (vi m)/\∃n,hc b (P_ a 3)=some (vi n)/\∃o,hc b (P_ a 4)=some (vi o)/\∃p,hc b (P_ a 5)=some (vi p)/\∃q,hc b (P_ a 6)=some (vi q)/\∃G I J,hc b (P_ c 0)=some (.slice G I J)/\∃K L M,hc b (P_ c 1)=some (.slice K L M)/\∃N O P,hc b (P_ c 2)=some (.slice N O P)/\c3 G I J K L M N O P (fun bl bm bn bo bp bq br bs bt R=>hcs R (P_ a 0) [vi k,vi l,vi m,vi n,vi o,vi p,vi q]/\∀T U,hnew R T [vi k,vi l,vi m,vi n,vi o,vi p,vi q,.slice bl bm bn,.slice bo bp bq,.slice br bs bt,vi 0,.bool false,vi (-1),.slice none 0 0] U->Q (some (P_ T 0)) 0 U) b)->i [.dv (.one (.bool F))] b)->∃V r X,hc f (P_ c 0)=some (.slice V r X)/\∃Y,hc f (P_ a 0)=some (vi Y)/\∃Z,hc f (P_ a 1)=some (vi Z)/\∃aa,hc f (P_ a 2)=some (vi aa)/\∃ab,hc f (P_ a 3)=some (vi ab)/\∃ac,hc f (P_ a 4)=some (vi ac)/\∃ad,hc f (P_ a 5)=some (vi ad)/\∃ae,hc f (P_ a 6)=some (vi ae)/\c1 Y Z aa ab ac ad ae (fun bu d=>hcs d (P_ c 0) [.slice V r X]/\if (↑r:Int) != bu then i [.dv (.one (.bool true))] d else ∃af s ag,hc d (P_ c 1)=some (.slice af s ag)/\∃ah,hc d (P_ a 0)=some (vi ah)/\∃ai,hc d (P_ a 1)=some (vi ai)/\∃aj,hc d (P_ a 2)=some (vi aj)/\∃ak,hc d (P_ a 3)=some (vi ak)/\∃al,hc d (P_ a 4)=some (vi al)/\∃am,hc d (P_ a 5)=some (vi am)/\∃an,hc d (P_ a 6)=some (vi an)/\c1 ah ai aj ak al am an (fun bv e=>hcs e (P_ c 1) [.slice af s ag]/\if (↑s:Int) != bv then i [.dv (.one (.bool true))] e else ∃ao t ap,hc e (P_ c 2)=some (.slice ao t ap)/\∃aq,hc e (P_ a 0)=some (vi aq)/\∃ar,hc e (P_ a 1)=some (vi ar)/\∃au,hc e (P_ a 2)=some (vi au)/\∃av,hc e (P_ a 3)=some (vi av)/\∃aw,hc e (P_ a 4)=some (vi aw)/\∃ax,hc e (P_ a 5)=some (vi ax)/\∃ay,hc e (P_ a 6)=some (vi ay)/\c2 aq ar au av aw ax ay (fun bw j=>hcs j (P_ c 2) [.slice ao t ap]/\if (↑t:Int) != bw then i [.dv (.one (.bool true))] j else ∃az a0 a1,hc j (P_ c 0)=some (.slice az a0 a1)/\c4 az a0 a1 (.func (Fn.func rV) (Array.mk []) (Array.mk [.pointer (some (P_ a 0))])) (fun bx u=>if bx then i [.dv (.one (.bool true))] u else ∃a2 a3 a4,hc u (P_ c 1)=some (.slice a2 a3 a4)/\c5 a2 a3 a4 (.func (Fn.func rW) (Array.mk []) (Array.mk [])) (fun bz b0=>i [.dv (.one (.bool bz))] b0) u) j) e) d) f) g
def JC:CF QQ:=aU GN IM IL NL PB PC
theorem AaF:AE PP 51 (WS QQ JC):=ro (tc gP (tc mQ (tc mP (tc AaK (tc AcK (tc AcL tn)))))) Tryz.func51 (by kernel_rfl) ((show EE [(90,H8),(91,KX),(92,KW),(114,QT),(131,SZ),(133,S0)] [] QQ [(7,[(7,.sc (.bool))])] Tryz.f51 aU from by(repeat intro _);kernel_rfl) GN IM IL NL PB PC)
attribute [irreducible] JC
abbrev RU:Sg:=([.ag [Si,Si,Si,Si,Si,Si,Si],.slc,.ag [.slc,.slc,.slc]],[.ptr,.bool])
def dM:GT [SJ,LB,SB,SC,QQ,LE,K2] RU:=fun c0 c1 c2 c3 c4 c5 c6 av aw ax ay az a0 a1 t u v a2 a3 a4 a5 a6 a7 a8 a9 ba Q h=>∀a w,hnew h a [vi av,vi aw,vi ax,vi ay,vi az,vi a0,vi a1] w->∀f x,hnew w f [.slice a2 a3 a4,.slice a5 a6 a7,.slice a8 a9 ba] x->c0 t u v (fun bb bc bu b=>∃y,hc b (P_ a 0)=some (vi y)/\∃z,hc b (P_ a 1)=some (vi z)/\∃A,hc b (P_ a 2)=some (vi A)/\∃B,hc b (P_ a 3)=some (vi B)/\∃C,hc b (P_ a 4)=some (vi C)/\∃E,hc b (P_ a 5)=some (vi E)/\∃F,hc b (P_ a 6)=some (vi F)/\∃G I J,hc b (P_ f 0)=some (.slice G I J)/\∃K L M,hc b (P_ f 1)=some (.slice K L M)/\∃N O P,hc b (P_ f 2)=some (.slice N O P)/\c2 y z A B C E F G I J K L M N O P (fun bd R d=>∀(j:JT),(∀(k:OA) (T:Int) (g:H),(∀(U:JT),(∀(V:H),c6 t u v (fun X be bv c=>∃l,hc c (P_ a 0)=some (vi l)/\∃m,hc c (P_ a 1)=some (vi m)/\∃n,hc c (P_ a 2)=some (vi n)/\∃o,hc c (P_ a 3)=some (vi o)/\∃p,hc c (P_ a 4)=some (vi p)/\∃q,hc c (P_ a 5)=some (vi q)/\∃r,hc c (P_ a 6)=some (vi r)/\∃i,k=some i/\∃Y Z aa,hc c (i.add 7)=some (.slice Y Z aa)/\∃ab ac ad,hc c (i.add 8)=some (.slice ab ac ad)/\∃ae af ag,hc c (i.add 9)=some (.slice ae af ag)/\c5 Y Z aa ab ac ad ae af ag (fun bf bg bh bi bj bk bl bm bn ah=>hcs ah (P_ a 0) [vi l,vi m,vi n,vi o,vi p,vi q,vi r]/\c4 l m n o p q r bf bg bh bi bj bk bl bm bn (fun ai bo e=>∀(aj:JT),(∀(ak:H),(∀s al,hnew ak s [.pointer ai,.pointer none,.pointer X,.pointer none,.pointer k,.pointer bb] al->c1 (P_ s 0) (fun bp bq=>Q (some (P_ s 0)) bp bq) al)->aj [] ak)->if X.isNone=true then Q none false e else if ai.isNone=true then Q none false e else if be != 0 then Q none false e else if bo != 0 then Q none false e else aj [] e) ah) c) V->U [] V)->if bc != 0 then Q none true g else if T != 0 then Q none true g else U [] g)->j [.dv (.one (.pointer k)),.dv (.one (vi T))] g)->if R == 5 then ∃am,hc d (P_ a 0)=some (vi am)/\∃an,hc d (P_ a 1)=some (vi an)/\∃ao,hc d (P_ a 2)=some (vi ao)/\∃ap,hc d (P_ a 3)=some (vi ap)/\∃aq,hc d (P_ a 4)=some (vi aq)/\∃ar,hc d (P_ a 5)=some (vi ar)/\∃au,hc d (P_ a 6)=some (vi au)/\c3 am an ao ap aq ar au (fun br bs bt=>j [.dv (.one (.pointer br)),.dv (.one (vi bs))] bt) d else j [.dv (.one (.pointer bd)),.dv (.one (vi R))] d) b) x
def OK:CF RU:=dM LV GP OW OX JC HG HF
theorem AbJ:AE PP 38 (WS RU OK):=ro (tc Ac6 (tc nP (tc AbY (tc AbZ (tc AaF (tc nS (tc nF tn))))))) Tryz.func38 (by kernel_rfl) ((show EE [(21,SJ),(44,LB),(49,SB),(50,SC),(51,QQ),(52,LE),(59,K2)] [] RU [(15,[(11,.sc (.ptr)),(12,.sc (.int .i64))]),(31,[]),(255,[])] Tryz.f38 dM from by(repeat intro _);kernel_rfl) LV GP OW OX JC HG HF)
attribute [irreducible] OK
abbrev RV:Sg:=([.slc,.slc],[.bool])
def dN:GT [] RV:=fun k c m l e n Q h=>if ltI (↑e:Int) (↑c:Int) then Q false h else ∀(d:JT),(∀(a:Int) (b:H),(if ltI a c then ∃f,k=some f/\0≤a/\a<c/\∃g,hc b (f.add (a.toNat*1))=some (.int .u8 g)/\∃i,l=some i/\0≤a/\a<e/\∃j,hc b (i.add (a.toNat*1))=some (.int .u8 j)/\if bits .andNot .u8 g j != 0 then Q false b else d [.dv (.one (vi (IntKind.i64.wrap (a+1))))] b else Q true b)->d [.dv (.one (vi a))] b)->d [.dv (.one (vi 0))] h
def OL:CF RV:=dN
theorem AbK:AE PP 126 (WS RV OL):=ro tn Tryz.func126 (by kernel_rfl) ((show EE [] [] RV [(58,[(5,.sc (.int .i64))])] Tryz.f126 dN from by(repeat intro _);kernel_rfl))
attribute [irreducible] OL
abbrev RZ:Sg:=([.addr,.ag [Si,Si,Si,.slc,.row .u8 32]],[.bool])
def dQ:GT [GJ,RV] RZ:=fun c0 c1 e aa ab ac ad ae af ag Q h=>∀f d,hnew h f (vi aa::vi ab::vi ac::.slice ad ae af::(AA .u8 ag++[])) d->∃p,hc d (P_ f 0)=some (vi p)/\∃q,hc d (P_ f 1)=some (vi q)/\∃r,hc d (P_ f 2)=some (vi r)/\∃s t u,hc d (P_ f 3)=some (.slice s t u)/\∃(l:List Int),l.length=32/\hrow d (P_ f 4) .u8 l/\c0 p q r s t u l (fun g i v ah=>∀(c:JT),(∀(b:Int) (a:H),(∃ai w aj,hc a e=some (.slice ai w aj)/\if ltI b w then ∃x y ak,hc a e=some (.slice x y ak)/\∃z,x=some z/\0≤b/\b<y/\∃al A am,hc a (z.add (b.toNat*1))=some (.slice al A am)/\if leI 48 A then ∃m n B,hc a e=some (.slice m n B)/\∃o,m=some o/\0≤b/\b<n/\∃j k C,hc a (o.add (b.toNat*1))=some (.slice j k C)/\(∃(E:List Int),hsv a j 1 k (AA .u8 E)/\∃(F:List Int),hsv a g 1 i (AA .u8 F)/\if !(bytesOf E).toList == (bytesOf F).toList then ∃G I an,hc a e=some (.slice G I an)/\∃J,G=some J/\0≤b/\b<I/\∃K L M,hc a (J.add (b.toNat*1))=some (.slice K L M)/\c1 K L M g i v (fun ao N=>if ao then Q true N else c [.dv (.one (vi (IntKind.i64.wrap (b+1))))] N) a else c [.dv (.one (vi (IntKind.i64.wrap (b+1))))] a)/\∃(O:List Int),hsv a g 1 i (AA .u8 O)/\hcs a (o.add (b.toNat*1)) [.slice j k C]/\hcs a e [.slice m n B]/\∃(P:List Int),hsv a j 1 k (AA .u8 P)/\if !(bytesOf P).toList == (bytesOf O).toList then ∃R T ap,hc a e=some (.slice R T ap)/\∃U,R=some U/\0≤b/\b<T/\∃V X Y,hc a (U.add (b.toNat*1))=some (.slice V X Y)/\c1 V X Y g i v (fun aq Z=>if aq then Q true Z else c [.dv (.one (vi (IntKind.i64.wrap (b+1))))] Z) a else c [.dv (.one (vi (IntKind.i64.wrap (b+1))))] a else c [.dv (.one (vi (IntKind.i64.wrap (b+1))))] a/\c [.dv (.one (vi (IntKind.i64.wrap (b+1))))] a else Q false a)->c [.dv (.one (vi b))] a)->c [.dv (.one (vi 0))] ah) d
def ON:CF RZ:=dQ FP OL
theorem AbN:AE PP 45 (WS RZ ON):=ro (tc WB (tc AbK tn)) Tryz.func45 (by kernel_rfl) ((show EE [(30,GJ),(126,RV)] [] RZ [(58,[(6,.sc (.int .i64))])] Tryz.f45 dQ from by(repeat intro _);kernel_rfl) FP OL)
attribute [irreducible] ON
abbrev RY:Sg:=([.addr,.ag [Si,Si,Si,.slc,.row .u8 32]],[.bool])
def dP:GT [GJ] RY:=fun c0 i C E F G I J K Q h=>∀d c,hnew h d (vi C::vi E::vi F::.slice G I J::(AA .u8 K++[])) c->∃n,hc c (P_ d 0)=some (vi n)/\∃o,hc c (P_ d 1)=some (vi o)/\∃p,hc c (P_ d 2)=some (vi p)/\∃q r s,hc c (P_ d 3)=some (.slice q r s)/\∃(j:List Int),j.length=32/\hrow c (P_ d 4) .u8 j/\c0 n o p q r s j (fun t u O L=>∀(e:JT),(∀(b:Int) (a:H),(∃M v N,hc a i=some (.slice M v N)/\if ltI b v then ∃k l w,hc a i=some (.slice k l w)/\∃m,k=some m/\0≤b/\b<l/\∃f g x,hc a (m.add (b.toNat*1))=some (.slice f g x)/\(∃(y:List Int),hsv a f 1 g (AA .u8 y)/\∃(z:List Int),hsv a t 1 u (AA .u8 z)/\if (bytesOf y).toList == (bytesOf z).toList then Q true a else e [.dv (.one (vi (IntKind.i64.wrap (b+1))))] a)/\∃(A:List Int),hsv a t 1 u (AA .u8 A)/\hcs a (m.add (b.toNat*1)) [.slice f g x]/\hcs a i [.slice k l w]/\∃(B:List Int),hsv a f 1 g (AA .u8 B)/\if (bytesOf B).toList == (bytesOf A).toList then Q true a else e [.dv (.one (vi (IntKind.i64.wrap (b+1))))] a else Q false a)->e [.dv (.one (vi b))] a)->e [.dv (.one (vi 0))] L) c
def OM:CF RY:=dP FP
theorem AbM:AE PP 46 (WS RY OM):=ro (tc WB tn) Tryz.func46 (by kernel_rfl) ((show EE [(30,GJ)] [] RY [(58,[(6,.sc (.int .i64))])] Tryz.f46 dP from by(repeat intro _);kernel_rfl) FP)
attribute [irreducible] OM
abbrev YY:Sg:=([.ag [Si,Si,Si,Si,Si,Si,Si],.slc,.slc],[.bool])
def dK:GT [S6,S4,QN,SH,GJ,RT,RU,QO,YU,YT,E1,QP,LB,RZ,RY] YY:=fun c0 c1 c2 c3 c4 c5 c6 c7 c8 c9 c10 c11 c12 c13 c14 eo ep eq er es et eu ev ew ex ey a5 ge Q h=>∀o a6,hnew h o [vi eo,vi ep,vi eq,vi er,vi es,vi et,vi eu] a6->c5 (fun ez m=>if !ez then Q false m else ∃a7,hc m (P_ o 0)=some (vi a7)/\∃a8,hc m (P_ o 1)=some (vi a8)/\∃a9,hc m (P_ o 2)=some (vi a9)/\∃ba,hc m (P_ o 3)=some (vi ba)/\∃bb,hc m (P_ o 4)=some (vi bb)/\∃bc,hc m (P_ o 5)=some (vi bc)/\∃bd,hc m (P_ o 6)=some (vi bd)/\c6 a7 a8 a9 ba bb bc bd ev ew ex none 0 0 none 0 0 none 0 0 (fun f ae af=>∀(be:JT),(∀(bf:H),(∀u bg,hnew bf u [.slice none 0 0] bg->∀(d:JT),(∀(b:Int) (v:H),(if ltI b a5 then ∃C,ey=some C/\0≤b/\b<a5/\∃bh,hc v (C.add (b.toNat*4))=some (vi bh)/\∃bi,hc v ((C.add (b.toNat*4)).add 1)=some (vi bi)/\∃bj,hc v ((C.add (b.toNat*4)).add 2)=some (vi bj)/\∃bk bl bm,hc v ((C.add (b.toNat*4)).add 3)=some (.slice bk bl bm)/\∀e ag,hnew v e [vi 0,vi 0,vi 0,.slice none 0 0] ag->AC ag (P_ e 0) 4/\∀p,p=hwr ag (P_ e 0) [vi bh,vi bi,vi bj,.slice bk bl bm]->∃bn,hc p (P_ e 0)=some (vi bn)/\if bn == 5 then ∃J,f=some J/\∃K,hc p J=some (.pointer K)/\∃L,hc p (P_ e 1)=some (vi L)/\∃ah M bo,hc p (P_ e 3)=some (.slice ah M bo)/\∀bp y,hnew p bp [] y->hcs y (P_ e 3) [.slice ah M bo]/\hcs y (P_ e 1) [vi L]/\hcs y J [.pointer K]/\∃(bq:List Value),hsv y ah 1 M bq/\AZ y 1 [.int .u8 0] 1 (some (P_ bp 0)) 0 0 M bq fun e0 e1 e2 ai=>hcs ai (P_ e 1) [vi L]/\hcs ai J [.pointer K]/\∃br,K=some br/\c7 br L e0 e1 e2 (fun e3=>d [.dv (.one (vi (IntKind.i64.wrap (b+1))))] e3) ai else ∃bs,f=some bs/\∃bt,hc p (bs.add 3)=some (.pointer bt)/\∃bu,bt=some bu/\c8 bu (fun e4 e5 e6 e7 e8 e9 fa fb fc fd=>∀q aj,hnew fd q (vi 0::vi 0::vi 0::.slice none 0 0::AA .u8 (AB 32)) aj->AC aj (P_ q 0) 36/\∀ak,ak=hwr aj (P_ q 0) (vi e4::vi e5::vi e6::.slice e7 e8 e9::(AA .u8 fa++[]))->∃bv,f=some bv/\∃bw,hc ak bv=some (.pointer bw)/\∃bx,bw=some bx/\c2 bx (fun z l=>∀(E:JT),(∀(g:Int) (al:H),(∀(am:JT),(∀(an:H),(∃bz,f=some bz/\∃b0,hc an (bz.add 3)=some (.pointer b0)/\∃b1,b0=some b1/\c8 b1 (fun fe ff fg fh fi fj fk ao r fl=>∀c ap,hnew fl c (vi 0::vi 0::vi 0::.slice none 0 0::AA .u8 (AB 32)) ap->AC ap (P_ c 0) 36/\∀s,s=hwr ap (P_ c 0) (vi fe::vi ff::vi fg::.slice fh fi fj::(AA .u8 fk++[]))->∀(aq:JT),(∀(k:H),(∀(F:JT),(∀(i:H),(∃b2,hc i (P_ e 0)=some (vi b2)/\if b2 != 2 then d [.dv (.one (vi (IntKind.i64.wrap (b+1))))] i else ∀(w:JT),(∀(N:Bool) (j:H),(∀(O:JT),(∀(n:Bool) (a:H),(if g == 0 then if !N then Q false a else if g == 8 then if !N then if !n then Q false a else if g != 0 then if g != 8 then if !n then Q false a else ∃b3,f=some b3/\∃b4,hc a b3=some (.pointer b4)/\∃b5,b4=some b5/\c2 b5 (fun fm b6=>if fm != z then Q false b6 else d [.dv (.one (vi (IntKind.i64.wrap (b+1))))] b6) a else d [.dv (.one (vi (IntKind.i64.wrap (b+1))))] a else d [.dv (.one (vi (IntKind.i64.wrap (b+1))))] a else if g != 0 then if g != 8 then if !n then Q false a else ∃b7,f=some b7/\∃b8,hc a b7=some (.pointer b8)/\∃b9,b8=some b9/\c2 b9 (fun fn ca=>if fn != z then Q false ca else d [.dv (.one (vi (IntKind.i64.wrap (b+1))))] ca) a else d [.dv (.one (vi (IntKind.i64.wrap (b+1))))] a else d [.dv (.one (vi (IntKind.i64.wrap (b+1))))] a else if g != 0 then if g != 8 then if !n then Q false a else ∃cb,f=some cb/\∃cc,hc a cb=some (.pointer cc)/\∃cd,cc=some cd/\c2 cd (fun fo ce=>if fo != z then Q false ce else d [.dv (.one (vi (IntKind.i64.wrap (b+1))))] ce) a else d [.dv (.one (vi (IntKind.i64.wrap (b+1))))] a else d [.dv (.one (vi (IntKind.i64.wrap (b+1))))] a else if g == 8 then if !N then if !n then Q false a else if g != 0 then if g != 8 then if !n then Q false a else ∃cf,f=some cf/\∃cg,hc a cf=some (.pointer cg)/\∃ch,cg=some ch/\c2 ch (fun fp ci=>if fp != z then Q false ci else d [.dv (.one (vi (IntKind.i64.wrap (b+1))))] ci) a else d [.dv (.one (vi (IntKind.i64.wrap (b+1))))] a else d [.dv (.one (vi (IntKind.i64.wrap (b+1))))] a else if g != 0 then if g != 8 then if !n then Q false a else ∃cj,f=some cj/\∃ck,hc a cj=some (.pointer ck)/\∃cl,ck=some cl/\c2 cl (fun fq cm=>if fq != z then Q false cm else d [.dv (.one (vi (IntKind.i64.wrap (b+1))))] cm) a else d [.dv (.one (vi (IntKind.i64.wrap (b+1))))] a else d [.dv (.one (vi (IntKind.i64.wrap (b+1))))] a else if g != 0 then if g != 8 then if !n then Q false a else ∃cn,f=some cn/\∃co,hc a cn=some (.pointer co)/\∃cp,co=some cp/\c2 cp (fun fr cq=>if fr != z then Q false cq else d [.dv (.one (vi (IntKind.i64.wrap (b+1))))] cq) a else d [.dv (.one (vi (IntKind.i64.wrap (b+1))))] a else d [.dv (.one (vi (IntKind.i64.wrap (b+1))))] a)->O [.dv (.one (.bool n))] a)->if fc == r then if fb == ao then ∃cr,hc j (P_ q 0)=some (vi cr)/\∃cs,hc j (P_ q 1)=some (vi cs)/\∃ct,hc j (P_ q 2)=some (vi ct)/\∃cu cv cw,hc j (P_ q 3)=some (.slice cu cv cw)/\∃(ar:List Int),ar.length=32/\hrow j (P_ q 4) .u8 ar/\∃cx,hc j (P_ c 0)=some (vi cx)/\∃cy,hc j (P_ c 1)=some (vi cy)/\∃cz,hc j (P_ c 2)=some (vi cz)/\∃c0 c1 c2,hc j (P_ c 3)=some (.slice c0 c1 c2)/\∃(au:List Int),au.length=32/\hrow j (P_ c 4) .u8 au/\c3 cr cs ct cu cv cw ar cx cy cz c0 c1 c2 au (fun fs ft=>O [.dv (.one (.bool fs))] ft) j else O [.dv (.one (.bool false))] j else O [.dv (.one (.bool false))] j)->w [.dv (.one (.bool N))] j)->if r == 0 then ∃P,hc i (P_ c 0)=some (vi P)/\∃R,hc i (P_ c 1)=some (vi R)/\∃T,hc i (P_ c 2)=some (vi T)/\∃U V X,hc i (P_ c 3)=some (.slice U V X)/\∃(G:List Int),G.length=32/\hrow i (P_ c 4) .u8 G/\∃A B av,hc i (P_ e 3)=some (.slice A B av)/\c4 P R T U V X G (fun c3 c4 gf t=>hcs t (P_ e 3) [.slice A B av]/\(∃(c5:List Int),hsv t c3 1 c4 (AA .u8 c5)/\hcs t (P_ e 3) [.slice A B av]/\∃(c6:List Int),hsv t A 1 B (AA .u8 c6)/\w [.dv (.one (.bool ((bytesOf c5).toList == (bytesOf c6).toList)))] t)/\∃(c7:List Int),hsv t A 1 B (AA .u8 c7)/\∃(c8:List Int),hsv t c3 1 c4 (AA .u8 c8)/\w [.dv (.one (.bool ((bytesOf c8).toList == (bytesOf c7).toList)))] t) i/\∃(c9:List Int),hsv i A 1 B (AA .u8 c9)/\hcs i (P_ c 0) (vi P::vi R::vi T::.slice U V X::(AA .u8 G++[]))/\c4 P R T U V X G (fun fu fv gg da=>∃(db:List Int),hsv da fu 1 fv (AA .u8 db)/\w [.dv (.one (.bool ((bytesOf db).toList == (bytesOf c9).toList)))] da) i else (w [.dv (.one (.bool false))] i/\w [.dv (.one (.bool false))] i)/\w [.dv (.one (.bool false))] i)->F [] i)->if r == 0 then ∃dc,hc k (P_ c 0)=some (vi dc)/\∃dd,hc k (P_ c 1)=some (vi dd)/\∃de,hc k (P_ c 2)=some (vi de)/\∃df dg dh,hc k (P_ c 3)=some (.slice df dg dh)/\∃(aw:List Int),aw.length=32/\hrow k (P_ c 4) .u8 aw/\c14 (P_ u 0) dc dd de df dg dh aw (fun fw x=>if !fw then Q false x else if r != 0 then if r != 17 then Q false x else ∃fx di fy,hc x (P_ c 3)=some (.slice fx di fy)/\if (↑di:Int) != 0 then Q false x else if ao != 0 then Q false x else F [] x else F [] x) k else if r != 0 then if r != 17 then Q false k else ∃fz dj f0,hc k (P_ c 3)=some (.slice fz dj f0)/\if (↑dj:Int) != 0 then Q false k else if ao != 0 then Q false k else F [] k else F [] k)->aq [] k)->if r == 0 then ∃dk,hc s (P_ c 0)=some (vi dk)/\∃dl,hc s (P_ c 1)=some (vi dl)/\∃dm,hc s (P_ c 2)=some (vi dm)/\∃dn dp dq,hc s (P_ c 3)=some (.slice dn dp dq)/\∃(ax:List Int),ax.length=32/\hrow s (P_ c 4) .u8 ax/\c13 (P_ u 0) dk dl dm dn dp dq ax (fun f1 dr=>if f1 then Q true dr else aq [] dr) s else aq [] s) an)->am [] an)->∃ds,f=some ds/\∃dt,hc al ds=some (.pointer dt)/\∃du,dt=some du/\c10 du (fun f2 ay=>if f2 then ∃dw,f=some dw/\∃dx,hc ay dw=some (.pointer dx)/\∃dy,dx=some dy/\c11 dy (fun az=>∃dz,f=some dz/\∃d0,hc az (dz.add 4)=some (.pointer d0)/\∃a0,d0=some a0/\AC az (a0.add 11) 1/\∀d1,d1=hwr az (a0.add 11) [.bool false]->∃d2,f=some d2/\c12 d2 (fun f3 d3=>if !f3 then Q false d3 else am [] d3) d1) ay else am [] ay) al)->E [.dv (.one (vi g))] al)->∃Y,hc l (P_ e 0)=some (vi Y)/\if Y == 2 then ∃a1 a2 a3,hc l (P_ u 0)=some (.slice a1 a2 a3)/\∃d4 d5 d6,hc l (P_ e 3)=some (.slice d4 d5 d6)/\∀d7 Z,hnew l d7 [.slice d4 d5 d6] Z->hcs Z (P_ u 0) [.slice a1 a2 a3]/\∃(d8:List Value),hsv Z (some (P_ d7 0)) 1 1 d8/\AZ Z 1 [.slice none 0 0] 24 a1 a2 a3 1 d8 fun f4 f5 f6 d9=>AC d9 (P_ u 0) 1/\∀aa,aa=hwr d9 (P_ u 0) [.slice f4 f5 f6]->∃ab,f=some ab/\∃ac,hc aa (ab.add 3)=some (.pointer ac)/\∃a4 ad ea,hc aa (P_ e 3)=some (.slice a4 ad ea)/\∀eb I,hnew aa eb [] I->hcs I (P_ e 3) [.slice a4 ad ea]/\hcs I (ab.add 3) [.pointer ac]/\∃(ec:List Value),hsv I a4 1 ad ec/\AZ I 1 [.int .u8 0] 1 (some (P_ eb 0)) 0 0 ad ec fun f7 f8 f9 ed=>hcs ed (ab.add 3) [.pointer ac]/\∃ee,ac=some ee/\c9 ee f7 f8 f9 (fun ga gb=>E [.dv (.one (vi ga))] gb) ed else if Y == 3 then ∃ef,f=some ef/\∃eg,hc l (ef.add 1)=some (.pointer eg)/\∃eh,hc l (P_ e 1)=some (vi eh)/\∃ei,hc l (P_ e 2)=some (vi ei)/\∃ej,eg=some ej/\c1 ej eh ei (fun gh gc=>E [.dv (.one (vi 0))] gc) l else if Y == 4 then ∃ek,f=some ek/\∃el,hc l (ek.add 1)=some (.pointer el)/\∃em,hc l (P_ e 1)=some (vi em)/\∃en,el=some en/\c0 en em (fun gi gd=>E [.dv (.one (vi 0))] gd) l else E [.dv (.one (vi 0))] l) ak) p else Q true v)->d [.dv (.one (vi b))] v)->d [.dv (.one (vi 0))] bg)->be [] bf)->if f.isNone=true then Q ae af else if !ae then Q ae af else be [] af) m) a6
def TO:CF YY:=dK PF PD NG O2 FP OJ OK NH IP JG EU NI GP ON OM
theorem AbH:AE PP 6 (WS YY TO):=ro (tc AcS (tc AcQ (tc AaA (tc Ac4 (tc WB (tc AbI (tc AbJ (tc AaB (tc gS (tc nH (tc PJ (tc AaC (tc nP (tc AbN (tc AbM tn))))))))))))))) Tryz.func6 (by kernel_rfl) ((show EE [(11,S6),(25,S4),(26,QN),(29,SH),(30,GJ),(37,RT),(38,RU),(39,QO),(40,YU),(41,YT),(42,E1),(43,QP),(44,LB),(45,RZ),(46,RY)] [] YY [(15,[]),(506,[(10,.sc (.int .i64))]),(259231,[(15,.sc (.int .i64))]),(518463,[]),(2073855,[]),(4147711,[]),(16590847,[(21,.sc (.bool))]),(33181695,[(22,.sc (.bool))])] Tryz.f6 dK from by(repeat intro _);kernel_rfl) PF PD NG O2 FP OJ OK NH IP JG EU NI GP ON OM)
attribute [irreducible] TO
abbrev YR:Sg:=([.slc,.addr],[.bool])
def aV:GT [] YR:=fun d b e c Q h=>∃a,hc h c=some (vi a)/\Q ((↑b:Int) != a) h
def V4:CF YR:=aV
theorem AaG:AE PP 132 (WS YR V4):=ro tn Tryz.func132 (by kernel_rfl) ((show EE [] [] YR [] Tryz.f132 aV from by(repeat intro _);kernel_rfl))
attribute [irreducible] V4
abbrev YS:Sg:=([Ti],[.bool])
def aW:GT [] YS:=fun a Q h=>Q (ltI a 0) h
def V5:CF YS:=aW
theorem AaH:AE PP 134 (WS YS V5):=ro tn Tryz.func134 (by kernel_rfl) ((show EE [] [] YS [] Tryz.f134 aW from by(repeat intro _);kernel_rfl))
attribute [irreducible] V5
abbrev YP:Sg:=([Ti],[Tb])
def aS:GT [] YP:=fun a Q h=>Q 255 h
def V1:CF YP:=aS
theorem AaD:AE PP 266 (WS YP V1):=ro tn Tryz.func266 (by kernel_rfl) ((show EE [] [] YP [] Tryz.f266 aS from by(repeat intro _);kernel_rfl))
attribute [irreducible] V1
abbrev YQ:Sg:=([Ti,.addr],[Tb])
def aT:GT [] YQ:=fun b c Q h=>∃j d k,hc h c=some (.slice j d k)/\if (↑d:Int)==0 then Q 0 h else ∃e f l,hc h c=some (.slice e f l)/\∃m a n,hc h c=some (.slice m a n)/\(↑a:Int)≠0/\∃g,e=some g/\0≤b.tmod (↑a:Int)/\b.tmod (↑a:Int)<(↑f:Int)/\∃i,hc h (g.add ((b.tmod (↑a:Int)).toNat*1))=some (.int .u8 i)/\Q i h
def V3:CF YQ:=aT
theorem AaE:AE PP 267 (WS YQ V3):=ro tn Tryz.func267 (by kernel_rfl) ((show EE [] [] YQ [] Tryz.f267 aT from by(repeat intro _);kernel_rfl))
attribute [irreducible] V3
end Go.Proofs.YteedolonhdbieaaGreatDoor
end
section
namespace Go.Vc
abbrev si(i:Nat):SV:=.dv (.one (.int .i64 (i:Int)))
theorem BS{J:List SV->HP}(N:Nat)(Inv:Nat->HP)(step:∀i h,i<N->Inv i h->(∀h',Inv (i+1) h'->J [si (i+1)] h')->J [si i] h)
  (exit:∀h,Inv N h->J [si N] h) (i:Nat) (h:H) (hi:i≤N) (inv:Inv i h):J [si i] h:=by
 generalize e:N-i=n
 induction n generalizing i h with
 | zero=>
  have:i=N:=by omega
  subst this;exact exit h inv
 | succ n ih=>exact step i h (by omega) inv fun h' inv'=>ih (i+1) h' (by omega) inv' (by omega)
theorem A0{i:Nat}(h:i<2^62):IntKind.i64.wrap ((i:Int)+1)=((i+1:Nat):Int):=by
 rw[IntKind.wrap_i64];omega
theorem AQ{n:Int}(h:-(2^62)≤n/\n≤2^62):IntKind.i64.wrap n=n:=by
 rw[IntKind.wrap_i64];omega
theorem lC{n:Int}(h:0≤n/\n<256):IntKind.u8.wrap n=n:=by
 rw[IntKind.wrap_u8];omega
def B5(g:Nat->Int->Int)(i:Nat)(ns:List Int):List Int:=ns.mapIdx fun j v=>if j<i then g j v else v
@[simp] theorem XX(g:Nat->Int->Int)(i:Nat)(ns:List Int):(B5 g i ns).length=ns.length:=by simp[B5]
theorem IT(g:Nat->Int->Int)(i:Nat)(ns:List Int)(j:Nat):(B5 g i ns)[j]?=ns[j]?.map fun v=>if j<i then g j v else v:=by simp[B5]
@[simp] theorem tM(g:Nat->Int->Int)(ns:List Int):B5 g 0 ns=ns:=by
 apply List.ext_getElem?;intro j;rw[IT];simp
theorem XZ(g:Nat->Int->Int)(i:Nat)(ns:List Int)(hi:i<ns.length):(B5 g i ns).set i (g i ns[i])=B5 g (i+1) ns:=by
 apply List.ext_getElem?;intro j
 by_cases h:i=j
 ·subst h;rw[List.getElem?_set_self (by simpa using hi),IT];simp[hi]
 ·rw[List.getElem?_set_ne h,IT,IT]
  congr 1;funext v
  by_cases h1:j<i
  ·rw[if_pos h1,if_pos (by omega)]
  ·rw[if_neg h1,if_neg (by omega)]
theorem G1(k:IntKind)(ns:List Int)(i:Nat)(n:Int):(AA k ns).set i (.int k n)=AA k (ns.set i n):=by simp[AA,List.map_set]
@[simp] theorem AnB(p:Option Addr)(l c:Nat):(Value.slice p l c).oneCell'=true:=rfl
@[simp] theorem An8(b:Bool):(Value.bool b).oneCell'=true:=rfl
@[simp] theorem AnA(p:Option Addr):(Value.pointer p).oneCell'=true:=rfl
@[simp] theorem AnC(s:ByteArray):(Value.string s).oneCell'=true:=rfl
inductive Tag where
 | blk (b:Nat) (vs:List Value)
 | sl (p:Option Addr) (l c sz:Nat) (vs:List Value)
 | of (n:Nat)
structure Ent where
 tag:Tag
 P:H->(Nat->Prop)->Prop
 st:∀{h h':H} {f:Nat->Prop},P h f->(∀b,f b->h'[b]?=h[b]?)->P h' f
 lt:∀{h:H} {f:Nat->Prop} {b:Nat},P h f->f b->b<h.size
def SatX:List Ent->H->(Nat->Prop)->Prop
 | [],_,O=>∀b,¬O b
 | e::A,h,O=>∃f g,e.P h f/\SatX A h g/\(∀b,f b->¬g b)/\(∀b,O b↔f b∨g b)
theorem SatX.st{A:List Ent}{h h':H}{O:Nat->Prop}(s:SatX A h O)(e:∀b,O b->h'[b]?=h[b]?):SatX A h' O:=by
 induction A generalizing O with
 | nil=>exact s
 | cons x A ih=>
  obtain⟨f,g,hp,hg,hd,ho⟩:=s
  exact⟨f,g,x.st hp fun b hb=>e b ((ho b).2 (Or.inl hb)),ih hg fun b hb=>e b ((ho b).2 (Or.inr hb)),hd,ho⟩
theorem SatX.lt{A:List Ent}{h:H}{O:Nat->Prop}(s:SatX A h O){b:Nat}(hb:O b):b<h.size:=by
 induction A generalizing O with
 | nil=>exact absurd hb (s b)
 | cons x A ih=>
  obtain⟨f,g,hp,hg,hd,ho⟩:=s
  rcases (ho b).1 hb with k | k
  ·exact x.lt hp k
  ·exact ih hg k
theorem SatX.iff{A:List Ent}{h:H}{O O':Nat->Prop}(s:SatX A h O)(e:∀b,O b↔O' b):SatX A h O':=by
 have:O=O':=funext fun b=>propext (e b)
 exact this ▸ s
theorem SatX.append{A B:List Ent}{h:H}{O:Nat->Prop}:SatX (A++B) h O↔∃f g,SatX A h f/\SatX B h g/\(∀b,f b->¬g b)/\(∀b,O b↔f b∨g b):=by
 induction A generalizing O with
 | nil=>
  constructor
  ·intro s;exact⟨fun _=>False,O,fun _ x=>x,s,fun _ x=>x.elim,fun b=>by simp⟩
  ·rintro⟨f,g,hf,hg,_,ho⟩
   refine hg.iff fun b=>?_
   rw[ho];constructor
   ·exact Or.inr
   ·rintro (k | k)
    ·exact absurd k (hf b)
    ·exact k
 | cons x A ih=>
  constructor
  ·rintro⟨f,g,hp,hg,hd,ho⟩
   obtain⟨f',g',h1,h2,h3,h4⟩:=ih.1 hg
   refine⟨fun b=>f b∨f' b,g',⟨f,f',hp,h1,fun b k k'=>hd b k ((h4 b).2 (Or.inl k')),fun b=>Iff.rfl⟩,h2,?_,?_⟩
   ·rintro b (k | k) k'
    ·exact hd b k ((h4 b).2 (Or.inr k'))
    ·exact h3 b k k'
   ·intro b;rw[ho,h4,or_assoc]
  ·rintro⟨f,g,⟨f1,f2,hp,h1,h2,h3⟩,hg,hd,ho⟩
   refine⟨f1,fun b=>f2 b∨g b,hp,ih.2 ⟨f2,g,h1,hg,fun b k k'=>hd b ((h3 b).2 (Or.inr k)) k',fun b=>Iff.rfl⟩,?_,?_⟩
   ·rintro b k (k' | k')
    ·exact h2 b k k'
    ·exact hd b ((h3 b).2 (Or.inl k)) k'
   ·intro b;rw[ho,h3,or_assoc]
inductive At:List Ent->Nat->Ent->Prop where
 | z {A:List Ent} {e:Ent}:At (e::A) 0 e
 | s {A:List Ent} {e x:Ent} {i:Nat}:At A i e->At (x::A) (i+1) e
def put:List Ent->Nat->Ent->List Ent
 | [],_,_=>[]
 | _::A,0,e=>e::A
 | x::A,i+1,e=>x::put A i e
@[simp] theorem AG(x e:Ent)(A:List Ent):put (x::A) 0 e=e::A:=rfl
@[simp] theorem AV(x e:Ent)(A:List Ent)(i:Nat):put (x::A) (i+1) e=x::put A i e:=rfl
theorem zs1{a b:Ent}{A:List Ent}:At (a::b::A) 1 b:=(.s .z)
theorem zs2{a b c:Ent}{A:List Ent}:At (a::b::c::A) 2 c:=(.s (.s .z))
theorem zs3{a b c d:Ent}{A:List Ent}:At (a::b::c::d::A) 3 d:=(.s (.s (.s .z)))
theorem zs4{a b c d e:Ent}{A:List Ent}:At (a::b::c::d::e::A) 4 e:=(.s (.s (.s (.s .z))))
theorem zs5{a b c d e f:Ent}{A:List Ent}:At (a::b::c::d::e::f::A) 5 f:=(.s (.s (.s (.s (.s .z)))))
theorem zs6{a b c d e f g:Ent}{A:List Ent}:At (a::b::c::d::e::f::g::A) 6 g:=(.s (.s (.s (.s (.s (.s .z))))))
theorem zs7{a b c d e f g h:Ent}{A:List Ent}:At (a::b::c::d::e::f::g::h::A) 7 h:=(.s (.s (.s (.s (.s (.s (.s .z)))))))
theorem zs8{a b c d e f g h i:Ent}{A:List Ent}:At (a::b::c::d::e::f::g::h::i::A) 8 i:=(.s (.s (.s (.s (.s (.s (.s (.s .z))))))))
theorem zs9{a b c d e f g h i j:Ent}{A:List Ent}:At (a::b::c::d::e::f::g::h::i::j::A) 9 j:=(.s (.s (.s (.s (.s (.s (.s (.s (.s .z)))))))))
theorem wV{a b c d e f g h i j k:Ent}{A:List Ent}:At (a::b::c::d::e::f::g::h::i::j::k::A) 10 k:=(.s (.s (.s (.s (.s (.s (.s (.s (.s (.s .z))))))))))
theorem AnG{a b c d e f g h i j k l:Ent}{A:List Ent}:At (a::b::c::d::e::f::g::h::i::j::k::l::A) 11 l:=(.s (.s (.s (.s (.s (.s (.s (.s (.s (.s (.s .z)))))))))))
theorem AnH{a b c d e f g h i j k l m:Ent}{A:List Ent}:At (a::b::c::d::e::f::g::h::i::j::k::l::m::A) 12 m:=(.s (.s (.s (.s (.s (.s (.s (.s (.s (.s (.s (.s .z))))))))))))
theorem AnI{a b c d e f g h i j k l m n:Ent}{A:List Ent}:At (a::b::c::d::e::f::g::h::i::j::k::l::m::n::A) 13 n:=(.s (.s (.s (.s (.s (.s (.s (.s (.s (.s (.s (.s (.s .z)))))))))))))
theorem AnJ{a b c d e f g h i j k l m n o:Ent}{A:List Ent}:At (a::b::c::d::e::f::g::h::i::j::k::l::m::n::o::A) 14 o:=(.s (.s (.s (.s (.s (.s (.s (.s (.s (.s (.s (.s (.s (.s .z))))))))))))))
theorem At.put{A:List Ent}{i:Nat}{e:Ent}(a:At A i e)(x:Ent):At (Vc.put A i x) i x:=by
 induction a with
 | z=>exact .z
 | s _ ih=>exact .s ih
theorem At.put_ne{A:List Ent}{i j:Nat}{e:Ent}(a:At A i e)(hj:i≠j)(x:Ent):At (Vc.put A j x) i e:=by
 induction a generalizing j with
 | z=>cases j with
  | zero=>exact absurd rfl hj
  | succ j=>exact .z
 | s q ih=>cases j with
  | zero=>exact .s q
  | succ j=>exact .s (ih (by omega))
@[simp] theorem DU(A:List Ent)(i:Nat)(x y:Ent):put (put A i x) i y=put A i y:=by
 induction A generalizing i with
 | nil=>rfl
 | cons a A ih=>cases i with
  | zero=>rfl
  | succ i=>simp[ih]
theorem At.put_self{A:List Ent}{i:Nat}{e:Ent}(a:At A i e):Vc.put A i e=A:=by
 induction a with
 | z=>rfl
 | s _ ih=>simp[ih]
theorem SatX.take{A:List Ent}{i:Nat}{e:Ent}(a:At A i e){h:H}{O:Nat->Prop}(s:SatX A h O):
  ∃f g:Nat->Prop,e.P h f/\(∀b,f b->¬g b)/\(∀b,O b↔f b∨g b)/\
   ∀(e':Ent) (h':H) (f':Nat->Prop),e'.P h' f'->(∀b,g b->h'[b]?=h[b]?)->(∀b,f' b->¬g b)->SatX (Vc.put A i e') h' (fun b=>f' b∨g b):=by
 induction a generalizing O with
 | z=>
  obtain⟨f,g,hp,hg,hd,ho⟩:=s
  exact⟨f,g,hp,hd,ho,fun e' h' f' hp' hsame hd'=>⟨f',g,hp',hg.st hsame,hd',fun b=>Iff.rfl⟩⟩
 | s a ih=>
  obtain⟨f,g,hp,hg,hd,ho⟩:=s
  obtain⟨f1,g1,h1,h2,h3,h4⟩:=ih hg
  refine⟨f1,fun b=>f b∨g1 b,h1,?_,?_,?_⟩
  ·rintro b k (k' | k')
   ·exact hd b k' ((h3 b).2 (Or.inl k))
   ·exact h2 b k k'
  ·intro b;rw[ho,h3];constructor
   ·rintro (k | k | k) <;> simp[k]
   ·rintro (k | k | k) <;> simp[k]
  ·intro e' h' f' hp' hsame hd'
   refine⟨f,fun b=>f' b∨g1 b,Ent.st _ hp fun b k=>hsame b (Or.inl k),h4 e' h' f' hp' (fun b k=>hsame b (Or.inr k)) (fun b k k'=>hd' b k (Or.inr k')),?_,?_⟩
   ·rintro b k (k' | k')
    ·exact hd' b k' (Or.inl k)
    ·exact hd b k ((h3 b).2 (Or.inr k'))
   ·intro b;constructor
    ·rintro (k | k | k) <;> simp[k]
    ·rintro (k | k | k) <;> simp[k]
/-! ### With a base -/
def Sat(h0:H)(A:List Ent)(h:H):Prop:=Ext CR h0 h/\∃O,SatX A h O/\∀b,O b->h0.size≤b
theorem Sat.init(h:H):Sat h [] h:=⟨Ext.refl _ _,fun _=>False,fun _ x=>x,fun _ x=>x.elim⟩
theorem Sat.ex{h0 h:H}{A:List Ent}(s:Sat h0 A h):Ext CR h0 h:=s.1
theorem Sat.ext{h0 h h':H}{A:List Ent}(s:Sat h0 A h)(x:Ext CR h h'):Sat h0 A h':=by
 obtain⟨s1,O,s2,s3⟩:=s
 exact⟨s1.trans x,O,s2.st fun b hb=>x.eq b (s2.lt hb) (fun y=>y),s3⟩
theorem Sat.add{h0 h h':H}{A:List Ent}(s:Sat h0 A h)(x:Ext CR h h'){e:Ent}{f:Nat->Prop}(p:e.P h' f)(n:∀b,f b->h.size≤b):Sat h0 (e::A) h':=by
 obtain⟨s1,O,s2,s3⟩:=s
 refine⟨s1.trans x,fun b=>f b∨O b,⟨f,O,p,s2.st fun b hb=>x.eq b (s2.lt hb) (fun y=>y),?_,fun b=>Iff.rfl⟩,?_⟩
 ·intro b k k';have:=n b k;have:=s2.lt k';omega
 ·rintro b (k | k)
  ·have:=n b k;have:=s1.size;omega
  ·exact s3 b k
theorem Sat.drop{h0 h:H}{A:List Ent}{e:Ent}(s:Sat h0 (e::A) h):Sat h0 A h:=by
 obtain⟨s1,O,⟨f,g,_,hg,_,ho⟩,s3⟩:=s
 exact⟨s1,g,hg,fun b hb=>s3 b ((ho b).2 (Or.inr hb))⟩
theorem Sat.sub{h0 h:H}{A B:List Ent}(s:Sat h0 A h)(p:B.Sublist A):Sat h0 B h:=by
 obtain⟨s1,O,s2,s3⟩:=s
 have:∃O',SatX B h O'/\∀b,O' b->O b:=by
  clear s3
  induction p generalizing O with
  | slnil=>exact⟨O,s2,fun _ x=>x⟩
  | cons a _ ih=>
   obtain⟨f,g,hp,hg,hd,ho⟩:=s2
   obtain⟨O',h1,h2⟩:=ih g hg
   exact⟨O',h1,fun b hb=>(ho b).2 (Or.inr (h2 b hb))⟩
  | cons_cons a _ ih=>
   obtain⟨f,g,hp,hg,hd,ho⟩:=s2
   obtain⟨O',h1,h2⟩:=ih g hg
   exact⟨fun b=>f b∨O' b,⟨f,O',hp,h1,fun b k k'=>hd b k (h2 b k'),fun b=>Iff.rfl⟩,fun b hb=>(ho b).2 (hb.imp id (h2 b))⟩
 obtain⟨O',h1,h2⟩:=this
 exact⟨s1,O',h1,fun b hb=>s3 b (h2 b hb)⟩
theorem Sat.nil{h0 h:H}{A:List Ent}(s:Sat h0 A h):Sat h0 [] h:=⟨s.1,fun _=>False,fun _ x=>x,fun _ x=>x.elim⟩
theorem Sat.perm{h0 h:H}{A B:List Ent}(s:Sat h0 A h)(p:A.Perm B):Sat h0 B h:=by
 obtain⟨s1,O,s2,s3⟩:=s
 refine⟨s1,O,?_,s3⟩
 clear s3
 induction p generalizing O with
 | nil=>exact s2
 | cons x _ ih=>
  obtain⟨f,g,hp,hg,hd,ho⟩:=s2
  exact⟨f,g,hp,ih g hg,hd,ho⟩
 | swap x y l=>
  obtain⟨f,g,hp,⟨f1,g1,hp1,hg1,hd1,ho1⟩,hd,ho⟩:=s2
  refine⟨f1,fun b=>f b∨g1 b,hp1,⟨f,g1,hp,hg1,fun b k k'=>hd b k ((ho1 b).2 (Or.inr k')),fun b=>Iff.rfl⟩,?_,?_⟩
  ·rintro b k (k' | k')
   ·exact hd b k' ((ho1 b).2 (Or.inl k))
   ·exact hd1 b k k'
  ·intro b;rw[ho,ho1];constructor
   ·rintro (k | k | k) <;> simp[k]
   ·rintro (k | k | k) <;> simp[k]
 | trans _ _ ih1 ih2=>exact ih2 O (ih1 O s2)
theorem Sat.takeK{h0 h:H}{A:List Ent}(s:Sat h0 A h){i:Nat}{e:Ent}(a:At A i e):∃f:Nat->Prop,e.P h f/\(∀b,f b->h0.size≤b)/\
  ∀(h':H) (e':Ent) (f':Nat->Prop),e'.P h' f'->(∀b,f' b->f b∨h.size≤b)->Ext f h h'->Sat h0 (Vc.put A i e') h':=by
 obtain⟨s1,O,s2,s3⟩:=s
 obtain⟨f,g,hp,hd,ho,hk⟩:=s2.take a
 refine⟨f,hp,fun b hb=>s3 b ((ho b).2 (Or.inl hb)),fun h' e' f' hp' hn hx=>?_⟩
 have hg:∀b,g b->b<h.size:=fun b hb=>s2.lt ((ho b).2 (Or.inr hb))
 refine⟨s1.comp hx (fun b hb hf=>?_),_,hk e' h' f' hp' (fun b hb=>hx.eq b (hg b hb) (fun hf=>hd b hf hb)) ?_,?_⟩
 ·have:=s3 b ((ho b).2 (Or.inl hf));omega
 ·intro b k1 k2
  rcases hn b k1 with k | k
  ·exact hd b k k2
  ·have:=hg b k2;omega
 ·rintro b (k1 | k1)
  ·rcases hn b k1 with k | k
   ·exact s3 b ((ho b).2 (Or.inl k))
   ·have:=s1.size;omega
  ·exact s3 b ((ho b).2 (Or.inr k1))
theorem Sat.take{h0 h:H}{A:List Ent}(s:Sat h0 A h){i:Nat}{e:Ent}(a:At A i e):∃f,e.P h f/\∀b,f b->h0.size≤b:=by
 obtain⟨f,h1,h2,_⟩:=s.takeK a
 exact⟨f,h1,h2⟩
theorem Sat.upd{h0 h h':H}{A:List Ent}(s:Sat h0 A h){i:Nat}{e e':Ent}(a:At A i e)
  (k:∀f,e.P h f->∃f',e'.P h' f'/\(∀b,f' b->f b∨h.size≤b)/\Ext f h h'):Sat h0 (Vc.put A i e') h':=by
 obtain⟨f,hp,_,hk⟩:=s.takeK a
 obtain⟨f',h1,h2,h3⟩:=k f hp
 exact hk h' e' f' h1 h2 h3
theorem Sat.as{h0 h:H}{A:List Ent}(s:Sat h0 A h){i:Nat}{e e':Ent}(a:At A i e)(k:∀f,e.P h f->e'.P h f):Sat h0 (Vc.put A i e') h:=
 s.upd a fun f hp=>⟨f,k f hp,fun _=>Or.inl,Ext.refl _ _⟩
/-! ### A block;a slice -/
@[irreducible] def UC(b:Nat)(vs:List Value)(h:H)(f:Nat->Prop):Prop:=Blk h b vs/\∀x,f x↔x=b
def blk(b:Nat)(vs:List Value):Ent where
 tag:=.blk b vs
 P:=UC b vs
 st:=by unfold UC;rintro h h' f ⟨k,e⟩ hs;exact⟨k.of_eq (hs b ((e b).2 rfl)),e⟩
 lt:=by unfold UC;rintro h f x ⟨k,e⟩ hx;rw[(e x).1 hx];exact k.lt
theorem blk_P{b:Nat}{vs:List Value}{h:H}{f:Nat->Prop}:(blk b vs).P h f↔Blk h b vs/\∀x,f x↔x=b:=by
 show UC b vs h f↔_;unfold UC;rfl
@[irreducible] def slP(p:Option Addr)(l c sz:Nat)(vs:List Value)(h:H)(f:Nat->Prop):Prop:=∃bs,OwnS h p l c sz vs bs/\∀x,f x↔x∈bs
def slE(p:Option Addr)(l c sz:Nat)(vs:List Value):Ent where
 tag:=.sl p l c sz vs
 P:=slP p l c sz vs
 st:=by
  unfold slP;rintro h h' f ⟨bs,⟨h1,h2,h3,h4⟩,e⟩ hs
  refine⟨bs,⟨h1,h2,h3,?_⟩,e⟩
  rcases h4 with h4 | ⟨b,rest,e1,rfl,k,e2⟩
  ·exact Or.inl h4
  ·exact Or.inr ⟨b,rest,e1,rfl,k.of_eq (hs b ((e b).2 (by simp))),e2⟩
 lt:=by unfold slP;rintro h f x ⟨bs,o,e⟩ hx;exact o.lt x ((e x).1 hx)
theorem slE_P{p:Option Addr}{l c sz:Nat}{vs:List Value}{h:H}{f:Nat->Prop}:(slE p l c sz vs).P h f↔∃bs,OwnS h p l c sz vs bs/\∀x,f x↔x∈bs:=by
 show slP p l c sz vs h f↔_;unfold slP;rfl
@[irreducible] def exP{α:Type}(φ:α->Prop)(F:α->List Ent)(h:H)(f:Nat->Prop):Prop:=∃a,φ a/\SatX (F a) h f
def exE{α:Type}(n:Nat)(φ:α->Prop)(F:α->List Ent):Ent where
 tag:=.of n
 P:=exP φ F
 st:=by unfold exP;rintro h h' f ⟨a,ha,s⟩ hs;exact⟨a,ha,s.st hs⟩
 lt:=by unfold exP;rintro h f x ⟨a,ha,s⟩ hx;exact s.lt hx
theorem exE_P{α:Type}{n:Nat}{φ:α->Prop}{F:α->List Ent}{h:H}{f:Nat->Prop}:(exE n φ F).P h f↔∃a,φ a/\SatX (F a) h f:=by
 show exP φ F h f↔_;unfold exP;rfl
theorem Sat.open_{h0 h:H}{A:List Ent}{α:Type}{n:Nat}{φ:α->Prop}{F:α->List Ent}(s:Sat h0 (exE n φ F::A) h):∃a,φ a/\Sat h0 (F a++A) h:=by
 obtain⟨s1,O,⟨f,g,hp,hg,hd,ho⟩,s3⟩:=s
 obtain⟨a,ha,s⟩:=exE_P.1 hp
 exact⟨a,ha,s1,O,SatX.append.2 ⟨f,g,s,hg,hd,ho⟩,s3⟩
theorem Sat.close{h0 h:H}{A:List Ent}{α:Type}{n:Nat}{φ:α->Prop}{F:α->List Ent}(a:α)(ha:φ a)(s:Sat h0 (F a++A) h):Sat h0 (exE n φ F::A) h:=by
 obtain⟨s1,O,s2,s3⟩:=s
 obtain⟨f,g,hf,hg,hd,ho⟩:=SatX.append.1 s2
 exact⟨s1,O,⟨f,g,exE_P.2 ⟨a,ha,hf⟩,hg,hd,ho⟩,s3⟩
def del:List Ent->Nat->List Ent
 | [],_=>[]
 | _::A,0=>A
 | x::A,i+1=>x::del A i
theorem At.perm{A:List Ent}{i:Nat}{e:Ent}(a:At A i e):A.Perm (e::del A i):=by
 induction a with
 | z=>exact .refl _
 | s _ ih=>exact (ih.cons _).trans (.swap _ _ _)
theorem At.perm_put{A:List Ent}{i:Nat}{e:Ent}(a:At A i e)(x:Ent):(x::del A i).Perm (Vc.put A i x):=by
 induction a with
 | z=>exact .refl _
 | s _ ih=>exact (List.Perm.swap _ _ _).trans (ih.cons _)
theorem Sat.front{h0 h:H}{A:List Ent}(s:Sat h0 A h){i:Nat}{e:Ent}(a:At A i e):Sat h0 (e::del A i) h:=s.perm a.perm
theorem Sat.back{h0 h:H}{A:List Ent}{i:Nat}{e x:Ent}(a:At A i e)(s:Sat h0 (x::del A i) h):Sat h0 (Vc.put A i x) h:=s.perm (a.perm_put x)
/-! ### Steps -/
theorem Sat.new{h0 h h':H}{A:List Ent}(s:Sat h0 A h){b:Nat}{vs:List Value}(n:hnew h b vs h'):Sat h0 (blk b vs::A) h':=
 s.add n.ext (blk_P.2 ⟨n.blk,fun _=>Iff.rfl⟩) fun x hx=>by rw[hx,n.b];exact Nat.le_refl _
theorem Sat.blkOf{h0 h:H}{A:List Ent}(s:Sat h0 A h){i b:Nat}{vs:List Value}(a:At A i (blk b vs)):Blk h b vs:=by
 obtain⟨f,hp,_⟩:=s.take a
 exact (blk_P.1 hp).1
theorem Sat.old{h0 h:H}{A:List Ent}(s:Sat h0 A h){i b:Nat}{vs:List Value}(a:At A i (blk b vs)):h0.size≤b:=by
 obtain⟨f,hp,hl⟩:=s.take a
 exact hl b (((blk_P.1 hp).2 b).2 rfl)
theorem Sat.ld{h0 h:H}{A:List Ent}(s:Sat h0 A h){i b:Nat}{vs:List Value}(a:At A i (blk b vs)){o:Nat}{v:Value}(e:vs[o]?=some v):hc h ⟨b,o,none⟩=some v:=by
 rw[(s.blkOf a).hc,e]
theorem Sat.cs1{h0 h:H}{A:List Ent}(s:Sat h0 A h){i b:Nat}{vs:List Value}(a:At A i (blk b vs)){o:Nat}{xs:List Value}(e:∀i,i<xs.length->vs[o+i]?=xs[i]?):hcs h ⟨b,o,none⟩ xs:=(s.blkOf a).hcs e
theorem Sat.cs{h0 h:H}{A:List Ent}(s:Sat h0 A h){i b:Nat}{vs:List Value}(a:At A i (blk b vs)){o:Nat}{xs:List Value}(e:(vs.drop o).take xs.length=xs):hcs h ⟨b,o,none⟩ xs:=by
 refine s.cs1 a fun i hi=>?_
 have:((vs.drop o).take xs.length)[i]?=xs[i]?:=by rw[e]
 rw[List.getElem?_take_of_lt hi,List.getElem?_drop]at this
 exact this
theorem Sat.row{h0 h:H}{A:List Ent}(s:Sat h0 A h){i b:Nat}{vs:List Value}(a:At A i (blk b vs)){o:Nat}{k:IntKind}{ns:List Int}(e:∀i,i<ns.length->vs[o+i]?=ns[i]?.map (Value.int k)):hrow h ⟨b,o,none⟩ k ns:=(s.blkOf a).hrow e
theorem Sat.can{h0 h:H}{A:List Ent}(s:Sat h0 A h){i b:Nat}{vs:List Value}(a:At A i (blk b vs)){o n:Nat}(e:o+n≤vs.length):AC h ⟨b,o,none⟩ n:=(s.blkOf a).can e
theorem Sat.wr{h0 h h':H}{A:List Ent}(s:Sat h0 A h){i b:Nat}{vs:List Value}(a:At A i (blk b vs)){o:Nat}{xs:List Value}(e:h'=hwr h ⟨b,o,none⟩ xs):Sat h0 (Vc.put A i (blk b (AO vs o xs))) h':=by
 subst e
 refine s.upd a fun f hp=>?_
 obtain⟨k,hf⟩:=blk_P.1 hp
 refine⟨f,blk_P.2 ⟨k.wr o xs,hf⟩,fun _=>Or.inl,(Ext.wr h b o xs).mono fun x _ hx=>(hf x).2 hx⟩
theorem Sat.sv{h0 h:H}{A:List Ent}(s:Sat h0 A h){i:Nat}{p:Option Addr}{l c sz:Nat}{vs:List Value}(a:At A i (slE p l c sz vs)):hsv h p sz l vs:=by
 obtain⟨f,hp,_⟩:=s.take a
 obtain⟨bs,o,_⟩:=slE_P.1 hp
 exact o.hsv
theorem Sat.base{h0 h:H}{A:List Ent}(s:Sat h0 A h){p:Option Addr}{sz l:Nat}{vs:List Value}(e:hsv h0 p sz l vs):hsv h p sz l vs:=J8 s.1 e fun _ _ x=>x
theorem Sat.own{h0 h h':H}{A:List Ent}(s:Sat h0 A h)(x:Ext CR h h'){p:Option Addr}{l c sz:Nat}{vs:List Value}{bs:List Nat}(o:OwnS h' p l c sz vs bs)(n:newB h bs):Sat h0 (slE p l c sz vs::A) h':=
 s.add x (f:=fun x=>x∈bs) (slE_P.2 ⟨bs,o,fun _=>Iff.rfl⟩) n
theorem Sat.app{h0 h:H}{A:List Ent}(s:Sat h0 A h){i:Nat}{p:Option Addr}{l c n sz:Nat}{old vs z:List Value}{B:Nat}(a:At A i (slE p l c sz old)){K:Option Addr->Nat->Nat->HP}
  (hl:vs.length=n*sz) (hz:z.length=sz) (hv:∀v,v∈vs->v.oneCell'=true) (hb:(l+n)*B≤2^47)
  (k:∀p' c' h',Sat h0 (Vc.put A i (slE p' (l+n) c' sz (old++vs))) h'->K p' (l+n) c' h'):AZ h sz z B p l c n vs K:=by
 obtain⟨f,hp,_,hk⟩:=s.takeK a
 obtain⟨bs,o,hf⟩:=slE_P.1 hp
 refine AjD o hl hz hv hb fun p' c' h' bs' hx ho hn=>k _ _ _ ?_
 refine hk h' _ (fun x=>x∈bs') (slE_P.2 ⟨bs',ho,fun _=>Iff.rfl⟩) (fun b hb=>?_) (hx.mono fun x _ hx=>(hf x).2 hx)
 rcases hn b hb with h1 | h1
 ·exact Or.inl ((hf b).2 h1)
 ·exact Or.inr h1
theorem Sat.app_new{h0 h:H}{A:List Ent}(s:Sat h0 A h){p:Option Addr}{n sz:Nat}{vs z:List Value}{B:Nat}{K:Option Addr->Nat->Nat->HP}
  (hl:vs.length=n*sz) (hz:z.length=sz) (hv:∀v,v∈vs->v.oneCell'=true) (hb:n*B≤2^47)
  (k:∀p' c' h',Sat h0 (slE p' n c' sz vs::A) h'->K p' n c' h'):AZ h sz z B p 0 0 n vs K:=
 tY hl hz hv hb fun p' c' h' bs x o nb=>k p' c' h' (s.own x o nb)
theorem At.app{A B:List Ent}{i:Nat}{e:Ent}(a:At A i e):At (A++B) i e:=by
 induction a with
 | z=>exact .z
 | s _ ih=>exact .s ih
theorem At.get{A:List Ent}{i:Nat}{e:Ent}(h:A[i]?=some e):At A i e:=by
 induction A generalizing i with
 | nil=>simp at h
 | cons x A ih=>cases i with
  | zero=>simp at h;subst h;exact .z
  | succ i=>exact .s (ih (by simpa using h))
theorem At.mem{A:List Ent}{e:Ent}(h:e∈A):∃i,At A i e:=by
 obtain⟨i,hi⟩:=List.mem_iff_getElem?.1 h
 exact⟨i,At.get hi⟩
def BU(bs:List Bool):List Value:=bs.map Value.bool
@[simp] theorem iJ(bs:List Bool):(BU bs).length=bs.length:=by simp[BU]
@[simp] theorem AdX(bs:List Bool)(i:Nat):(BU bs)[i]?=bs[i]?.map Value.bool:=by simp[BU]
abbrev Sl:=Option Addr×Nat×Nat
abbrev Sl.v(s:Sl):Value:=.slice s.1 s.2.1 s.2.2
abbrev sE(s:Sl)(sz:Nat)(vs:List Value):Ent:=slE s.1 s.2.1 s.2.2 sz vs
structure Pg where
 sl:Sl
 bytes:List Int
def Pg.rd(h:H)(sz:Nat)(x:Pg):Prop:=hsv h x.sl.1 sz x.sl.2.1 (AA .u8 x.bytes)
def CG(l:List Pg):List Value:=l.map fun x=>x.sl.v
def KJ(l:List Pg):List (List Int):=l.map Pg.bytes
def H0(sz:Nat)(l:List Pg):List Ent:=l.map fun x=>sE x.sl sz (AA .u8 x.bytes)
@[simp] theorem AnE(l:List Pg):(CG l).length=l.length:=by simp[CG]
@[simp] theorem AnD(l:List Pg):(KJ l).length=l.length:=by simp[KJ]
def RdM(h:H)(sz:Nat)(a:Sl)(rows:List (List Int)):Prop:=∃pgs,rows=KJ pgs/\hsv h a.1 1 a.2.1 (CG pgs)/\∀x,x∈pgs->x.rd h sz
def jP(sz:Nat)(a:Sl)(pgs:List Pg):List Ent:=sE a 1 (CG pgs)::H0 sz pgs
def CQ(sz:Nat)(a:Sl)(rows:List (List Int)):Ent:=exE 1 (fun pgs=>rows=KJ pgs) (jP sz a)
theorem RdM.ext{h h':H}(x:Ext CR h h'){sz:Nat}{a:Sl}{rows:List (List Int)}(r:RdM h sz a rows):RdM h' sz a rows:=by
 obtain⟨pgs,h1,h2,h3⟩:=r
 exact⟨pgs,h1,J8 x h2 (fun _ _ y=>y),fun y hy=>J8 x (h3 y hy) (fun _ _ y=>y)⟩
theorem RdM.len{h:H}{sz:Nat}{a:Sl}{rows:List (List Int)}(r:RdM h sz a rows):rows.length=a.2.1:=by
 obtain⟨pgs,rfl,h2,_⟩:=r
 have:=h2.1;simpa using this
theorem RdM.at{h:H}{sz:Nat}{a:Sl}{rows:List (List Int)}(r:RdM h sz a rows){j:Nat}(hj:j<rows.length):
  ∃q x,a.1=some q/\hc h (q.add (j*1))=some (Sl.v x)/\hsv h x.1 sz x.2.1 (AA .u8 rows[j]):=by
 obtain⟨pgs,rfl,h2,h3⟩:=r
 have hj':j<pgs.length:=by simpa using hj
 have e:(CG pgs)[j]?=some (pgs[j].sl.v):=by simp[CG,hj']
 obtain⟨q,hq,g⟩:=MJ h2 e
 refine⟨q,pgs[j].sl,hq,by simpa using g,?_⟩
 have:=h3 pgs[j] (List.getElem_mem hj')
 simpa[Pg.rd,KJ]using this
theorem Sat.rdM{h0 h:H}{A:List Ent}(hs:Sat h0 A h){i sz:Nat}{a:Sl}{rows:List (List Int)}(m:At A i (CQ sz a rows)):RdM h sz a rows:=by
 obtain⟨pgs,he,hs⟩:=(hs.front m).open_
 refine⟨pgs,he,hs.sv (.z),?_⟩
 intro x hx
 obtain⟨j,hj⟩:=At.mem (A:=H0 sz pgs) (e:=sE x.sl sz (AA .u8 x.bytes)) (List.mem_map_of_mem hx)
 exact hs.sv (.s hj.app)
theorem Sat.app_row{h0 h:H}{A:List Ent}{i sz:Nat}{p:Option Addr}{l c:Nat}{r:Sl}{rows:List (List Int)}{bs:List Int}{K:Option Addr->Nat->Nat->HP}
  (hs:Sat h0 (sE r sz (AA .u8 bs)::A) h) (m:At A i (CQ sz (p,l,c) rows)) (hb:(l+1)*24≤2^47)
  (k:∀p' c' h',Sat h0 (Vc.put A i (CQ sz (p',l+1,c') (rows++[bs]))) h'->K p' (l+1) c' h'):AZ h 1 [.slice none 0 0] 24 p l c 1 [r.v] K:=by
 obtain⟨pgs,he,hs⟩:=(hs.front (m.s)).open_
 have hs:Sat h0 (sE (p,l,c) 1 (CG pgs)::(H0 sz pgs++(sE r sz (AA .u8 bs)::del A i))) h:=hs
 refine hs.app (.z) (by simp) rfl (by intro v hv;simp at hv;subst hv;rfl) hb ?_
 intro p' c' h' hs
 refine k p' c' h' (Sat.back m ?_)
 refine Sat.close (pgs++[⟨r,bs⟩]) (by simp[he,KJ]) ?_
 refine hs.perm ?_
 simp only[Vc.put,jP,H0,CG,List.map_append,List.map_cons,List.map_nil,List.cons_append,List.append_assoc,List.nil_append]
 exact .refl _
theorem Sat.mat_nil{h0 h:H}{A:List Ent}(hs:Sat h0 A h)(sz:Nat)(p:Option Addr):Sat h0 (CQ sz (p,0,0) []::A) h:=by
 refine Sat.close [] rfl ?_
 refine hs.own (Ext.refl _ _) (bs:=[]) (OwnS.nil _ _ _) (by intro b hb;simp at hb)
theorem Sat.sl_nil{h0 h:H}{A:List Ent}(hs:Sat h0 A h)(sz:Nat)(p:Option Addr):Sat h0 (sE (p,0,0) sz []::A) h:=
 hs.own (Ext.refl _ _) (bs:=[]) (OwnS.nil _ _ _) (by intro b hb;simp at hb)
theorem Sat.as_sl{h0 h:H}{A:List Ent}(hs:Sat h0 A h){i b l sz:Nat}{vs:List Value}(m:At A i (blk b vs))(hl:vs.length=l*sz)(hv:∀v,v∈vs->v.oneCell'=true):
  Sat h0 (Vc.put A i (slE (some ⟨b,0,none⟩) l l sz vs)) h:=by
 refine hs.as m fun f hp=>?_
 obtain⟨k,hf⟩:=blk_P.1 hp
 refine slE_P.2 ⟨[b],⟨hl,Nat.le_refl _,hv,Or.inr ⟨b,[],rfl,rfl,by simpa using k,by simp⟩⟩,fun x=>?_⟩
 rw[hf];simp
theorem Sat.bv{h0 h:H}{A:List Ent}(hs:Sat h0 A h){i b l sz:Nat}{vs:List Value}(m:At A i (blk b vs))(hl:vs.length=l*sz)(hv:∀v,v∈vs->v.oneCell'=true):
  hsv h (some ⟨b,0,none⟩) sz l vs:=(hs.as_sl m hl hv).sv (m.put _)
theorem A9(k:IntKind)(ns:List Int):∀v,v∈AA k ns->v.oneCell'=true:=by
 intro v hv
 simp only[AA,List.mem_map]at hv
 obtain⟨n,_,rfl⟩:=hv;rfl
theorem iK(ns:List Bool):∀v,v∈BU ns->v.oneCell'=true:=by
 intro v hv
 simp only[BU,List.mem_map]at hv
 obtain⟨n,_,rfl⟩:=hv;rfl
theorem Sat.ofBlk{h0 h h':H}{A:List Ent}(hs:Sat h0 A h)(x:Ext CR h h'){b:Nat}{vs:List Value}(k:Blk h' b vs)(n:h.size≤b):Sat h0 (blk b vs::A) h':=
 hs.add x (blk_P.2 ⟨k,fun _=>Iff.rfl⟩) fun y hy=>by rw[hy];exact n
/-! ### Slices whose first cell is known -/
theorem Sat.sl_some{h0 h:H}{A:List Ent}(hs:Sat h0 A h){i:Nat}{p:Option Addr}{l c sz:Nat}{vs:List Value}(m:At A i (slE p l c sz vs))(hl:0<l):∃b,p=some ⟨b,0,none⟩:=by
 obtain⟨f,hp,_⟩:=hs.take m
 obtain⟨bs,⟨_,_,_,h4⟩,_⟩:=slE_P.1 hp
 rcases h4 with⟨h1,_,_⟩ | ⟨b,_,h1,_⟩
 ·omega
 ·exact⟨b,h1⟩
theorem Sat.sl_len{h0 h:H}{A:List Ent}(hs:Sat h0 A h){i:Nat}{p:Option Addr}{l c sz:Nat}{vs:List Value}(m:At A i (slE p l c sz vs)):vs.length=l*sz:=(hs.sv m).1
theorem Sat.sld{h0 h:H}{A:List Ent}(hs:Sat h0 A h){i b l c sz:Nat}{vs:List Value}(m:At A i (slE (some ⟨b,0,none⟩) l c sz vs)){o:Nat}{v:Value}(e:vs[o]?=some v):hc h ⟨b,o,none⟩=some v:=by
 obtain⟨q,hq,g⟩:=MJ (hs.sv m) e
 injection hq with hq;subst hq
 rwa [AI,Nat.zero_add]at g
theorem OwnS.blk'{h:H}{b l c sz:Nat}{vs:List Value}{bs:List Nat}(o:OwnS h (some ⟨b,0,none⟩) l c sz vs bs)(hv:0<l):bs=[b]/\∃rest,Blk h b (vs++rest)/\(c-l)*sz≤rest.length:=by
 obtain⟨h1,_,_,h4⟩:=o
 rcases h4 with⟨r,_,_⟩ | ⟨b',rest,e,h5,k,h6⟩
 ·omega
 ·injection e with e;injection e with e;subst e
  exact⟨h5,rest,k,h6⟩
theorem Sat.scan{h0 h:H}{A:List Ent}(hs:Sat h0 A h){i b l c sz:Nat}{vs:List Value}(m:At A i (slE (some ⟨b,0,none⟩) l c sz vs)){o n:Nat}(hl:0<l)(e:o+n≤vs.length):AC h ⟨b,o,none⟩ n:=by
 obtain⟨f,hp,_⟩:=hs.take m
 obtain⟨bs,o',_⟩:=slE_P.1 hp
 obtain⟨_,rest,k,_⟩:=o'.blk' hl
 exact k.can (by simp;omega)
theorem AlQ(vs rest:List Value)(o:Nat)(xs:List Value)(h:o+xs.length≤vs.length):AO (vs++rest) o xs=AO vs o xs++rest:=by
 induction xs generalizing vs o with
 | nil=>rfl
 | cons x r ih=>
  simp only[List.length_cons]at h
  rw[GK,GK,List.set_append_left _ _ (by omega),ih _ _ (by simp;omega)]
theorem AlS{vs xs:List Value}{o:Nat}{v:Value}(h:v∈AO vs o xs):v∈vs∨v∈xs:=by
 induction xs generalizing vs o with
 | nil=>exact Or.inl h
 | cons x r ih=>
  rw[GK]at h
  rcases ih h with h | h
  ·rcases List.mem_or_eq_of_mem_set h with h | h
   ·exact Or.inl h
   ·exact Or.inr (by simp[h])
  ·exact Or.inr (by simp[h])
theorem Sat.swr{h0 h h':H}{A:List Ent}(hs:Sat h0 A h){i b l c sz:Nat}{vs:List Value}(m:At A i (slE (some ⟨b,0,none⟩) l c sz vs)){o:Nat}{xs:List Value}(e:h'=hwr h ⟨b,o,none⟩ xs)(hl:0<l)(hx:o+xs.length≤vs.length)
  (h1:∀v,v∈xs->v.oneCell'=true):Sat h0 (Vc.put A i (slE (some ⟨b,0,none⟩) l c sz (AO vs o xs))) h':=by
 subst e
 refine hs.upd m fun f hp=>?_
 obtain⟨bs,o',hf⟩:=slE_P.1 hp
 obtain⟨e,rest,k,hr⟩:=o'.blk' hl
 subst e
 refine⟨f,slE_P.2 ⟨[b],⟨by rw[AlR];exact o'.1,o'.2.1,?_,Or.inr ⟨b,rest,rfl,rfl,?_,hr⟩⟩,hf⟩,fun _=>Or.inl,(Ext.wr h b o xs).mono fun x _ hx=>(hf x).2 (by simp[hx])⟩
 ·intro v hv
  rcases AlS hv with hv | hv
  ·exact o'.2.2.1 v hv
  ·exact h1 v hv
 ·rw[←AlQ _ _ _ _ hx];exact k.wr o xs
/-! ### Whole blocks -/
theorem Sat.wra{h0 h h':H}{A:List Ent}(s:Sat h0 A h){i b:Nat}{vs xs:List Value}(a:At A i (blk b vs))(e:h'=hwr h ⟨b,0,none⟩ xs)(hl:xs.length=vs.length):Sat h0 (Vc.put A i (blk b xs)) h':=by
 have:=s.wr a e
 rwa [kO _ _ hl]at this
theorem Sat.row0{h0 h:H}{A:List Ent}(s:Sat h0 A h){i b:Nat}{k:IntKind}{ns:List Int}(a:At A i (blk b (AA k ns))):hrow h ⟨b,0,none⟩ k ns:=
 s.row a fun i _=>by rw[Nat.zero_add,BR]
/-! ### Cells of a slice of slices -/
def AY(row:List Int)(k:Nat):List Int:=(row.drop (k*32)).take 32
theorem FT{row:List Int}{k:Nat}(h:(k+1)*32≤row.length):(AY row k).length=32:=by simp[AY];omega
theorem pM(row:List Int)(k i:Nat)(hi:i<32):(AY row k)[i]?=row[k*32+i]?:=by
 simp only[AY]
 rw[List.getElem?_take_of_lt hi,List.getElem?_drop]
theorem RdM.cell{h:H}{a:Sl}{rows:List (List Int)}(r:RdM h 32 a rows){j k:Nat}(hj:j<rows.length)(hk:(k+1)*32≤rows[j].length):
  ∃q x q',a.1=some q/\hc h (q.add (j*1))=some (Sl.v x)/\x.2.1*32=rows[j].length/\x.1=some q'/\hrow h (q'.add (k*32)) .u8 (AY rows[j] k):=by
 obtain⟨q,x,h1,h2,h3⟩:=r.at hj
 have hl:x.2.1*32=rows[j].length:=by have:=h3.1;simp at this;omega
 obtain⟨e1,e2,e3⟩:=h3
 rcases e3 with e3 | ⟨q',hq,g⟩
 ·have:rows[j].length=0:=by have:=congrArg List.length e3;simpa using this
  omega
 ·refine⟨q,x,q',h1,h2,hl,hq,?_⟩
  intro i v hv
  have hi:i<32:=by
   have:=(List.getElem?_eq_some_iff.1 hv).1
   rw[BV,FT hk]at this;exact this
  rw[BR,pM _ _ _ hi]at hv
  have:(q'.add (k*32)).add i=q'.add (k*32+i):=by
   cases q' with | mk b o s=>unfold Addr.add;by_cases h1:k*32=0 <;> by_cases h2:i=0 <;> simp[h1,h2,Nat.add_assoc]
  rw[this]
  exact g _ _ (by rw[BR];exact hv)
def CK(row:List Int)(k:Nat)(c:List Int):List Int:=row.take (k*32)++c++row.drop (k*32+32)
theorem VI{row c:List Int}{k:Nat}(hk:(k+1)*32≤row.length)(hc:c.length=32):(CK row k c).length=row.length:=by
 simp[CK,hc];omega
theorem AlT{row c:List Int}{k:Nat}(hk:(k+1)*32≤row.length)(hc:c.length=32):AO (AA .u8 row) (k*32) (AA .u8 c)=AA .u8 (CK row k c):=by
 have e:row=row.take (k*32)++(row.drop (k*32)).take 32++row.drop (k*32+32):=by
  rw[List.append_assoc,←List.drop_drop,List.take_append_drop,List.take_append_drop]
 have hl:(AA .u8 (row.take (k*32))).length=k*32:=by simp;omega
 have key:=TB (AA .u8 (row.take (k*32))) (AA .u8 ((row.drop (k*32)).take 32)) (AA .u8 (row.drop (k*32+32))) (AA .u8 c) (by simp[hc];omega)
 rw[hl,←XI,←XI,←e]at key
 rw[key]
 simp[CK]
/-! ### A row taken out of a slice of slices -/
theorem AkQ(sz:Nat)(pgs:List Pg)(j:Nat)(x:Pg):put (H0 sz pgs) j (sE x.sl sz (AA .u8 x.bytes))=H0 sz (pgs.set j x):=by
 induction pgs generalizing j with
 | nil=>rfl
 | cons y r ih=>cases j with
  | zero=>rfl
  | succ j=>simp only[H0,List.map_cons,AV,List.set_cons_succ];congr 1;exact ih j
theorem AkP(sz:Nat)(pgs:List Pg)(j:Nat)(hj:j<pgs.length):At (H0 sz pgs) j (sE pgs[j].sl sz (AA .u8 pgs[j].bytes)):=At.get (by simp[H0,hj])
theorem Sat.row_take{h0 h:H}{A:List Ent}{sz:Nat}{a:Sl}{rows:List (List Int)}(hs:Sat h0 (CQ sz a rows::A) h){j:Nat}(hj:j<rows.length):
  ∃(x:Sl) (hd:List Value) (R:List Ent),hd[j]?=some x.v/\Sat h0 (sE x sz (AA .u8 rows[j])::sE a 1 hd::(A++R)) h/\
   ∀h' bs B,Sat h0 (sE x sz (AA .u8 bs)::sE a 1 hd::(B++R)) h'->Sat h0 (CQ sz a (rows.set j bs)::B) h':=by
 obtain⟨pgs,he,hs⟩:=hs.open_
 have hj':j<pgs.length:=by rw[he]at hj;simpa using hj
 have m:=AkP sz pgs j hj'
 refine⟨pgs[j].sl,CG pgs,del (H0 sz pgs) j,by simp[CG,hj'],?_,?_⟩
 ·have e:pgs[j].bytes=rows[j]:=by subst he;simp[KJ]
  rw[←e]
  refine hs.perm ?_
  have hp:=(m.perm.append_right A).cons (sE a 1 (CG pgs))
  exact hp.trans ((List.Perm.swap _ _ _).trans ((List.perm_append_comm.cons _).cons _))
 ·intro h' bs B hs'
  refine Sat.close (pgs.set j ⟨pgs[j].sl,bs⟩) ?_ ?_
  ·subst he;simp[KJ,List.map_set]
  ·have e1:CG (pgs.set j ⟨pgs[j].sl,bs⟩)=CG pgs:=by
    apply List.ext_getElem?;intro k
    simp only[CG,List.getElem?_map,List.getElem?_set]
    split
    ·rename_i e;subst e;simp[hj']
    ·rfl
   refine hs'.perm ?_
   simp only[jP,e1]
   rw[←AkQ sz pgs j ⟨pgs[j].sl,bs⟩]
   refine (List.Perm.swap _ _ _).trans ?_
   refine List.Perm.cons _ ?_
   exact ((List.perm_append_comm.cons _)).trans ((m.perm_put _).append_right B)
set_option maxRecDepth 100000
def Rdt{D:Type}(enc:TypeId×Value->D)(P:Program)(W:World)(t:TypeId)(cs:List Value):Prop:=
 ∃fuel x,DataW.trod enc P W 0 (fun _=>true) true fuel t cs=some x/\∀n,n∈DataW.weights P t x.1->n≤reachBytes
inductive XSh where
 | int (k:IntKind) | bool | str | slc (e:TypeId) | row (k:IntKind) (n:Nat)
def XSh.size:XSh->Nat
 | .row _ n=>n
 | _=>1
def C9:List XSh->Nat
 | []=>0
 | s::r=>s.size+C9 r
def VV(sh:TypeId->Option (List XSh)):Nat->List Field->Option (List XSh)
 | _,[]=>some []
 | off,f::fs=>match Nat.beq f.offset off,sh f.type with
  | true,some s=>(VV sh (off+C9 s) fs).map (s ++ ·)
  | _,_=>none
def xsh(P:Program):Nat->TypeId->Option (List XSh)
 | 0,_=>none
 | d+1,t=>match P.underlying t with
  | some (.int k)=>some [.int k]
  | some .bool=>some [.bool]
  | some .string=>some [.str]
  | some (.slice e)=>some [.slc e]
  | some (.array n e)=>match P.underlying e,Nat.beq (P.cellsOf e) 1,Nat.beq (P.cellsOf t) n with
   | some (.int k),true,true=>some [.row k n]
   | _,_,_=>none
  | some (.struct fs)=>match VV (fun u=>match xsh P d u with | some s=>(match Nat.beq (P.cellsOf u) (C9 s) with | true=>some s | false=>none) | none=>none) 0 fs.toList with
   | some s=>match Nat.beq (P.cellsOf t) (C9 s) with | true=>some s | false=>none
   | none=>none
  | _=>none
def Sli{D:Type}(enc:TypeId×Value->D)(P:Program)(W:World)(e:TypeId)(p:Option Addr)(l c:Nat):Prop:=
 l≤c/\c*P.bytesOf e≤reachBytes/\(p=none->l=0/\c=0)/\
  ∀i,i<l->∃a es,p=some a/\es.length=P.cellsOf e/\hcs W.heap (a.add (i*P.cellsOf e)) es/\Rdt enc P W e es
def has(k:IntKind)(n:Int):Prop:=k.min≤n/\n≤k.max
theorem rE{n:Int}(h:has .u8 n):0≤n/\n<256:=by
 have h1:IntKind.u8.min=0:=rfl
 have h2:IntKind.u8.max=255:=by decide
 unfold has at h;omega
theorem AgS{n:Int}(h:has .i64 n):-(2^63)≤n/\n<2^63:=by
 have h1:IntKind.i64.min=-(2^63):=by decide
 have h2:IntKind.i64.max=2^63-1:=by decide
 unfold has at h;omega
def XM{D:Type}(enc:TypeId×Value->D)(P:Program)(W:World):List XSh->List Value->Prop
 | [],cs=>cs=[]
 | .int k::r,cs=>∃n rest,cs=.int k n::rest/\has k n/\XM enc P W r rest
 | .bool::r,cs=>∃b rest,cs=.bool b::rest/\XM enc P W r rest
 | .str::r,cs=>∃s rest,cs=.string s::rest/\s.size≤reachBytes/\XM enc P W r rest
 | .slc e::r,cs=>∃p l c rest,cs=.slice p l c::rest/\Sli enc P W e p l c/\XM enc P W r rest
 | .row k n::r,cs=>∃ns rest,cs=AA k ns++rest/\ns.length=n/\(∀x,x∈ns->has k x)/\XM enc P W r rest
section
variable {D:Type} {enc:TypeId×Value->D} {P:Program} {W:World}
theorem XM.append:∀{s1 s2:List XSh} {c1 c2:List Value},XM enc P W s1 c1->XM enc P W s2 c2->XM enc P W (s1++s2) (c1++c2)
 | [],s2,c1,c2,h1,h2=>by simp only[XM]at h1;subst h1;exact h2
 | .int k::r,s2,c1,c2,h1,h2=>by obtain⟨n,rest,rfl,hn,h⟩:=h1;exact⟨n,rest++c2,rfl,hn,XM.append h h2⟩
 | .bool::r,s2,c1,c2,h1,h2=>by obtain⟨n,rest,rfl,h⟩:=h1;exact⟨n,rest++c2,rfl,XM.append h h2⟩
 | .str::r,s2,c1,c2,h1,h2=>by obtain⟨n,rest,rfl,hn,h⟩:=h1;exact⟨n,rest++c2,rfl,hn,XM.append h h2⟩
 | .slc e::r,s2,c1,c2,h1,h2=>by obtain⟨p,l,c,rest,rfl,hn,h⟩:=h1;exact⟨p,l,c,rest++c2,rfl,hn,XM.append h h2⟩
 | .row k n::r,s2,c1,c2,h1,h2=>by obtain⟨ns,rest,rfl,hn,hh,h⟩:=h1;exact⟨ns,rest++c2,by simp,hn,hh,XM.append h h2⟩
theorem XM.len:∀{s:List XSh} {c:List Value},XM enc P W s c->c.length=C9 s
 | [],c,h=>by simp only[XM]at h;subst h;rfl
 | .int k::r,c,h=>by obtain⟨n,rest,rfl,_,h⟩:=h;simp[C9,XSh.size,XM.len h];omega
 | .bool::r,c,h=>by obtain⟨n,rest,rfl,h⟩:=h;simp[C9,XSh.size,XM.len h];omega
 | .str::r,c,h=>by obtain⟨n,rest,rfl,_,h⟩:=h;simp[C9,XSh.size,XM.len h];omega
 | .slc e::r,c,h=>by obtain⟨p,l,c,rest,rfl,_,h⟩:=h;simp[C9,XSh.size,XM.len h];omega
 | .row k n::r,c,h=>by obtain⟨ns,rest,rfl,hn,_,h⟩:=h;simp[C9,XSh.size,XM.len h,hn]
theorem wL{k:IntKind}{n:Int}(h:(Lit.int k n).wf=true):has k n:=by
 simp only[Lit.wf,Bool.and_eq_true,decide_eq_true_eq]at h
 exact h
theorem AeK{a:Addr}{n:Nat}{es:List Value}(h:W.cells? 0 a n=some es):es.length=n/\hcs W.heap a es:=by
 simp only[World.cells?,Nat.zero_le,if_true]at h
 have hl:es.length=n:=by simpa using mapM_some_length h
 refine⟨hl,fun i v hv=>?_⟩
 have hi:i<n:=by have:=(List.getElem?_eq_some_iff.1 hv).1;omega
 have:=mapM_some_get h i i (by simp[hi])
 rw[hv,AeJ]at this
 exact this
theorem wK{e:TypeId}:∀{ds:List (DataW D)} {d:DataW D},d∈ds->∀n,n∈DataW.weights P e d->n∈DataW.weightsAll P e ds
 | d0::ds,d,hd,n,hn=>by
  simp only[DataW.weightsAll,List.mem_append]
  rcases List.mem_cons.1 hd with rfl | hd
  ·exact Or.inl hn
  ·exact Or.inr (wK hd n hn)
theorem Rdt.slice{t e:TypeId}{cs:List Value}(u:P.underlying t=some (.slice e))(h:Rdt enc P W t cs):∃p l c,cs=[.slice p l c]/\Sli enc P W e p l c:=by
 obtain⟨fuel,x,h,hw⟩:=h
 rcases DataW.trod_slice u h with⟨rfl,rfl⟩ | ⟨a,len,cap,elems,rest,n,rfl,rfl,rfl,_,hl,hc,he,h1,h2,_⟩
 ·exact⟨none,0,0,rfl,Nat.le_refl _,by simp,fun _=>⟨rfl,rfl⟩,fun i hi=>by omega⟩
 ·refine⟨some a,len,cap,rfl,hl,?_,by simp,?_⟩
  ·obtain⟨h3,_⟩:=h2 rfl
   have:=hw ((elems.length+rest.length)*P.bytesOf e) (by simp[DataW.weights,u])
   rw[he,h3]at this
   rwa [show len+(cap-len)=cap by omega]at this
  ·intro i hi
   have h4:=h1 i hi
   have hei:i<elems.length:=by omega
   rw[List.getElem?_eq_getElem hei]at h4
   obtain⟨es,h5,h6⟩:=Option.bind_eq_some_iff.1 h4
   obtain⟨h7,h8⟩:=AeK h5
   refine⟨a,es,rfl,h7,h8,n,elems[i],h6,fun m hm=>hw m ?_⟩
   simp only[DataW.weights,u,List.mem_cons,List.mem_append]
   exact Or.inr (Or.inl (wK (List.mem_map_of_mem (List.getElem_mem hei)) m hm))
theorem AdF{t e:TypeId}{n:Nat}{k:IntKind}{cs:List Value}(u:P.underlying t=some (.array n e))(ue:P.underlying e=some (.int k))(h1:P.cellsOf e=1)(h2:P.cellsOf t=n)(h:Rdt enc P W t cs):
  ∃ns:List Int,cs=AA k ns/\ns.length=n/\∀x,x∈ns->has k x:=by
 obtain⟨fuel,x,h,_⟩:=h
 cases fuel with
 | zero=>simp[DataW.trod]at h
 | succ f=>
  have key:cs.length=n/\∀i,i<n->∃m,cs[i]?=some (.int k m)/\has k m:=by
   unfold DataW.trod at h
   rw[u]at h
   have h:(if cs.length=P.cellsOf t then ((List.range n).mapM fun i=>DataW.trod enc P W 0 (fun _=>true) true f e ((cs.drop (i*P.cellsOf e)).take (P.cellsOf e))).map fun xs=>(DataW.agg (xs.map (·.1)),xs.flatMap (·.2)) else none)=some x:=by
    split at h <;> simp_all
   split at h
   ·rename_i hl
    obtain⟨xs,hm,_⟩:=Option.map_eq_some_iff.1 h
    refine⟨by omega,fun i hi=>?_⟩
    have hg:=mapM_some_get hm i i (by simp[hi])
    have hxl:xs.length=n:=by simpa using mapM_some_length hm
    rw[List.getElem?_eq_getElem (show i<xs.length by omega)]at hg
    obtain⟨m,hm1,_,hm2⟩:=DataW.trod_int ue hg
    rw[h1,Nat.mul_one]at hm1
    refine⟨m,?_,wL hm2⟩
    have:((cs.drop i).take 1)[0]?=some (.int k m):=by rw[hm1];rfl
    rw[List.getElem?_take_of_lt (by omega),List.getElem?_drop]at this
    simpa using this
   ·cases h
  obtain⟨hl,hc⟩:=key
  refine⟨cs.map fun v=>match v with | .int _ m=>m | _=>0,?_,by simpa using hl,?_⟩
  ·apply List.ext_getElem?
   intro i
   rw[BR,List.getElem?_map,Option.map_map]
   by_cases hi:i<n
   ·obtain⟨m,e,_⟩:=hc i hi
    rw[e];rfl
   ·rw[List.getElem?_eq_none (by omega)];rfl
  ·intro x hx
   obtain⟨v,hv,rfl⟩:=List.mem_map.1 hx
   obtain⟨i,hi,rfl⟩:=List.mem_iff_getElem.1 hv
   obtain⟨m,e,hm⟩:=hc i (by omega)
   rw[List.getElem?_eq_getElem hi]at e
   injection e with e
   rw[e];exact hm
theorem wT{sh:TypeId->Option (List XSh)}{cs:List Value}(ih:∀u s c,sh u=some s->Rdt enc P W u c->XM enc P W s c)(hz:∀u s,sh u=some s->P.cellsOf u=C9 s):
  ∀(fs:List Field) (off:Nat) (s:List XSh),VV sh off fs=some s->off+C9 s≤cs.length->(∀f,f∈fs->Rdt enc P W f.type ((cs.drop f.offset).take (P.cellsOf f.type)))->XM enc P W s ((cs.drop off).take (C9 s))
 | [],off,s,h,_,_=>by simp only[VV,Option.some.injEq]at h;subst h;simp[XM,C9]
 | f::fs,off,s,h,hl,hf=>by
  unfold VV at h
  split at h
  ·rename_i s1 ho hs1
   obtain⟨s2,h2,rfl⟩:=Option.map_eq_some_iff.1 h
   have ho:f.offset=off:=Nat.eq_of_beq_eq_true ho
   have hx:C9 (s1++s2)=C9 s1+C9 s2:=by
    clear h h2 hs1 hl
    induction s1 with
    | nil=>simp[C9]
    | cons a r ihr=>simp[C9,ihr];omega
   rw[hx]at hl ⊢
   have r1:=ih _ _ _ hs1 (hf f (by simp))
   rw[ho,hz _ _ hs1]at r1
   have r2:=wT ih hz fs (off+C9 s1) s2 h2 (by omega) (fun g hg=>hf g (by simp[hg]))
   have e:(cs.drop off).take (C9 s1+C9 s2)=(cs.drop off).take (C9 s1)++(cs.drop (off+C9 s1)).take (C9 s2):=by
    rw[List.take_add,List.drop_drop]
   rw[e]
   exact r1.append r2
  ·cases h
theorem Rdt.xm:∀(d:Nat) (t:TypeId) (s:List XSh) (cs:List Value),xsh P d t=some s->Rdt enc P W t cs->XM enc P W s cs
 | 0,t,s,cs,h,_=>by cases h
 | d+1,t,s,cs,h,r=>by
  unfold xsh at h
  split at h
  ·rename_i k u
   injection h with h;subst h
   obtain⟨fuel,x,r,_⟩:=r
   obtain⟨n,rfl,_,hn⟩:=DataW.trod_int u r
   exact⟨n,[],rfl,wL hn,rfl⟩
  ·rename_i u
   injection h with h;subst h
   obtain⟨fuel,x,r,_⟩:=r
   obtain⟨n,rfl,_⟩:=DataW.trod_bool u r
   exact⟨n,[],rfl,rfl⟩
  ·rename_i u
   injection h with h;subst h
   obtain⟨fuel,x,r,hw⟩:=r
   obtain⟨n,rfl,rfl,_⟩:=DataW.trod_string u r
   refine⟨n,[],rfl,?_,rfl⟩
   have:=hw n.data.toList.length (by simp[DataW.weights])
   simpa using this
  ·rename_i e u
   injection h with h;subst h
   obtain⟨p,l,c,rfl,hs⟩:=Rdt.slice u r
   exact⟨p,l,c,[],rfl,hs,rfl⟩
  ·rename_i n e u
   split at h
   ·rename_i k ue h1 h2
    injection h with h;subst h
    obtain⟨ns,rfl,hn,hh⟩:=AdF u ue (Nat.eq_of_beq_eq_true h1) (Nat.eq_of_beq_eq_true h2) r
    exact⟨ns,[],by simp,hn,hh,rfl⟩
   ·cases h
  ·rename_i fs u
   split at h
   ·rename_i s' hx
    split at h
    ·rename_i hz
     injection h with h;subst h
     have hz:=Nat.eq_of_beq_eq_true hz
     obtain⟨fuel,x,r,hw⟩:=r
     obtain⟨xs,n,rfl,rfl,hl,hxl,hf⟩:=DataW.trod_struct u r
     have:=wT (enc:=enc) (W:=W) (cs:=cs) (fun u s c hu hr=>by
       split at hu
       ·rename_i s1 hs1
        split at hu
        ·injection hu with hu;subst hu;exact Rdt.xm d u _ c hs1 hr
        ·cases hu
       ·cases hu) (fun u s hu=>by
       split at hu
       ·split at hu
        ·rename_i hb;injection hu with hu;subst hu;exact Nat.eq_of_beq_eq_true hb
        ·cases hu
       ·cases hu) fs.toList 0 s' hx (by omega) (fun f hfm=>by
       obtain⟨i,hi,rfl⟩:=List.mem_iff_getElem.1 hfm
       have hi2:i<fs.size:=by simpa using hi
       have h1:=hf i fs[i] (by simp[hi2])
       rw[List.getElem?_eq_getElem (show i<xs.length by omega)]at h1
       have e:fs.toList[i]=fs[i]:=by simp
       rw[e]
       refine⟨n,_,h1,fun m hm=>hw m ?_⟩
       simp only[DataW.weights,u]
       exact DataW.weights_mem_each (j:=i) (by simp[hi2]) (by simp[show i<xs.length by omega]) m hm)
     rw[List.drop_zero,List.take_of_length_le (by omega)]at this
     exact this
    ·cases h
   ·cases h
  ·cases h
end
end Go.Vc
end
