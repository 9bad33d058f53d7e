/- LoaderDoes and its parts, laid together by a program of ours: F F Ls2 -/
import Derived.Test.YteedolonhdbieaaGreatDoorK7
set_option autoImplicit false
set_option linter.all false
section
namespace Go.Proofs.YteedolonhdbieaaGreatDoor
open Go Go.Vc
set_option maxRecDepth 100000
abbrev FL:Sg:=([.addr],[.ag [Si,.row .i64 9,Si,.bool,Si]])
def kN:GT [GK,GJ] FL:=fun c0 c1 i Q h=>∀a j,hnew h a (vi 0::(AA .i64 (AB 9)++[vi 0,.bool false,vi 0])) j->c0 i (fun e d=>if ltI e 0 then AC d (P_ a 0) 13/\∀b,b=hwr d (P_ a 0) (vi 0::(AA .i64 (AB 9)++[vi 0,.bool false,vi 0]))->∃k,hc b (P_ a 0)=some (vi k)/\∃(f:List Int),f.length=9/\hrow b (P_ a 1) .i64 f/\∃l,hc b (P_ a 10)=some (vi l)/\∃m,hc b (P_ a 11)=some (.bool m)/\∃n,hc b (P_ a 12)=some (vi n)/\Q k f l m n b else ∃o,hc d i=some (.pointer o)/\∃p,o=some p/\∃q r B,hc d (p.add 7)=some (.slice q r B)/\∃s,q=some s/\0≤e/\e<r/\∃t u v,hc d (s.add (e.toNat*1))=some (.slice t u v)/\c1 t u v (fun C E F G I w=>AC w (P_ a 0) 13/\∀c,c=hwr w (P_ a 0) (vi C::(AA .i64 E++[vi F,.bool G,vi I]))->∃x,hc c (P_ a 0)=some (vi x)/\∃(g:List Int),g.length=9/\hrow c (P_ a 1) .i64 g/\∃y,hc c (P_ a 10)=some (vi y)/\∃z,hc c (P_ a 11)=some (.bool z)/\∃A,hc c (P_ a 12)=some (vi A)/\Q x g y z A c) d) j
def EY:CF FL:=kN F7 F6
theorem XB:AE PP 282 (WS FL EY):=ro (tc Y7 (tc Y6 tn)) Tryz.func282 (by kernel_rfl) ((show EE [(281,GK),(303,GJ)] [] FL [] Tryz.f282 kN from by(repeat intro _);kernel_rfl) F7 F6)
attribute [irreducible] EY
abbrev MR:Sg:=([.addr,Ti],[Ti,Ti])
def kJ:GT [FL] MR:=fun c0 b a Q h=>∃c,hc h b=some (.pointer c)/\∃d,c=some d/\∃e,hc h (d.add 11)=some (.bool e)/\if e then Q 0 8 h else if ltI a 0 then Q 0 2 h else ∃f,hc h b=some (.pointer f)/\∃g,f=some g/\∃i,hc h (g.add 1)=some (vi i)/\if ltI i a then Q 0 2 h else c0 b (fun l j m n o k=>0≤a/\a<(↑9:Int)/\Q (j.getD a.toNat 0) 0 k) h
def KQ:CF MR:=kJ EY
theorem t4:AE PP 276 (WS MR KQ):=ro (tc XB tn) Tryz.func276 (by kernel_rfl) ((show EE [(282,FL)] [] MR [] Tryz.f276 kJ from by(repeat intro _);kernel_rfl) EY)
attribute [irreducible] KQ
abbrev MU:Sg:=([.addr,Ti],[Ti,Ti])
def kQ:GT [MR] MU:=fun c0 c d Q h=>∀a b,hnew h a [.pointer (some c)] b->c0 (P_ a 0) d (fun e f g=>Q e f g) b
def KU:CF MU:=kQ KQ
theorem t7:AE PP 242 (WS MU KU):=ro (tc t4 tn) Tryz.func242 (by kernel_rfl) ((show EE [(276,MR)] [] MU [] Tryz.f242 kQ from by(repeat intro _);kernel_rfl) KQ)
attribute [irreducible] KU
abbrev MO:Sg:=([.addr,Ti,Ti],[Ti])
def kC:GT [] MO:=fun c a d Q h=>∃b,hc h (c.add 11)=some (.bool b)/\if b then Q 8 h else if ltI a 0 then Q 2 h else if leI d a then Q 2 h else Q 0 h
def KN:CF MO:=kC
theorem tZ:AE PP 277 (WS MO KN):=ro tn Tryz.func277 (by kernel_rfl) ((show EE [] [] MO [] Tryz.f277 kC from by(repeat intro _);kernel_rfl))
attribute [irreducible] KN
abbrev MM:Sg:=([.addr,Ti],[Ti,Ti])
def j8:GT [MO] MM:=fun c0 c d Q h=>∃i,hc h (c.add 1)=some (vi i)/\c0 c d i (fun j k=>if j != 0 then Q 0 j k else ∀(e:JT),(∀(f b:Int) (a:H),(∃l,hc a (c.add 2)=some (vi l)/\if ltI b l then ∃m n q,hc a (c.add 9)=some (.slice m n q)/\∃g,hc a (c.add 2)=some (vi g)/\∃o,m=some o/\0≤IntKind.i64.wrap (IntKind.i64.wrap (d*g)+b)/\IntKind.i64.wrap (IntKind.i64.wrap (d*g)+b)<(↑n:Int)/\∃p,hc a (o.add ((IntKind.i64.wrap (IntKind.i64.wrap (d*g)+b)).toNat*1))=some (.bool p)/\if p then e [.dv (.one (vi (IntKind.i64.wrap (f+1)))),.dv (.one (vi (IntKind.i64.wrap (b+1))))] a else e [.dv (.one (vi f)),.dv (.one (vi (IntKind.i64.wrap (b+1))))] a else Q f 0 a)->e [.dv (.one (vi f)),.dv (.one (vi b))] a)->e [.dv (.one (vi 0)),.dv (.one (vi 0))] k) h
def KL:CF MM:=j8 KN
theorem tX:AE PP 243 (WS MM KL):=ro (tc tZ tn) Tryz.func243 (by kernel_rfl) ((show EE [(277,MO)] [] MM [(250,[(7,.sc (.int .i64)),(8,.sc (.int .i64))])] Tryz.f243 j8 from by(repeat intro _);kernel_rfl) KN)
attribute [irreducible] KL
abbrev U8:Sg:=([.addr,Ti],[Ti,Ti])
def kX:GT [VA,MU,MM] U8:=fun c0 c1 c2 a b Q h=>c0 a b (fun d e=>if d != 0 then Q 0 d e else c1 a b (fun f k j=>c2 a b (fun g l i=>∃c,hc i (a.add 3)=some (vi c)/\Q (if IntKind.i64.wrap (g*c) > f then IntKind.i64.wrap (g*c) else f) 0 i) j) e) h
def I0:CF U8:=kX Q6 KU KL
theorem t9:AE PP 179 (WS U8 I0):=ro (tc Ah4 (tc t7 (tc tX tn))) Tryz.func179 (by kernel_rfl) ((show EE [(241,VA),(242,MU),(243,MM)] [] U8 [] Tryz.f179 kX from by(repeat intro _);kernel_rfl) Q6 KU KL)
attribute [irreducible] I0
abbrev MN:Sg:=([.addr,Ti],[.bool,Ti])
def kB:GT [MO] MN:=fun c0 b c Q h=>∃f,hc h (b.add 4)=some (vi f)/\c0 b c f (fun g a=>if g != 0 then Q false g a else ∃i j m,hc a (b.add 9)=some (.slice i j m)/\∃d,hc a (b.add 1)=some (vi d)/\∃e,hc a (b.add 2)=some (vi e)/\∃k,i=some k/\0≤IntKind.i64.wrap (IntKind.i64.wrap (d*e)+c)/\IntKind.i64.wrap (IntKind.i64.wrap (d*e)+c)<(↑j:Int)/\∃l,hc a (k.add ((IntKind.i64.wrap (IntKind.i64.wrap (d*e)+c)).toNat*1))=some (.bool l)/\Q l 0 a) h
def KM:CF MN:=kB KN
theorem tY:AE PP 246 (WS MN KM):=ro (tc tZ tn) Tryz.func246 (by kernel_rfl) ((show EE [(277,MO)] [] MN [] Tryz.f246 kB from by(repeat intro _);kernel_rfl) KN)
attribute [irreducible] KM
abbrev bX:Sg:=([.addr,Ti],[.bool,Ti])
def kZ:GT [MN] bX:=fun c0 a b Q h=>c0 a b (fun c d e=>Q c d e) h
def Y0:CF bX:=kZ KM
theorem Ah3:AE PP 209 (WS bX Y0):=ro (tc tY tn) Tryz.func209 (by kernel_rfl) ((show EE [(246,MN)] [] bX [] Tryz.f209 kZ from by(repeat intro _);kernel_rfl) KM)
attribute [irreducible] Y0
abbrev cB:Sg:=([.addr,.addr,.slc],[.ag [Si,Si,Si,.slc,.row .u8 32],Ti])
def RV(c0:Int->Int->Int->Int->Int->Int->Int->(Int->HP)->HP)(c1:Addr->Int->(Int->Int->HP)->HP)(e:Addr)(Q:Int->Int->Int->OA->Nat->Nat->List Int->Int->HP)(aw:H)(u:Nat)(ax:List Int)(c:Nat)(a:Nat):Prop:=∀f,f=hwr aw (P_ u 0) (AA .u8 ax++[])->∃(l:List Int),l.length=32/\hrow f (P_ u 0) .u8 l/\∃(m:List Int),m.length=32/\hrow f (P_ c 4) .u8 m/\if !l == m then AC f (P_ a 0) 36/\∀g,g=hwr f (P_ a 0) (vi 0::vi 0::vi 0::.slice none 0 0::AA .u8 (AB 32))->∃v,hc g (P_ a 0)=some (vi v)/\∃w,hc g (P_ a 1)=some (vi w)/\∃x,hc g (P_ a 2)=some (vi x)/\∃y z A,hc g (P_ a 3)=some (.slice y z A)/\∃(n:List Int),n.length=32/\hrow g (P_ a 4) .u8 n/\Q v w x y z A n 15 g else ∃B,hc f (P_ c 0)=some (vi B)/\c1 e B (fun ay C b=>if C != 0 then AC b (P_ a 0) 36/\∀h,h=hwr b (P_ a 0) (vi 0::vi 0::vi 0::.slice none 0 0::AA .u8 (AB 32))->∃E,hc h (P_ a 0)=some (vi E)/\∃F,hc h (P_ a 1)=some (vi F)/\∃G,hc h (P_ a 2)=some (vi G)/\∃I J K,hc h (P_ a 3)=some (.slice I J K)/\∃(o:List Int),o.length=32/\hrow h (P_ a 4) .u8 o/\Q E F G I J K o C h else ∃L,hc b (P_ c 2)=some (vi L)/\if ltI L ay then AC b (P_ a 0) 36/\∀i,i=hwr b (P_ a 0) (vi 0::vi 0::vi 0::.slice none 0 0::AA .u8 (AB 32))->∃M,hc i (P_ a 0)=some (vi M)/\∃N,hc i (P_ a 1)=some (vi N)/\∃O,hc i (P_ a 2)=some (vi O)/\∃P R T,hc i (P_ a 3)=some (.slice P R T)/\∃(p:List Int),p.length=32/\hrow i (P_ a 4) .u8 p/\Q M N O P R T p 16 i else ∃q,hc b (P_ c 2)=some (vi q)/\∃U,hc b e=some (vi U)/\∃V,hc b (e.add 1)=some (vi V)/\∃X,hc b (e.add 2)=some (vi X)/\∃Y,hc b (e.add 3)=some (vi Y)/\∃Z,hc b (e.add 4)=some (vi Z)/\∃aa,hc b (e.add 5)=some (vi aa)/\∃ab,hc b (e.add 6)=some (vi ab)/\c0 U V X Y Z aa ab (fun az d=>hcs d (P_ c 2) [vi q]/\if ltI az q then AC d (P_ a 0) 36/\∀j,j=hwr d (P_ a 0) (vi 0::vi 0::vi 0::.slice none 0 0::AA .u8 (AB 32))->∃ac,hc j (P_ a 0)=some (vi ac)/\∃ad,hc j (P_ a 1)=some (vi ad)/\∃ae,hc j (P_ a 2)=some (vi ae)/\∃af ag ah,hc j (P_ a 3)=some (.slice af ag ah)/\∃(r:List Int),r.length=32/\hrow j (P_ a 4) .u8 r/\Q ac ad ae af ag ah r 16 j else ∃ai,hc d (P_ c 0)=some (vi ai)/\∃aj,hc d (P_ c 1)=some (vi aj)/\∃ak,hc d (P_ c 2)=some (vi ak)/\∃al am an,hc d (P_ c 3)=some (.slice al am an)/\∃(s:List Int),s.length=32/\hrow d (P_ c 4) .u8 s/\AC d (P_ a 0) 36/\∀k,k=hwr d (P_ a 0) (vi ai::vi aj::vi ak::.slice al am an::(AA .u8 s++[]))->∃ao,hc k (P_ a 0)=some (vi ao)/\∃ap,hc k (P_ a 1)=some (vi ap)/\∃aq,hc k (P_ a 2)=some (vi aq)/\∃ar au av,hc k (P_ a 3)=some (.slice ar au av)/\∃(t:List Int),t.length=32/\hrow k (P_ a 4) .u8 t/\Q ao ap aq ar au av t 0 k) b) f
def lM(c0:OA->Nat->Nat->(Int->Int->Int->OA->Nat->Nat->List Int->Int->Int->HP)->HP)(c1:Addr->Int->(Bool->HP)->HP)(c2:OA->Nat->Nat->(OA->Nat->Nat->HP)->HP)(c3:Int->Int->Int->Int->Int->Int->Int->(Int->HP)->HP)(c4:Addr->Int->OA->Nat->Nat->(List Int->Int->HP)->HP)(c5:Addr->Int->(Int->Int->HP)->HP)(c6:Addr->Int->(Bool->Int->HP)->HP)(f:Addr)(r:Addr)(s:OA)(t:Nat)(u:Nat)(Q:Int->Int->Int->OA->Nat->Nat->List Int->Int->HP)(h:H):Prop:=
∀a q,hnew h a (vi 0::vi 0::vi 0::.slice none 0 0::AA .u8 (AB 32)) q->∃P,hc q (f.add 11)=some (.bool P)/\if P then AC q (P_ a 0) 36/\∀g,g=hwr q (P_ a 0) (vi 0::vi 0::vi 0::.slice none 0 0::AA .u8 (AB 32))->∃R,hc g (P_ a 0)=some (vi R)/\∃T,hc g (P_ a 1)=some (vi T)/\∃U,hc g (P_ a 2)=some (vi U)/\∃V X Y,hc g (P_ a 3)=some (.slice V X Y)/\∃(v:List Int),v.length=32/\hrow g (P_ a 4) .u8 v/\Q R T U V X Y v 8 g else c0 s t u (fun bt bu bv bw bx bz b0 b1 b2 b3=>∀b Z,hnew b3 b (vi 0::vi 0::vi 0::.slice none 0 0::AA .u8 (AB 32)) Z->∀p w,hnew Z p [vi 0,vi 0] w->AC w (P_ b 0) 36/\∀x,x=hwr w (P_ b 0) (vi bt::vi bu::vi bv::.slice bw bx bz::(AA .u8 b0++[]))->AC x (P_ p 0) 2/\∀c,c=hwr x (P_ p 0) [vi b1,vi b2]->∃aa,hc c (P_ p 0)=some (vi aa)/\if aa != 0 then ∃y,hc c (P_ p 0)=some (vi y)/\AC c (P_ a 0) 36/\∀d,d=hwr c (P_ a 0) (vi 0::vi 0::vi 0::.slice none 0 0::AA .u8 [0,0,0,0,0,0,0,0,0,0,0,0,0,0,0,0,0,0,0,0,0,0,0,0,0,0,0,0,0,0,0,0])->hcs d (P_ p 0) [vi y]/\∃ab,hc d (P_ a 0)=some (vi ab)/\∃ac,hc d (P_ a 1)=some (vi ac)/\∃ad,hc d (P_ a 2)=some (vi ad)/\∃ae af ag,hc d (P_ a 3)=some (.slice ae af ag)/\∃(z:List Int),z.length=32/\hrow d (P_ a 4) .u8 z/\Q ab ac ad ae af ag z y d else ∃ah,hc c (P_ b 0)=some (vi ah)/\∃ai,hc c (f.add 1)=some (vi ai)/\if leI ai ah then AC c (P_ a 0) 36/\∀i,i=hwr c (P_ a 0) (vi 0::vi 0::vi 0::.slice none 0 0::AA .u8 (AB 32))->∃aj,hc i (P_ a 0)=some (vi aj)/\∃ak,hc i (P_ a 1)=some (vi ak)/\∃al,hc i (P_ a 2)=some (vi al)/\∃am an ao,hc i (P_ a 3)=some (.slice am an ao)/\∃(A:List Int),A.length=32/\hrow i (P_ a 4) .u8 A/\Q aj ak al am an ao A 5 i else ∀(ap:JT),(∀(B:H),(∃aq,hc B (P_ b 1)=some (vi aq)/\c6 f aq (fun b4 ar j=>if ar != 0 then AC j (P_ a 0) 36/\∀k,k=hwr j (P_ a 0) (vi 0::vi 0::vi 0::.slice none 0 0::AA .u8 (AB 32))->∃au,hc k (P_ a 0)=some (vi au)/\∃av,hc k (P_ a 1)=some (vi av)/\∃aw,hc k (P_ a 2)=some (vi aw)/\∃ax ay az,hc k (P_ a 3)=some (.slice ax ay az)/\∃(C:List Int),C.length=32/\hrow k (P_ a 4) .u8 C/\Q au av aw ax ay az C ar k else if b4 then AC j (P_ a 0) 36/\∀l,l=hwr j (P_ a 0) (vi 0::vi 0::vi 0::.slice none 0 0::AA .u8 (AB 32))->∃a2,hc l (P_ a 0)=some (vi a2)/\∃a3,hc l (P_ a 1)=some (vi a3)/\∃a4,hc l (P_ a 2)=some (vi a4)/\∃a5 a6 a7,hc l (P_ a 3)=some (.slice a5 a6 a7)/\∃(E:List Int),E.length=32/\hrow l (P_ a 4) .u8 E/\Q a2 a3 a4 a5 a6 a7 E 14 l else ∃e,hc j (P_ b 1)=some (vi e)/\c2 s t u (fun a8 a9 ba F=>hcs F (P_ b 1) [vi e]/\c4 r e a8 a9 ba (fun b5 cd b6=>∀G I,hnew b6 G (AA .u8 (AB 32)) I->AC I (P_ G 0) 32/\RV c3 c5 f Q I G b5 b a) F/\∀J K,hnew F J (AA .u8 (AB 32)) K->hcs K (P_ b 1) [vi e]/\c4 r e a8 a9 ba (fun b7 ce bb=>AC bb (P_ J 0) 32/\RV c3 c5 f Q bb J b7 b a) K) j/\∀L M,hnew j L (AA .u8 (AB 32)) M->hcs M (P_ b 1) [vi e]/\c2 s t u (fun b8 b9 ca bc=>hcs bc (P_ b 1) [vi e]/\c4 r e b8 b9 ca (fun cb cf bd=>AC bd (P_ L 0) 32/\RV c3 c5 f Q bd L cb b a) bc) M) B)->ap [] B)->∃be,hc c (P_ b 1)=some (vi be)/\c1 r be (fun cc m=>if !cc then AC m (P_ a 0) 36/\∀n,n=hwr m (P_ a 0) (vi 0::vi 0::vi 0::.slice none 0 0::AA .u8 (AB 32))->∃bf,hc n (P_ a 0)=some (vi bf)/\∃bg,hc n (P_ a 1)=some (vi bg)/\∃bh,hc n (P_ a 2)=some (vi bh)/\∃bi bj bk,hc n (P_ a 3)=some (.slice bi bj bk)/\∃(N:List Int),N.length=32/\hrow n (P_ a 4) .u8 N/\Q bf bg bh bi bj bk N 13 n else ∃bl,hc m (P_ b 1)=some (vi bl)/\∃bm,hc m (f.add 4)=some (vi bm)/\if leI bm bl then AC m (P_ a 0) 36/\∀o,o=hwr m (P_ a 0) (vi 0::vi 0::vi 0::.slice none 0 0::AA .u8 (AB 32))->∃bn,hc o (P_ a 0)=some (vi bn)/\∃bo,hc o (P_ a 1)=some (vi bo)/\∃bp,hc o (P_ a 2)=some (vi bp)/\∃bq br bs,hc o (P_ a 3)=some (.slice bq br bs)/\∃(O:List Int),O.length=32/\hrow o (P_ a 4) .u8 O/\Q bn bo bp bq br bs O 13 o else ap [] m) c) q
theorem Ad8:∀c0 c1 c2 c3 c4 c5 c6 a0 a1 a2p a2l a2c Q h,lM c0 c1 c2 c3 c4 c5 c6 a0 a1 a2p a2l a2c Q h=JK PP [(16,W [.slc] [.ag [Si,Si,Si,.slc,.row .u8 32],.ag [Si,Si]] c0),(89,W [.addr,Ti] [.bool] c1),(105,W [.slc] [.slc] c2),(106,W [.ag [Si,Si,Si,Si,Si,Si,Si]] [Ti] c3),(175,W [.addr,Ti,.slc] [.ag [.row .u8 32],Ti] c4),(179,W [.addr,Ti] [Ti,Ti] c5),(209,W [.addr,Ti] [.bool,Ti] c6)] [(63,[])] Tryz.f186 [.addr a0,.addr a1,.one (.slice a2p a2l a2c)] (K6 [.ag [Si,Si,Si,.slc,.row .u8 32],Ti] Q) h:=by intros;kernel_rfl
def I1:=lM NK NM WY IZ WZ I0 Y0
theorem uE:AE PP 186 (W [.addr,.addr,.slc] [.ag [Si,Si,Si,.slc,.row .u8 32],Ti] I1):=bI (tc uB (tc uC (tc Ah5 (tc t8 (tc AhE (tc t9 (tc Ah3 (tn)))))))) Tryz.func186 (by kernel_rfl) (by kernel_rfl) (Ad8 _ _ _ _ _ _ _)
attribute [irreducible] I1
abbrev S0:Sg:=([.addr,Ti,.slc],[])
def eO:GT [M4] S0:=fun c0 a c f g i Q h=>c0 f g i (fun j k l d=>AC d (a.add 12) 1/\∀b,b=hwr d (a.add 12) [vi (if c > -1 then c else -1)]->AC b (a.add 13) 1/\∀e,e=hwr b (a.add 13) [.slice j k l]->Q e) h
def NH:CF S0:=eO HJ
theorem AeV:AE PP 39 (WS S0 NH):=ro (tc uL tn) Tryz.func39 (by kernel_rfl) ((show EE [(118,M4)] [] S0 [] Tryz.f39 eO from by(repeat intro _);kernel_rfl) HJ)
attribute [irreducible] NH
abbrev S1:Sg:=([.addr],[])
def eW:GT [] S1:=fun a Q h=>AC h (a.add 11) 1/\∀b,b=hwr h (a.add 11) [.bool false]->Q b
def O5:CF S1:=eW
theorem AeW:AE PP 43 (WS S1 O5):=ro tn Tryz.func43 (by kernel_rfl) ((show EE [] [] S1 [] Tryz.f43 eW from by(repeat intro _);kernel_rfl))
attribute [irreducible] O5
abbrev MQ:Sg:=([.addr],[Ti])
def kH:GT [GK,FL] MQ:=fun c0 c1 a Q h=>c0 a (fun g b=>if ltI g 0 then Q 0 b else ∃c,hc b a=some (.pointer c)/\∃d,c=some d/\∃e,hc b d=some (vi e)/\c1 a (fun j k i l m f=>hcs f d [vi e]/\hcs f a [.pointer c]/\Q (IntKind.i64.wrap (e-i)) f) b) h
def KP:CF MQ:=kH F7 EY
theorem t3:AE PP 278 (WS MQ KP):=ro (tc Y7 (tc XB tn)) Tryz.func278 (by kernel_rfl) ((show EE [(281,GK),(282,FL)] [] MQ [] Tryz.f278 kH from by(repeat intro _);kernel_rfl) F7 EY)
attribute [irreducible] KP
abbrev IB:Sg:=([.addr],[.bool])
def jM:GT [] IB:=fun a Q h=>∃d,hc h (a.add 10)=some (vi d)/\AC h (a.add 10) 1/\∀b,b=hwr h (a.add 10) [vi (IntKind.i64.wrap (d+1))]->∃e,hc b (a.add 12)=some (vi e)/\if e == 0 then AC b (a.add 11) 1/\∀c,c=hwr b (a.add 11) [.bool true]->AC c (a.add 12) 1/\∀f,f=hwr c (a.add 12) [vi (-1)]->Q true f else ∃g,hc b (a.add 12)=some (vi g)/\if ltI 0 g then ∃i,hc b (a.add 12)=some (vi i)/\AC b (a.add 12) 1/\∀j,j=hwr b (a.add 12) [vi (IntKind.i64.wrap (i-1))]->Q false j else Q false b
def HA:CF IB:=jM
theorem nS:AE PP 286 (WS IB HA):=ro tn Tryz.func286 (by kernel_rfl) ((show EE [] [] IB [] Tryz.f286 jM from by(repeat intro _);kernel_rfl))
attribute [irreducible] HA
abbrev IC:Sg:=([.addr,Ti],[Tb])
def jO:GT [] IC:=fun b c Q h=>∃j d k,hc h (b.add 13)=some (.slice j d k)/\if (↑d:Int)==0 then Q 0 h else ∃e f l,hc h (b.add 13)=some (.slice e f l)/\∃m a n,hc h (b.add 13)=some (.slice m a n)/\(↑a:Int)≠0/\∃g,e=some g/\0≤c.tmod (↑a:Int)/\c.tmod (↑a:Int)<(↑f:Int)/\∃i,hc h (g.add ((c.tmod (↑a:Int)).toNat*1))=some (.int .u8 i)/\Q i h
def HB:CF IC:=jO
theorem nT:AE PP 287 (WS IC HB):=ro tn Tryz.func287 (by kernel_rfl) ((show EE [] [] IC [] Tryz.f287 jO from by(repeat intro _);kernel_rfl))
attribute [irreducible] HB
abbrev MI:Sg:=([.addr,Ti,Ti],[Ti])
def jN:GT [] MI:=fun a b c Q h=>∃d,hc h (a.add 11)=some (.bool d)/\if d then Q 8 h else if ltI b 0 then Q 2 h else ∃g e i,hc h (a.add 7)=some (.slice g e i)/\if leI (↑e:Int) b then Q 2 h else if ltI c 0 then Q 2 h else ∃f,hc h a=some (vi f)/\if leI f c then Q 2 h else Q 0 h
def KI:CF MI:=jN
theorem tT:AE PP 302 (WS MI KI):=ro tn Tryz.func302 (by kernel_rfl) ((show EE [] [] MI [] Tryz.f302 jN from by(repeat intro _);kernel_rfl))
attribute [irreducible] KI
abbrev IA:Sg:=([.addr,Ti,Ti,.ag [.row .u8 32]],[Ti])
def jK:GT [IB,IC,MI] IA:=fun c0 c1 c2 e d b U Q h=>∀r s,hnew h r (AA .u8 U++[]) s->c2 e d b (fun t u=>if t != 0 then Q t u else c0 e (fun v i=>∃w x V,hc i (e.add 7)=some (.slice w x V)/\∃y,w=some y/\0≤d/\d<(↑x:Int)/\∃z A X,hc i (y.add (d.toNat*1))=some (.slice z A X)/\∃B,z=some B/\0≤b/\b<(↑A:Int)/\∃(l:List Int),l.length=32/\hrow i (B.add (b.toNat*32)) .u8 l/\∀f m,hnew i f (AA .u8 (AB 32)) m->AC m (P_ f 0) 32/\∀C,C=hwr m (P_ f 0) (AA .u8 l++[])->∀(j:JT),(∀(a:Int) (c:H),(if ltI a 32 then 0≤a/\a<(↑32:Int)/\∃n,hc c ((P_ f 0).add (a.toNat*1))=some (.int .u8 n)/\0≤a/\a<(↑32:Int)/\∃o,hc c ((P_ r 0).add (a.toNat*1))=some (.int .u8 o)/\if v then 0≤a/\a<(↑32:Int)/\∃k,hc c ((P_ f 0).add (a.toNat*1))=some (.int .u8 k)/\c1 e a (fun Y E=>hcs E ((P_ f 0).add (a.toNat*1)) [.int .u8 k]/\c1 e a (fun Z g=>hcs g ((P_ f 0).add (a.toNat*1)) [.int .u8 k]/\∃F G aa,hc g (e.add 7)=some (.slice F G aa)/\∃I,F=some I/\0≤d/\d<(↑G:Int)/\∃J K ab,hc g (I.add (d.toNat*1))=some (.slice J K ab)/\∃p,J=some p/\0≤b/\b<(↑K:Int)/\0≤a/\a<(↑32:Int)/\AC g ((p.add (b.toNat*32)).add (a.toNat*1)) 1/\∀L,L=hwr g ((p.add (b.toNat*32)).add (a.toNat*1)) [.int .u8 (bits .or .u8 (bits .andNot .u8 k Y) (bits .and .u8 (bits .and .u8 n o) Z))]->j [.dv (.one (vi (IntKind.i64.wrap (a+1))))] L) E) c else ∃M N ac,hc c (e.add 7)=some (.slice M N ac)/\∃O,M=some O/\0≤d/\d<(↑N:Int)/\∃P R ad,hc c (O.add (d.toNat*1))=some (.slice P R ad)/\∃q,P=some q/\0≤b/\b<(↑R:Int)/\0≤a/\a<(↑32:Int)/\AC c ((q.add (b.toNat*32)).add (a.toNat*1)) 1/\∀T,T=hwr c ((q.add (b.toNat*32)).add (a.toNat*1)) [.int .u8 (bits .and .u8 n o)]->j [.dv (.one (vi (IntKind.i64.wrap (a+1))))] T else if v then Q 8 c else Q 0 c)->j [.dv (.one (vi a))] c)->j [.dv (.one (vi 0))] C) u) s
def G9:CF IA:=jK HA HB KI
theorem nR:AE PP 280 (WS IA G9):=ro (tc nS (tc nT (tc tT tn))) Tryz.func280 (by kernel_rfl) ((show EE [(286,IB),(287,IC),(302,MI)] [] IA [(506,[(12,.sc (.int .i64))])] Tryz.f280 jK from by(repeat intro _);kernel_rfl) HA HB KI)
attribute [irreducible] G9
abbrev MT:Sg:=([.addr],[Ti])
def kO:GT [GK] MT:=fun c0 b Q h=>c0 b (fun c a=>if c == 0 then Q 1 a else Q 0 a) h
def KT:CF MT:=kO F7
theorem t6:AE PP 304 (WS MT KT):=ro (tc Y7 tn) Tryz.func304 (by kernel_rfl) ((show EE [(281,GK)] [] MT [] Tryz.f304 kO from by(repeat intro _);kernel_rfl) F7)
attribute [irreducible] KT
abbrev MS:Sg:=([.addr],[.bool])
def kL:GT [FL,GJ,MT] MS:=fun c0 c1 c2 b Q h=>∃e,hc h b=some (.pointer e)/\∃f,e=some f/\∃g,hc h (f.add 11)=some (.bool g)/\if g then Q false h else c2 b (fun c d=>∃i,hc d b=some (.pointer i)/\∃j,i=some j/\∃k l B,hc d (j.add 7)=some (.slice k l B)/\∃m,k=some m/\0≤c/\c<l/\∃n o p,hc d (m.add (c.toNat*1))=some (.slice n o p)/\c1 n o p (fun K L M C N a=>if !C then ∃q,hc a b=some (.pointer q)/\∃r,q=some r/\∃s t E,hc a (r.add 8)=some (.slice s t E)/\∃u,s=some u/\0≤c/\c<t/\∃v,hc a (u.add (c.toNat*1))=some (vi v)/\∃w,hc a b=some (.pointer w)/\∃x,w=some x/\∃y,hc a (x.add 5)=some (vi y)/\if leI y v then Q true a else c0 b (fun F O P R T G=>∀(z:Int),z=4611686018427387904->Q (leI z F) G) a else c0 b (fun I U V X Y J=>∀(A:Int),A=4611686018427387904->Q (leI A I) J) a) d) h
def KR:CF MS:=kL EY F6 KT
theorem t5:AE PP 283 (WS MS KR):=ro (tc XB (tc Y6 (tc t6 tn))) Tryz.func283 (by kernel_rfl) ((show EE [(282,FL),(303,GJ),(304,MT)] [] MS [] Tryz.f283 kL from by(repeat intro _);kernel_rfl) EY F6 KT)
attribute [irreducible] KR
abbrev MH:Sg:=([.addr,Ti],[Ti])
def jJ:GT [IB,IC,MI] MH:=fun c0 c1 c2 d a Q h=>c2 d a 0 (fun y g=>if y != 0 then Q y g else ∃z A ac,hc g (d.add 8)=some (.slice z A ac)/\∃B,z=some B/\0≤a/\a<(↑A:Int)/\∃C,hc g (B.add (a.toNat*1))=some (vi C)/\∃E,hc g (d.add 5)=some (vi E)/\if leI E C then Q 9 g else c0 d (fun F j=>∃l m ad,hc j (d.add 8)=some (.slice l m ad)/\∃G,l=some G/\0≤a/\a<(↑m:Int)/\∃I,hc j (G.add (a.toNat*1))=some (vi I)/\∃n,l=some n/\0≤a/\a<(↑m:Int)/\AC j (n.add (a.toNat*1)) 1/\∀J,J=hwr j (n.add (a.toNat*1)) [vi (IntKind.i64.wrap (I+1))]->∀(o:JT),(∀(c:Int) (i:H),(∃K,hc i d=some (vi K)/\if ltI c K then ∀(k:JT),(∀(b:Int) (e:H),(if ltI b 32 then if F then ∃p q L,hc e (d.add 7)=some (.slice p q L)/\∃r,p=some r/\0≤a/\a<(↑q:Int)/\∃s t M,hc e (r.add (a.toNat*1))=some (.slice s t M)/\∃u,s=some u/\0≤c/\c<t/\0≤b/\b<(↑32:Int)/\∃v,hc e ((u.add (c.toNat*32)).add (b.toNat*1))=some (.int .u8 v)/\c1 d (IntKind.i64.wrap (IntKind.i64.wrap (32*c)+b)) (fun ae f=>hcs f ((u.add (c.toNat*32)).add (b.toNat*1)) [.int .u8 v]/\hcs f (r.add (a.toNat*1)) [.slice s t M]/\hcs f (d.add 7) [.slice p q L]/\∃N O af,hc f (d.add 7)=some (.slice N O af)/\∃P,N=some P/\0≤a/\a<(↑O:Int)/\∃R T ag,hc f (P.add (a.toNat*1))=some (.slice R T ag)/\∃w,R=some w/\0≤c/\c<T/\0≤b/\b<(↑32:Int)/\AC f ((w.add (c.toNat*32)).add (b.toNat*1)) 1/\∀U,U=hwr f ((w.add (c.toNat*32)).add (b.toNat*1)) [.int .u8 (bits .or .u8 v ae)]->k [.dv (.one (vi (IntKind.i64.wrap (b+1))))] U) e else ∃V X ah,hc e (d.add 7)=some (.slice V X ah)/\∃Y,V=some Y/\0≤a/\a<(↑X:Int)/\∃Z aa ai,hc e (Y.add (a.toNat*1))=some (.slice Z aa ai)/\∃x,Z=some x/\0≤c/\c<aa/\0≤b/\b<(↑32:Int)/\AC e ((x.add (c.toNat*32)).add (b.toNat*1)) 1/\∀ab,ab=hwr e ((x.add (c.toNat*32)).add (b.toNat*1)) [.int .u8 255]->k [.dv (.one (vi (IntKind.i64.wrap (b+1))))] ab else o [.dv (.one (vi (IntKind.i64.wrap (c+1))))] e)->k [.dv (.one (vi b))] e)->k [.dv (.one (vi 0))] i else if F then Q 8 i else Q 0 i)->o [.dv (.one (vi c))] i)->o [.dv (.one (vi 0))] J) g) h
def KH:CF MH:=jJ HA HB KI
theorem tS:AE PP 291 (WS MH KH):=ro (tc nS (tc nT (tc tT tn))) Tryz.func291 (by kernel_rfl) ((show EE [(286,IB),(287,IC),(302,MI)] [] MH [(1018,[(7,.sc (.int .i64))]),(65170,[(8,.sc (.int .i64))])] Tryz.f291 jJ from by(repeat intro _);kernel_rfl) HA HB KI)
attribute [irreducible] KH
abbrev U3:Sg:=([.addr,Ti,Ti],[Ti])
def kP:GT [IE,IA,FL,MH,GJ,MT,MK] U3:=fun c0 c1 c2 c3 c4 c5 c6 d g aa Q h=>c5 d (fun e ab=>c2 d (fun ac ad ae af ag ah=>∀c o,hnew ah c (vi 0::(AA .i64 (AB 9)++[vi 0,.bool false,vi 0])) o->AC o (P_ c 0) 13/\∀f,f=hwr o (P_ c 0) (vi ac::(AA .i64 ad++[vi ae,.bool af,vi ag]))->∃w,hc f d=some (.pointer w)/\∃x,w=some x/\∃y z ai,hc f (x.add 7)=some (.slice y z ai)/\∃A,y=some A/\0≤e/\e<z/\∃B C E,hc f (A.add (e.toNat*1))=some (.slice B C E)/\c4 B C E (fun aq ar au aj av p=>∀(q:JT),(∀(r:H),(0≤g/\g<(↑9:Int)/\AC r (((P_ c 0).add 1).add (g.toNat*1)) 1/\∀F,F=hwr r (((P_ c 0).add 1).add (g.toNat*1)) [vi aa]->∀(i:JT),(∀(j a:Int) (b:H),(∃G,hc b d=some (.pointer G)/\∃I,G=some I/\∃J,hc b (I.add 1)=some (vi J)/\if leI a J then 0≤a/\a<(↑9:Int)/\∃K,hc b (((P_ c 0).add 1).add (a.toNat*1))=some (vi K)/\if K == 0 then i [.dv (.one (vi j)),.dv (.one (vi (IntKind.i64.wrap (a+1))))] b else 0≤a/\a<(↑9:Int)/\∃L,hc b (((P_ c 0).add 1).add (a.toNat*1))=some (vi L)/\c0 a L (fun ak aw al=>∀k s,hnew al k (AA .u8 (AB 32)) s->AC s (P_ k 0) 32/\∀l,l=hwr s (P_ k 0) (AA .u8 ak++[])->∃M,hc l d=some (.pointer M)/\∃(t:List Int),t.length=32/\hrow l (P_ k 0) .u8 t/\∃N,M=some N/\c1 N e j t (fun O P=>if O != 0 then Q O P else i [.dv (.one (vi (IntKind.i64.wrap (j+1)))),.dv (.one (vi (IntKind.i64.wrap (a+1))))] P) l) b else ∃R,hc b (P_ c 0)=some (vi R)/\c6 (IntKind.i64.wrap (R+1)) (fun am ax an=>∀m u,hnew an m (AA .u8 (AB 32)) u->AC u (P_ m 0) 32/\∀n,n=hwr u (P_ m 0) (AA .u8 am++[])->∃T,hc n d=some (.pointer T)/\∃(v:List Int),v.length=32/\hrow n (P_ m 0) .u8 v/\∃U,T=some U/\c1 U e 0 v (fun ao ap=>Q ao ap) n) b)->i [.dv (.one (vi j)),.dv (.one (vi a))] b)->i [.dv (.one (vi 1)),.dv (.one (vi 0))] F)->q [] r)->if !aj then ∃V,hc p d=some (.pointer V)/\∃X,V=some X/\c3 X e (fun Y Z=>if Y != 0 then Q Y Z else q [] Z) p else q [] p) f) ab) h
def Q2:CF U3:=kP HE G9 EY KH F6 KT KJ
theorem AgY:AE PP 284 (WS U3 Q2):=ro (tc nV (tc nR (tc XB (tc tS (tc Y6 (tc t6 (tc tV tn))))))) Tryz.func284 (by kernel_rfl) ((show EE [(279,IE),(280,IA),(282,FL),(291,MH),(303,GJ),(304,MT),(305,MK)] [] U3 [(31,[]),(2042,[(11,.sc (.int .i64)),(12,.sc (.int .i64))])] Tryz.f284 kP from by(repeat intro _);kernel_rfl) HE G9 EY KH F6 KT KJ)
attribute [irreducible] Q2
abbrev U2:Sg:=([.addr,Ti,Ti],[Ti])
def kI:GT [MR,MQ,IE,IA,GK,FL,MS,U3] U2:=fun c0 c1 c2 c3 c4 c5 c6 c7 a i c Q h=>c0 a i (fun t n e=>if n != 0 then Q n e else ∀(o:JT),(∀(j:H),(if leI c t then Q 11 j else c1 a (fun u p=>if ltI 0 u then c2 i c (fun v F w=>∀b k,hnew w b (AA .u8 (AB 32)) k->AC k (P_ b 0) 32/\∀f,f=hwr k (P_ b 0) (AA .u8 v++[])->∃g,hc f a=some (.pointer g)/\∃(d:List Int),d.length=32/\hrow f (P_ b 0) .u8 d/\c4 a (fun x l=>hcs l (P_ b 0) (AA .u8 d++[])/\hcs l a [.pointer g]/\c5 a (fun G I y J K m=>hcs m (P_ b 0) (AA .u8 d++[])/\hcs m a [.pointer g]/\∃q,g=some q/\c3 q x y d (fun z A=>Q z A) m) l) f) p else c6 a (fun B r=>if B then Q 9 r else c7 a i c (fun C E=>Q C E) r) p) j)->o [] j)->if ltI c 1 then Q 2 e else ∀(s:Int),s=4611686018427387904->if ltI s c then Q 2 e else o [] e) h
def Q1:CF U2:=kI KQ KP HE G9 F7 EY KR Q2
theorem AgX:AE PP 244 (WS U2 Q1):=ro (tc t4 (tc t3 (tc nV (tc nR (tc Y7 (tc XB (tc t5 (tc AgY tn)))))))) Tryz.func244 (by kernel_rfl) ((show EE [(276,MR),(278,MQ),(279,IE),(280,IA),(281,GK),(282,FL),(283,MS),(284,U3)] [] U2 [(15,[])] Tryz.f244 kI from by(repeat intro _);kernel_rfl) KQ KP HE G9 F7 EY KR Q2)
attribute [irreducible] Q1
abbrev MP:Sg:=([.addr,Ti,Ti],[Ti])
def kG:GT [U2] MP:=fun c0 c d e Q h=>∀a b,hnew h a [.pointer (some c)] b->c0 (P_ a 0) d e (fun f g=>Q f g) b
def KO:CF MP:=kG Q1
theorem t2:AE PP 180 (WS MP KO):=ro (tc AgX tn) Tryz.func180 (by kernel_rfl) ((show EE [(244,U2)] [] MP [] Tryz.f180 kG from by(repeat intro _);kernel_rfl) Q1)
attribute [irreducible] KO
abbrev UQ:Sg:=([.addr,Ti],[Ti])
def jP:GT [] UQ:=fun a b Q h=>∃c,hc h (a.add 11)=some (.bool c)/\if c then Q 8 h else if ltI b 0 then Q 2 h else ∃e d f,hc h (a.add 9)=some (.slice e d f)/\if leI (↑d:Int) b then Q 2 h else Q 0 h
def QP:CF UQ:=jP
theorem AgL:AE PP 285 (WS UQ QP):=ro tn Tryz.func285 (by kernel_rfl) ((show EE [] [] UQ [] Tryz.f285 jP from by(repeat intro _);kernel_rfl))
attribute [irreducible] QP
abbrev MG:Sg:=([.addr,Ti],[Ti])
def jH:GT [UQ,IB,IC] MG:=fun c0 c1 c2 c a Q h=>c0 c a (fun o p=>if o != 0 then Q o p else c1 c (fun f b=>∃d e q,hc b (c.add 9)=some (.slice d e q)/\∃r s v,hc b (c.add 9)=some (.slice r s v)/\∃t,r=some t/\0≤a/\a<(↑s:Int)/\∃u,hc b (t.add (a.toNat*1))=some (.bool u)/\if u then ∃g,d=some g/\0≤a/\a<(↑e:Int)/\AC b (g.add (a.toNat*1)) 1/\∀i,i=hwr b (g.add (a.toNat*1)) [.bool true]->if f then Q 8 i else Q 0 i else if !f then ∃j,d=some j/\0≤a/\a<(↑e:Int)/\AC b (j.add (a.toNat*1)) 1/\∀k,k=hwr b (j.add (a.toNat*1)) [.bool true]->if f then Q 8 k else Q 0 k else c2 c 0 (fun w l=>hcs l (c.add 9) [.slice d e q]/\∃m,d=some m/\0≤a/\a<(↑e:Int)/\AC l (m.add (a.toNat*1)) 1/\∀n,n=hwr l (m.add (a.toNat*1)) [.bool (bits .and .u8 w 1 == 1)]->if f then Q 8 n else Q 0 n) b) p) h
def KG:CF MG:=jH QP HA HB
theorem tR:AE PP 245 (WS MG KG):=ro (tc AgL (tc nS (tc nT tn))) Tryz.func245 (by kernel_rfl) ((show EE [(285,UQ),(286,IB),(287,IC)] [] MG [] Tryz.f245 jH from by(repeat intro _);kernel_rfl) QP HA HB)
attribute [irreducible] KG
abbrev UZ:Sg:=([.addr,Ti,Ti],[Ti])
def j9:GT [MM,MG] UZ:=fun c0 c1 b f m Q h=>c0 b f (fun y n g=>∀(i:JT),(∀(o:Int) (p:H),(∀(j:JT),(∀(k d a:Int) (e:H),(∀(q:JT),(∀(c:H),(∃r s z,hc c (b.add 9)=some (.slice r s z)/\∃l,hc c (b.add 2)=some (vi l)/\∃t,r=some t/\0≤IntKind.i64.wrap (IntKind.i64.wrap (f*l)+a)/\IntKind.i64.wrap (IntKind.i64.wrap (f*l)+a)<(↑s:Int)/\∃u,hc c (t.add ((IntKind.i64.wrap (IntKind.i64.wrap (f*l)+a)).toNat*1))=some (.bool u)/\if !u then ∃v,hc c (b.add 2)=some (vi v)/\c1 b (IntKind.i64.wrap (IntKind.i64.wrap (f*v)+a)) (fun A B=>j [.dv (.one (vi (IntKind.i64.wrap (k+1)))),.dv (.one (vi A)),.dv (.one (vi (IntKind.i64.wrap (a+1))))] B) c else j [.dv (.one (vi k)),.dv (.one (vi d)),.dv (.one (vi (IntKind.i64.wrap (a+1))))] c)->q [] c)->∃w,hc e (b.add 2)=some (vi w)/\if ltI a w then if ltI k m then if d == 0 then q [] e else Q d e else Q d e else Q d e)->j [.dv (.one (vi k)),.dv (.one (vi d)),.dv (.one (vi a))] e)->j [.dv (.one (vi y)),.dv (.one (vi o)),.dv (.one (vi 0))] p)->i [.dv (.one (vi o))] p)->if n == 0 then if ltI m 0 then i [.dv (.one (vi 2))] g else ∃x,hc g (b.add 2)=some (vi x)/\if ltI x m then i [.dv (.one (vi 2))] g else i [.dv (.one (vi n))] g else i [.dv (.one (vi n))] g) h
def QY:CF UZ:=j9 KL KG
theorem AgU:AE PP 181 (WS UZ QY):=ro (tc tX (tc tR tn)) Tryz.func181 (by kernel_rfl) ((show EE [(243,MM),(245,MG)] [] UZ [(7,[(8,.sc (.int .i64))]),(122,[(7,.sc (.int .i64)),(8,.sc (.int .i64)),(9,.sc (.int .i64))]),(244,[])] Tryz.f181 j9 from by(repeat intro _);kernel_rfl) KL KG)
attribute [irreducible] QY
abbrev U6:Sg:=([.addr,Ti,Ti],[Ti])
def kV:GT [U7,U8,MP,UZ] U6:=fun c0 c1 c2 c3 a d c Q h=>c1 a d (fun r g b=>if g != 0 then Q g b else if ltI c 0 then Q 2 b else if leI c r then Q 0 b else ∃i,hc b a=some (vi i)/\∃j,hc b (a.add 1)=some (vi j)/\∃k,hc b (a.add 2)=some (vi k)/\∃l,hc b (a.add 3)=some (vi l)/\∃m,hc b (a.add 4)=some (vi m)/\∃n,hc b (a.add 5)=some (vi n)/\∃o,hc b (a.add 6)=some (vi o)/\c0 i j k l m n o (fun s p=>if ltI s c then Q 10 p else c2 a d c (fun q e=>if q != 0 then Q q e else ∃f,hc e (a.add 3)=some (vi f)/\f≠0/\c3 a d (IntKind.i64.wrap (c.tdiv f)) (fun t u=>Q t u) e) p) b) h
def Q5:CF U6:=kV IZ I0 KO QY
theorem Ah1:AE PP 110 (WS U6 Q5):=ro (tc t8 (tc t9 (tc t2 (tc AgU tn)))) Tryz.func110 (by kernel_rfl) ((show EE [(106,U7),(179,U8),(180,MP),(181,UZ)] [] U6 [] Tryz.f110 kV from by(repeat intro _);kernel_rfl) IZ I0 KO QY)
attribute [irreducible] Q5
abbrev U0:Sg:=([.addr,Ti],[Ti])
def kA:GT [MG,MN] U0:=fun c0 c1 b d Q h=>c1 b d (fun g c a=>if c != 0 then Q c a else if g then Q c a else ∃e,hc a (b.add 1)=some (vi e)/\∃f,hc a (b.add 2)=some (vi f)/\c0 b (IntKind.i64.wrap (IntKind.i64.wrap (e*f)+d)) (fun i j=>Q i j) a) h
def QZ:CF U0:=kA KG KM
theorem AgV:AE PP 182 (WS U0 QZ):=ro (tc tR (tc tY tn)) Tryz.func182 (by kernel_rfl) ((show EE [(245,MG),(246,MN)] [] U0 [] Tryz.f182 kA from by(repeat intro _);kernel_rfl) KG KM)
attribute [irreducible] QZ
abbrev U9:Sg:=([.addr,Ti],[Ti])
def kY:GT [U0] U9:=fun c0 a b Q h=>c0 a b (fun c d=>Q c d) h
def WX:CF U9:=kY QZ
theorem Ah2:AE PP 111 (WS U9 WX):=ro (tc AgV tn) Tryz.func111 (by kernel_rfl) ((show EE [(182,U0)] [] U9 [] Tryz.f111 kY from by(repeat intro _);kernel_rfl) QZ)
attribute [irreducible] WX
abbrev UO:Sg:=([.addr,Ti,.slc],[])
def jI:GT [] UO:=fun a c k d o Q h=>AC h (a.add 12) 1/\∀e,e=hwr h (a.add 12) [vi (if c > -1 then c else -1)]->∀f b,hnew e f [] b->∃(g:List Value),hsv b k 1 d g/\AW b 1 [.int .u8 0] 1 (some (P_ f 0)) 0 0 d g fun l m n i=>AC i (a.add 13) 1/\∀j,j=hwr i (a.add 13) [.slice l m n]->Q j
def NJ:CF UO:=jI
theorem AgJ:AE PP 112 (WS UO NJ):=ro tn Tryz.func112 (by kernel_rfl) ((show EE [] [] UO [] Tryz.f112 jI from by(repeat intro _);kernel_rfl))
attribute [irreducible] NJ
abbrev UP:Sg:=([.addr],[])
def jL:GT [] UP:=fun a Q h=>AC h (a.add 11) 1/\∀b,b=hwr h (a.add 11) [.bool false]->Q b
def QO:CF UP:=jL
theorem AgK:AE PP 113 (WS UP QO):=ro tn Tryz.func113 (by kernel_rfl) ((show EE [] [] UP [] Tryz.f113 jL from by(repeat intro _);kernel_rfl))
attribute [irreducible] QO
abbrev UU:Sg:=([.ag [.slc,.slc,.slc],.ag [.slc,.slc,.slc]],[.bool])
def jV:GT [] UU:=fun az a0 a1 a2 a3 a4 a5 a6 a7 a8 a9 ba bb bc bd be bf bg Q h=>∀b s,hnew h b [.slice az a0 a1,.slice a2 a3 a4,.slice a5 a6 a7] s->∀l d,hnew s l [.slice a8 a9 ba,.slice bb bc bd,.slice be bf bg] d->∀(t:JT),(∀(u:H),(∀(m:JT),(∀(a:Int) (e:H),(∃bh v bi,hc e (P_ b 0)=some (.slice bh v bi)/\if ltI a v then ∃w x bj,hc e (P_ b 0)=some (.slice w x bj)/\∃y,w=some y/\0≤a/\a<x/\∃bk z bl,hc e (y.add (a.toNat*1))=some (.slice bk z bl)/\∃A B bm,hc e (P_ l 0)=some (.slice A B bm)/\∃C,A=some C/\0≤a/\a<B/\∃bn E bo,hc e (C.add (a.toNat*1))=some (.slice bn E bo)/\if (↑z:Int) != (↑E:Int) then Q false e else ∀(n:JT),(∀(f:Int) (c:H),(∃F G bp,hc c (P_ b 0)=some (.slice F G bp)/\∃I,F=some I/\0≤a/\a<G/\∃bq J br,hc c (I.add (a.toNat*1))=some (.slice bq J br)/\if ltI f J then ∃K L bs,hc c (P_ b 0)=some (.slice K L bs)/\∃M,K=some M/\0≤a/\a<L/\∃N O bt,hc c (M.add (a.toNat*1))=some (.slice N O bt)/\∃P,N=some P/\0≤f/\f<O/\∃(o:List Int),o.length=32/\hrow c (P.add (f.toNat*32)) .u8 o/\∃R T bu,hc c (P_ l 0)=some (.slice R T bu)/\∃U,R=some U/\0≤a/\a<T/\∃V X bv,hc c (U.add (a.toNat*1))=some (.slice V X bv)/\∃Y,V=some Y/\0≤f/\f<X/\∃(p:List Int),p.length=32/\hrow c (Y.add (f.toNat*32)) .u8 p/\if !o == p then Q false c else n [.dv (.one (vi (IntKind.i64.wrap (f+1))))] c else m [.dv (.one (vi (IntKind.i64.wrap (a+1))))] c)->n [.dv (.one (vi f))] c)->n [.dv (.one (vi 0))] e else ∀(q:JT),(∀(g:Int) (i:H),(∃bw Z bx,hc i (P_ b 1)=some (.slice bw Z bx)/\if ltI g Z then ∃aa ab bz,hc i (P_ b 1)=some (.slice aa ab bz)/\∃ac,aa=some ac/\0≤g/\g<ab/\∃ad,hc i (ac.add (g.toNat*1))=some (vi ad)/\∃ae af b0,hc i (P_ l 1)=some (.slice ae af b0)/\∃ag,ae=some ag/\0≤g/\g<af/\∃ah,hc i (ag.add (g.toNat*1))=some (vi ah)/\if ad != ah then Q false i else q [.dv (.one (vi (IntKind.i64.wrap (g+1))))] i else ∀(r:JT),(∀(j:Int) (k:H),(∃b1 ai b2,hc k (P_ b 2)=some (.slice b1 ai b2)/\if ltI j ai then ∃aj ak b3,hc k (P_ b 2)=some (.slice aj ak b3)/\∃al,aj=some al/\0≤j/\j<ak/\∃am,hc k (al.add (j.toNat*1))=some (.bool am)/\∃an ao b4,hc k (P_ l 2)=some (.slice an ao b4)/\∃ap,an=some ap/\0≤j/\j<ao/\∃aq,hc k (ap.add (j.toNat*1))=some (.bool aq)/\if !am == aq then Q false k else r [.dv (.one (vi (IntKind.i64.wrap (j+1))))] k else Q true k)->r [.dv (.one (vi j))] k)->r [.dv (.one (vi 0))] i)->q [.dv (.one (vi g))] i)->q [.dv (.one (vi 0))] e)->m [.dv (.one (vi a))] e)->m [.dv (.one (vi 0))] u)->t [] u)->∃b5 ar b6,hc d (P_ b 0)=some (.slice b5 ar b6)/\∃b7 au b8,hc d (P_ l 0)=some (.slice b7 au b8)/\if (↑ar:Int) != (↑au:Int) then Q false d else ∃b9 av ca,hc d (P_ b 1)=some (.slice b9 av ca)/\∃cb aw cc,hc d (P_ l 1)=some (.slice cb aw cc)/\if (↑av:Int) != (↑aw:Int) then Q false d else ∃cd ax ce,hc d (P_ b 2)=some (.slice cd ax ce)/\∃cf ay cg,hc d (P_ l 2)=some (.slice cf ay cg)/\if (↑ax:Int) != (↑ay:Int) then Q false d else t [] d
def QT:CF UU:=jV
theorem AgP:AE PP 33 (WS UU QT):=ro tn Tryz.func33 (by kernel_rfl) ((show EE [] [] UU [(3,[]),(58,[(5,.sc (.int .i64))]),(122,[(7,.sc (.int .i64))]),(250,[(8,.sc (.int .i64))]),(7462,[(6,.sc (.int .i64))])] Tryz.f33 jV from by(repeat intro _);kernel_rfl))
attribute [irreducible] QT
abbrev V3:Sg:=([.slc],[.slc])
def r8:GT [] V3:=fun b c k Q h=>if b.isNone=true then Q none 0 0 h else ∀d a,hnew h d [] a->∃(e:List Value),hsv a b 1 c e/\AW a 1 [vi 0] 8 (some (P_ d 0)) 0 0 c e fun f g i j=>Q f g i j
def NT:CF V3:=r8
theorem AhW:AE PP 183 (WS V3 NT):=ro tn Tryz.func183 (by kernel_rfl) ((show EE [] [] V3 [] Tryz.f183 r8 from by(repeat intro _);kernel_rfl))
attribute [irreducible] NT
abbrev V1:Sg:=([.slc],[.slc])
def rZ:GT [] V1:=fun b c k Q h=>if b.isNone=true then Q none 0 0 h else ∀d a,hnew h d [] a->∃(e:List Value),hsv a b 1 c e/\AW a 1 [.bool false] 1 (some (P_ d 0)) 0 0 c e fun f g i j=>Q f g i j
def NS:CF V1:=rZ
theorem AhV:AE PP 184 (WS V1 NS):=ro tn Tryz.func184 (by kernel_rfl) ((show EE [] [] V1 [] Tryz.f184 rZ from by(repeat intro _);kernel_rfl))
attribute [irreducible] NS
abbrev V0:Sg:=([.slc],[.slc])
def rY:GT [] V0:=fun b c k Q h=>if b.isNone=true then Q none 0 0 h else ∀d a,hnew h d [] a->∃(e:List Value),hsv a b 32 c e/\AW a 32 (AA .u8 (AB 32)) 32 (some (P_ d 0)) 0 0 c e fun f g i j=>Q f g i j
def NR:CF V0:=rY
theorem AhU:AE PP 185 (WS V0 NR):=ro tn Tryz.func185 (by kernel_rfl) ((show EE [] [] V0 [] Tryz.f185 rY from by(repeat intro _);kernel_rfl))
attribute [irreducible] NR
abbrev LU:Sg:=([.ag [.slc,.slc,.slc]],[.ag [.slc,.slc,.slc]])
def fJ:GT [V3,V1,V0] LU:=fun c0 c1 c2 aw ax ay az a0 a1 a2 a3 a4 Q h=>∀a E,hnew h a [.slice aw ax ay,.slice az a0 a1,.slice a2 a3 a4] E->∀g j,hnew E g [.slice none 0 0,.slice none 0 0,.slice none 0 0] j->∀(l:JT),(∀(b:Addr) (x:H),(∃F y a5,hc x (P_ a 0)=some (.slice F y a5)/\∀(z:JT),(∀(i:Int) (c:H),(if ltI i y then ∃G,F=some G/\0≤i/\i<y/\∃I J K,hc c (G.add (i.toNat*1))=some (.slice I J K)/\∃m n o,hc c b=some (.slice m n o)/\c2 I J K (fun a6 a7 a8 L=>hcs L b [.slice m n o]/\∀M p,hnew L M [.slice a6 a7 a8] p->hcs p b [.slice m n o]/\∃(N:List Value),hsv p (some (P_ M 0)) 1 1 N/\AW p 1 [.slice none 0 0] 24 m n o 1 N fun a9 ba bb O=>AC O b 1/\∀P,P=hwr O b [.slice a9 ba bb]->z [.dv (.one (vi (IntKind.i64.wrap (i+1))))] P) c else ∃R T U,hc c b=some (.slice R T U)/\∃V X Y,hc c (b.add 1)=some (.slice V X Y)/\∃Z aa ab,hc c (b.add 2)=some (.slice Z aa ab)/\AC c (P_ g 0) 3/\∀k,k=hwr c (P_ g 0) [.slice R T U,.slice V X Y,.slice Z aa ab]->∃ac ad ae,hc k (P_ g 0)=some (.slice ac ad ae)/\∃af ag ah,hc k (P_ g 1)=some (.slice af ag ah)/\∃ai aj ak,hc k (P_ g 2)=some (.slice ai aj ak)/\Q ac ad ae af ag ah ai aj ak k)->z [.dv (.one (vi i))] c)->z [.dv (.one (vi 0))] x)->l [SV.dv (DV.addr b)] x)->∃q r s,hc j (P_ a 1)=some (.slice q r s)/\∃d e f,hc j (P_ a 2)=some (.slice d e f)/\c0 q r s (fun al am an A=>hcs A (P_ a 2) [.slice d e f]/\c1 d e f (fun bc bd be bf=>∀t B,hnew bf t [.slice none 0 0,.slice none 0 0,.slice none 0 0] B->AC B (P_ t 0) 3/\∀ao,ao=hwr B (P_ t 0) [.slice none 0 0,.slice al am an,.slice bc bd be]->l [SV.dv (DV.addr (P_ t 0))] ao) A/\∀u C,hnew A u [.slice none 0 0,.slice none 0 0,.slice none 0 0] C->hcs C (P_ a 2) [.slice d e f]/\c1 d e f (fun bg bh bi ap=>AC ap (P_ u 0) 3/\∀aq,aq=hwr ap (P_ u 0) [.slice none 0 0,.slice al am an,.slice bg bh bi]->l [SV.dv (DV.addr (P_ u 0))] aq) C) j/\∀v w,hnew j v [.slice none 0 0,.slice none 0 0,.slice none 0 0] w->hcs w (P_ a 2) [.slice d e f]/\hcs w (P_ a 1) [.slice q r s]/\c0 q r s (fun bj bk bl ar=>hcs ar (P_ a 2) [.slice d e f]/\c1 d e f (fun bm bn bo au=>AC au (P_ v 0) 3/\∀av,av=hwr au (P_ v 0) [.slice none 0 0,.slice bj bk bl,.slice bm bn bo]->l [SV.dv (DV.addr (P_ v 0))] av) ar) w
def JV:CF LU:=fJ NT NS NR
theorem sS:AE PP 114 (WS LU JV):=ro (tc AhW (tc AhV (tc AhU tn))) Tryz.func114 (by kernel_rfl) ((show EE [(183,V3),(184,V1),(185,V0)] [] LU [(3,[(3,.addr)]),(58,[(16,.sc (.int .i64))])] Tryz.f114 fJ from by(repeat intro _);kernel_rfl) NT NS NR)
attribute [irreducible] JV
abbrev S2:Sg:=([.addr],[.ag [.slc,.slc,.slc]])
def eX:GT [LU] S2:=fun c0 d Q h=>∀a b,hnew h a [.slice none 0 0,.slice none 0 0,.slice none 0 0] b->∃e f g,hc b (d.add 7)=some (.slice e f g)/\∃i j k,hc b (d.add 8)=some (.slice i j k)/\∃l m n,hc b (d.add 9)=some (.slice l m n)/\c0 e f g i j k l m n (fun y z A B C E F G I o=>AC o (P_ a 0) 3/\∀c,c=hwr o (P_ a 0) [.slice y z A,.slice B C E,.slice F G I]->∃p q r,hc c (P_ a 0)=some (.slice p q r)/\∃s t u,hc c (P_ a 1)=some (.slice s t u)/\∃v w x,hc c (P_ a 2)=some (.slice v w x)/\Q p q r s t u v w x c) b
def O6:CF S2:=eX JV
theorem AeX:AE PP 34 (WS S2 O6):=ro (tc sS tn) Tryz.func34 (by kernel_rfl) ((show EE [(114,LU)] [] S2 [] Tryz.f34 eX from by(repeat intro _);kernel_rfl) JV)
attribute [irreducible] O6
abbrev bV:Sg:=([Ti],[.fn])
def gS:GT [] bV:=fun c Q h=>∀a b,hnew h a [vi c] b->Q (.func (Fn.func AlT) (Array.mk []) (Array.mk [.pointer (some (P_ a 0))])) b
def PT:CF bV:=gS
theorem AfM:AE PP 119 (WS bV PT):=ro tn Tryz.func119 (by kernel_rfl) ((show EE [] [] bV [] Tryz.f119 gS from by(repeat intro _);kernel_rfl))
attribute [irreducible] PT
abbrev LK:Sg:=([.ag [Si,Si,Si,Si,Si,Si,Si]],[Ti])
def dO:GT [H7] LK:=fun c0 n o p q r s t Q h=>∀a b,hnew h a [vi n,vi o,vi p,vi q,vi r,vi s,vi t] b->∃d,hc b (P_ a 0)=some (vi d)/\∃e,hc b (P_ a 1)=some (vi e)/\∃f,hc b (P_ a 2)=some (vi f)/\∃g,hc b (P_ a 3)=some (vi g)/\∃i,hc b (P_ a 4)=some (vi i)/\∃j,hc b (P_ a 5)=some (vi j)/\∃k,hc b (P_ a 6)=some (vi k)/\c0 d e f g i j k (fun u c=>if u != 0 then Q 0 c else ∃l,hc c (P_ a 6)=some (vi l)/\∃m,hc c (P_ a 0)=some (vi m)/\Q (IntKind.i64.wrap (IntKind.i64.wrap (l*m)*32)) c) b
def IR:CF LK:=dO GN
theorem nH:AE PP 121 (WS LK IR):=ro (tc nN tn) Tryz.func121 (by kernel_rfl) ((show EE [(90,H7)] [] LK [] Tryz.f121 dO from by(repeat intro _);kernel_rfl) GN)
attribute [irreducible] IR
abbrev LL:Sg:=([.addr,Ti],[Ti])
def dR:GT [ET] LL:=fun c0 c b Q h=>c0 c (fun d a=>if d then Q 8 a else if ltI b 0 then Q 2 a else if ltI 1 b then Q 2 a else Q 0 a) h
def JL:CF LL:=dR EJ
theorem sF:AE PP 193 (WS LL JL):=ro (tc RZ tn) Tryz.func193 (by kernel_rfl) ((show EE [(42,ET)] [] LL [] Tryz.f193 dR from by(repeat intro _);kernel_rfl) EJ)
attribute [irreducible] JL
abbrev H0:Sg:=([.addr,Ti],[Ti,Ti])
def dV:GT [BG] H0:=fun c0 c a Q h=>c0 c (fun e f g i j k b d=>Q (IntKind.i64.wrap (2+IntKind.i64.wrap (a*b))) (IntKind.i64.wrap (2+IntKind.i64.wrap (IntKind.i64.wrap (a+1)*b))) d) h
def G1:CF H0:=dV BC
theorem nI:AE PP 194 (WS H0 G1):=ro (tc CU tn) Tryz.func194 (by kernel_rfl) ((show EE [(63,BG)] [] H0 [] Tryz.f194 dV from by(repeat intro _);kernel_rfl) BC)
attribute [irreducible] G1
abbrev LN:Sg:=([.addr,Ti,Ti],[Ti,Ti])
def dW:GT [BG,H0] LN:=fun c0 c1 b d c Q h=>c1 b d (fun e i f=>c0 b (fun a j k l m n o g=>a≠0/\a≠0/\Q (IntKind.i64.wrap (e+IntKind.i64.wrap (c.tdiv a))) (c.tmod a) g) f) h
def JN:CF LN:=dW BC G1
theorem sI:AE PP 200 (WS LN JN):=ro (tc CU (tc nI tn)) Tryz.func200 (by kernel_rfl) ((show EE [(63,BG),(194,H0)] [] LN [] Tryz.f200 dW from by(repeat intro _);kernel_rfl) BC G1)
attribute [irreducible] JN
abbrev SQ:Sg:=([.addr,Ti,Ti],[.slc,Ti])
def dT:GT [LN,H5] SQ:=fun c0 c1 l o a Q h=>∀(d:JT),(∀(e:OA) (f g:Nat) (i:Int) (j:H),(if ltI (↑f:Int) a then c0 l o i (fun p q r=>c1 l p q (fun s m t=>∀b k,hnew t b (AA .u8 (AB 32)) k->AC k (P_ b 0) 32/\∀c,c=hwr k (P_ b 0) (AA .u8 s++[])->if m != 0 then Q none 0 0 m c else ∃(n:List Value),hsv c (AJ (some (P_ b 0)) 0 32 1) 1 32 n/\AW c 1 [.int .u8 0] 1 e f g 32 n fun u v w x=>d [.dv (.one (.slice u v w)),.dv (.one (vi (IntKind.i64.wrap (i+1))))] x) r) j else 0≤a/\a≤a/\a≤(↑g:Int)/\Q (AJ e 0 a.toNat 1) (a.toNat-0) (a.toNat-0) 0 j)->d [.dv (.one (.slice e f g)),.dv (.one (vi i))] j)->d [.dv (.one (.slice none 0 0)),.dv (.one (vi 0))] h
def OX:CF SQ:=dT JN G4
theorem AeN:AE PP 249 (WS SQ OX):=ro (tc sI (tc nL tn)) Tryz.func249 (by kernel_rfl) ((show EE [(200,LN),(250,H5)] [] SQ [(58,[(8,.sc (.slc)),(9,.sc (.int .i64))])] Tryz.f249 dT from by(repeat intro _);kernel_rfl) JN G4)
attribute [irreducible] OX
abbrev SO:Sg:=([.addr,Ti],[.slc,Ti])
def dN:GT [L2,BG,LK,LL,SQ] SO:=fun c0 c1 c2 c3 c4 b e Q h=>c3 b e (fun n o=>if n != 0 then Q none 0 0 n o else c1 b (fun C E F G I J K L=>c2 C E F G I J K (fun p q=>if ltI p 48 then Q none 0 0 5 q else c4 b e 48 (fun c d X r a=>if r != 0 then Q none 0 0 r a else ∃s,c=some s/\(0:Int)≤12/\12<(↑d:Int)/\∃f,hc a (s.add 12)=some (.int .u8 f)/\∃t,c=some t/\(0:Int)≤13/\13<(↑d:Int)/\∃g,hc a (t.add 13)=some (.int .u8 g)/\(0:Int)≤8/\∃u,c=some u/\(0:Int)≤14/\14<(↑d:Int)/\∃i,hc a (u.add 14)=some (.int .u8 i)/\(0:Int)≤16/\∃v,c=some v/\(0:Int)≤15/\15<(↑d:Int)/\∃j,hc a (v.add 15)=some (.int .u8 j)/\(0:Int)≤24/\if ltI p (IntKind.i64.wrap (48+bits .or .i64 (bits .or .i64 (bits .or .i64 (IntKind.i64.wrap f) (IntKind.i64.wrap (IntKind.i64.wrap g*2^min (Int.toNat 8) IntKind.i64.bits))) (IntKind.i64.wrap (IntKind.i64.wrap i*2^min (Int.toNat 16) IntKind.i64.bits))) (IntKind.i64.wrap (IntKind.i64.wrap j*2^min (Int.toNat 24) IntKind.i64.bits)))) then Q none 0 0 5 a else c4 b e (IntKind.i64.wrap (48+bits .or .i64 (bits .or .i64 (bits .or .i64 (IntKind.i64.wrap f) (IntKind.i64.wrap (IntKind.i64.wrap g*2^8))) (IntKind.i64.wrap (IntKind.i64.wrap i*2^16))) (IntKind.i64.wrap (IntKind.i64.wrap j*2^24)))) (fun w x y z A=>if z != 0 then Q none 0 0 z A else c0 w x y (fun M N O P R T U B V=>∀k l,hnew V k (vi 0::vi 0::vi 0::.slice none 0 0::AA .u8 (AB 32)) l->AC l (P_ k 0) 36/\∀m,m=hwr l (P_ k 0) (vi M::vi N::vi O::.slice P R T::(AA .u8 U++[]))->HR B=true/\if !SE B then Q none 0 0 5 m else Q w x y 0 m) A) a) q) L) o) h
def OW:CF SO:=dN JY BC IR JL OX
theorem AeL:AE PP 192 (WS SO OW):=ro (tc tA (tc CU (tc nH (tc sF (tc AeN tn))))) Tryz.func192 (by kernel_rfl) ((show EE [(13,L2),(63,BG),(121,LK),(193,LL),(249,SQ)] [] SO [] Tryz.f192 dN from by(repeat intro _);kernel_rfl) JY BC IR JL OX)
attribute [irreducible] OW
abbrev bT:Sg:=([.addr,Ti],[.ag [Si,Si,Si,.slc,.row .u8 32],.bool])
def gP:GT [TF,SO] bT:=fun c0 c1 k ao Q h=>∀a o,hnew h a (vi 0::vi 0::vi 0::.slice none 0 0::AA .u8 (AB 32)) o->∃v,hc o k=some (.pointer v)/\∃w,v=some w/\c1 w ao (fun x y z ap j=>if ap != 0 then AC j (P_ a 0) 36/\∀f,f=hwr j (P_ a 0) (vi 0::vi 0::vi 0::.slice none 0 0::AA .u8 (AB 32))->∃A,hc f (P_ a 0)=some (vi A)/\∃B,hc f (P_ a 1)=some (vi B)/\∃C,hc f (P_ a 2)=some (vi C)/\∃E F G,hc f (P_ a 3)=some (.slice E F G)/\∃(p:List Int),p.length=32/\hrow f (P_ a 4) .u8 p/\Q A B C E F G p false f else ∃l,hc j (k.add 1)=some (.pointer l)/\∃m,hc j (k.add 2)=some (.pointer m)/\(∃I,l=some I/\∃J,m=some J/\c0 I J x y z (fun aq ar au av aw ax ay az a2=>∀b q,hnew a2 b (vi 0::vi 0::vi 0::.slice none 0 0::AA .u8 (AB 32)) q->AC q (P_ b 0) 36/\∀c,c=hwr q (P_ b 0) (vi aq::vi ar::vi au::.slice av aw ax::(AA .u8 ay++[]))->∃K,hc c (P_ b 0)=some (vi K)/\∃L,hc c (P_ b 1)=some (vi L)/\∃M,hc c (P_ b 2)=some (vi M)/\∃N O P,hc c (P_ b 3)=some (.slice N O P)/\∃(r:List Int),r.length=32/\hrow c (P_ b 4) .u8 r/\AC c (P_ a 0) 36/\∀g,g=hwr c (P_ a 0) (vi K::vi L::vi M::.slice N O P::(AA .u8 r++[]))->∃R,hc g (P_ a 0)=some (vi R)/\∃T,hc g (P_ a 1)=some (vi T)/\∃U,hc g (P_ a 2)=some (vi U)/\∃V X Y,hc g (P_ a 3)=some (.slice V X Y)/\∃(s:List Int),s.length=32/\hrow g (P_ a 4) .u8 s/\Q R T U V X Y s (az == 0) g) j)/\∀d n,hnew j d (vi 0::vi 0::vi 0::.slice none 0 0::AA .u8 (AB 32)) n->hcs n (k.add 2) [.pointer m]/\hcs n (k.add 1) [.pointer l]/\∃Z,l=some Z/\∃aa,m=some aa/\c0 Z aa x y z (fun a3 a4 a5 a6 a7 a8 a9 ba ab=>AC ab (P_ d 0) 36/\∀e,e=hwr ab (P_ d 0) (vi a3::vi a4::vi a5::.slice a6 a7 a8::(AA .u8 a9++[]))->∃ac,hc e (P_ d 0)=some (vi ac)/\∃ad,hc e (P_ d 1)=some (vi ad)/\∃ae,hc e (P_ d 2)=some (vi ae)/\∃af ag ah,hc e (P_ d 3)=some (.slice af ag ah)/\∃(t:List Int),t.length=32/\hrow e (P_ d 4) .u8 t/\AC e (P_ a 0) 36/\∀i,i=hwr e (P_ a 0) (vi ac::vi ad::vi ae::.slice af ag ah::(AA .u8 t++[]))->∃ai,hc i (P_ a 0)=some (vi ai)/\∃aj,hc i (P_ a 1)=some (vi aj)/\∃ak,hc i (P_ a 2)=some (vi ak)/\∃al am an,hc i (P_ a 3)=some (.slice al am an)/\∃(u:List Int),u.length=32/\hrow i (P_ a 4) .u8 u/\Q ai aj ak al am an u (ba == 0) i) n) o
def NI:CF bT:=gP GO OW
theorem AfK:AE PP 120 (WS bT NI):=ro (tc sY (tc AeL tn)) Tryz.func120 (by kernel_rfl) ((show EE [(12,TF),(192,SO)] [] bT [] Tryz.f120 gP from by(repeat intro _);kernel_rfl) GO OW)
attribute [irreducible] NI
abbrev LM:Sg:=([],[.ag [.row .u8 32]])
def dS:GT [] LM:=fun Q h=>∀c j,hnew h c (AA .u8 (AB 32)) j->∀d k,hnew j d (AA .u8 (AB 32)) k->∀(e:JT),(∀(a:Int) (b:H),(if ltI a 32 then 0≤a/\a<(↑32:Int)/\AC b ((P_ d 0).add (a.toNat*1)) 1/\∀l,l=hwr b ((P_ d 0).add (a.toNat*1)) [.int .u8 255]->e [.dv (.one (vi (IntKind.i64.wrap (a+1))))] l else ∃(f:List Int),f.length=32/\hrow b (P_ d 0) .u8 f/\AC b (P_ c 0) 32/\∀g,g=hwr b (P_ c 0) (AA .u8 f++[])->∃(i:List Int),i.length=32/\hrow g (P_ c 0) .u8 i/\Q i g)->e [.dv (.one (vi a))] b)->e [.dv (.one (vi 0))] k
def JM:CF LM:=dS
theorem sH:AE PP 251 (WS LM JM):=ro tn Tryz.func251 (by kernel_rfl) ((show EE [] [] LM [(58,[(3,.sc (.int .i64))])] Tryz.f251 dS from by(repeat intro _);kernel_rfl))
attribute [irreducible] JM
abbrev LO:Sg:=([.addr,Ti],[.bool])
def dX:GT [BG,H5,LM] LO:=fun c0 c1 c2 j k Q h=>c0 j (fun l r s t u v w m=>∀(c:JT),(∀(a:Int) (f:H),(if ltI a l then c1 j k a (fun n o p=>∀b g,hnew p b (AA .u8 (AB 32)) g->AC g (P_ b 0) 32/\∀d,d=hwr g (P_ b 0) (AA .u8 n++[])->if o == 0 then ∃(e:List Int),e.length=32/\hrow d (P_ b 0) .u8 e/\c2 (fun q i=>hcs i (P_ b 0) (AA .u8 e++[])/\if !e == q then Q true i else c [.dv (.one (vi (IntKind.i64.wrap (a+1))))] i) d else c [.dv (.one (vi (IntKind.i64.wrap (a+1))))] d) f else Q false f)->c [.dv (.one (vi a))] f)->c [.dv (.one (vi 0))] m) h
def JO:CF LO:=dX BC G4 JM
theorem sJ:AE PP 196 (WS LO JO):=ro (tc CU (tc nL (tc sH tn))) Tryz.func196 (by kernel_rfl) ((show EE [(63,BG),(250,H5),(251,LM)] [] LO [(26,[(11,.sc (.int .i64))])] Tryz.f196 dX from by(repeat intro _);kernel_rfl) BC G4 JM)
attribute [irreducible] JO
abbrev SP:Sg:=([.addr,Ti],[.bool,Ti])
def dP:GT [BG,LL,H0,H4,LO] SP:=fun c0 c1 c2 c3 c4 b e Q h=>c1 b e (fun f g=>if f != 0 then Q false f g else c2 b e (fun l m n=>∀(c:JT),(∀(a:Int) (d:H),(if ltI a m then c3 b a (fun o p i=>if p == 0 then c0 b (fun s t u v w q x j=>if leI q o then c4 b a (fun r k=>if r then Q true 0 k else c [.dv (.one (vi (IntKind.i64.wrap (a+1))))] k) j else c [.dv (.one (vi (IntKind.i64.wrap (a+1))))] j) i else c [.dv (.one (vi (IntKind.i64.wrap (a+1))))] i) d else Q false 0 d)->c [.dv (.one (vi a))] d)->c [.dv (.one (vi l))] n) g) h
def NG:CF SP:=dP BC JL G1 G3 JO
theorem sD:AE PP 122 (WS SP NG):=ro (tc CU (tc sF (tc nI (tc nK (tc sJ tn))))) Tryz.func122 (by kernel_rfl) ((show EE [(63,BG),(193,LL),(194,H0),(195,H4),(196,LO)] [] SP [(122,[(9,.sc (.int .i64))])] Tryz.f122 dP from by(repeat intro _);kernel_rfl) BC JL G1 G3 JO)
attribute [irreducible] NG
abbrev TR:Sg:=([.addr],[Ti])
def gT:GT [BG,GI,FK] TR:=fun c0 c1 c2 p Q h=>c1 p (fun u v w x y z A B C E F G I=>∀b e,hnew I b (vi 0::(AA .i64 (AB 9)++vi 0::.bool false::vi 0::vi 0::(AA .i64 (AB 9)++[vi 0,.bool false,vi 0,vi 0]))) e->AC e (P_ b 0) 27/\∀a,a=hwr e (P_ b 0) (vi u::(AA .i64 v++vi w::.bool x::vi y::vi z::(AA .i64 A++[vi B,.bool C,vi E,vi F])))->if G != 0 then Q 0 a else ∃q,hc a (P_ b 26)=some (vi q)/\if ltI q 0 then Q 0 a else ∃r,hc a p=some (.pointer r)/\∃f,hc a (P_ b 0)=some (vi f)/\∃(c:List Int),c.length=9/\hrow a (P_ b 1) .i64 c/\∃g,hc a (P_ b 10)=some (vi g)/\∃i,hc a (P_ b 11)=some (.bool i)/\∃j,hc a (P_ b 12)=some (vi j)/\∃k,hc a (P_ b 13)=some (vi k)/\∃(d:List Int),d.length=9/\hrow a (P_ b 14) .i64 d/\∃l,hc a (P_ b 23)=some (vi l)/\∃m,hc a (P_ b 24)=some (.bool m)/\∃n,hc a (P_ b 25)=some (vi n)/\∃o,hc a (P_ b 26)=some (vi o)/\∃s,r=some s/\c0 s (fun J M N O P R T t=>hcs t (P_ b 0) (vi f::(AA .i64 c++vi g::.bool i::vi j::vi k::(AA .i64 d++[vi l,.bool m,vi n,vi o])))/\c2 f c g i j k d l m n o (fun U V K X Y L=>Q (IntKind.i64.wrap (J-K)) L) t) a) h
def PU:CF TR:=gT BC F5 EX
theorem AfN:AE PP 197 (WS TR PU):=ro (tc CU (tc Y5 (tc XA tn))) Tryz.func197 (by kernel_rfl) ((show EE [(63,BG),(165,GI),(167,FK)] [] TR [] Tryz.f197 gT from by(repeat intro _);kernel_rfl) BC F5 EX)
attribute [irreducible] PU
abbrev TS:Sg:=([.addr],[.bool])
def gW:GT [GI,L9] TS:=fun c0 c1 f Q h=>c0 f (fun q r s t u v w x y z A B C=>∀a c,hnew C a (vi 0::(AA .i64 (AB 9)++vi 0::.bool false::vi 0::vi 0::(AA .i64 (AB 9)++[vi 0,.bool false,vi 0,vi 0]))) c->AC c (P_ a 0) 27/\∀b,b=hwr c (P_ a 0) (vi q::(AA .i64 r++vi s::.bool t::vi u::vi v::(AA .i64 w++[vi x,.bool y,vi z,vi A])))->if B == 0 then ∃g,hc b (P_ a 0)=some (vi g)/\∃(d:List Int),d.length=9/\hrow b (P_ a 1) .i64 d/\∃i,hc b (P_ a 10)=some (vi i)/\∃j,hc b (P_ a 11)=some (.bool j)/\∃k,hc b (P_ a 12)=some (vi k)/\∃l,hc b (P_ a 13)=some (vi l)/\∃(e:List Int),e.length=9/\hrow b (P_ a 14) .i64 e/\∃m,hc b (P_ a 23)=some (vi m)/\∃n,hc b (P_ a 24)=some (.bool n)/\∃o,hc b (P_ a 25)=some (vi o)/\∃p,hc b (P_ a 26)=some (vi p)/\c1 f g d i j k l e m n o p (fun E F=>Q E F) b else Q false b) h
def PV:CF TS:=gW F5 KA
theorem AfO:AE PP 198 (WS TS PV):=ro (tc Y5 (tc tJ tn)) Tryz.func198 (by kernel_rfl) ((show EE [(165,GI),(170,L9)] [] TS [] Tryz.f198 gW from by(repeat intro _);kernel_rfl) F5 KA)
attribute [irreducible] PV
abbrev bU:Sg:=([.addr,Ti],[.bool])
def gQ:GT [MA,TR,TS] bU:=fun c0 c1 c2 m a Q h=>∃b,hc h m=some (.pointer b)/\∃c,b=some c/\c0 c (fun d n e=>if n == 0 then ∃f,d=some f/\c1 f (fun o g=>if ltI 0 o then ∀(i:Int),i=4611686018427387904->Q (ltI a i) g else ∃j,d=some j/\c2 j (fun p k=>if !p then ∀(l:Int),l=4611686018427387904->Q (ltI a l) k else Q false k) g) e else Q false e) h
def WQ:CF bU:=gQ KB PU PV
theorem AfL:AE PP 123 (WS bU WQ):=ro (tc tK (tc AfN (tc AfO tn))) Tryz.func123 (by kernel_rfl) ((show EE [(142,MA),(197,TR),(198,TS)] [] bU [] Tryz.f123 gQ from by(repeat intro _);kernel_rfl) KB PU PV)
attribute [irreducible] WQ
abbrev SS:Sg:=([.slc,Ti],[.ag [.row .u8 32]])
def dU:GT [LM] SS:=fun c0 r e f a Q h=>∀b d,hnew h b (AA .u8 (AB 32)) d->0≤IntKind.i64.wrap (a*32)/\IntKind.i64.wrap (a*32)≤(↑e:Int)/\if leI 32 (↑(e-(IntKind.i64.wrap (a*32)).toNat):Int) then (0:Int)≤32/\32≤(↑(f-(IntKind.i64.wrap (a*32)).toNat):Int)/\∃(s:Addr),AJ (AJ r (IntKind.i64.wrap (a*32)).toNat f 1) 0 (f-(IntKind.i64.wrap (a*32)).toNat) 1=some s/\32≤32/\∃(j:List Int),j.length=32/\hrow d s .u8 j/\AC d (P_ b 0) 32/\∀k,k=hwr d (P_ b 0) (AA .u8 j++[])->∃(l:List Int),l.length=32/\hrow k (P_ b 0) .u8 l/\Q l k else c0 (fun u v=>∀c m,hnew v c (AA .u8 (AB 32)) m->AC m (P_ c 0) 32/\∀g,g=hwr m (P_ c 0) (AA .u8 u++[])->∃(n:List Value),hsv g (AJ r (IntKind.i64.wrap (a*32)).toNat f 1) 1 ((e-(IntKind.i64.wrap (a*32)).toNat).min 32) n/\(n=[]∨∃(t:Addr),AJ (some (P_ c 0)) 0 32 1=some t/\AC g t ((e-(IntKind.i64.wrap (a*32)).toNat).min 32*1))/\∀(i:H),i=E1 g (AJ (some (P_ c 0)) 0 32 1) n->∃(o:List Int),o.length=32/\hrow i (P_ c 0) .u8 o/\AC i (P_ b 0) 32/\∀p,p=hwr i (P_ b 0) (AA .u8 o++[])->∃(q:List Int),q.length=32/\hrow p (P_ b 0) .u8 q/\Q q p) d
def OY:CF SS:=dU JM
theorem AeO:AE PP 201 (WS SS OY):=ro (tc sH tn) Tryz.func201 (by kernel_rfl) ((show EE [(251,LM)] [] SS [] Tryz.f201 dU from by(repeat intro _);kernel_rfl) JM)
attribute [irreducible] OY
abbrev bN:Sg:=([.addr,Ti,.slc],[Ti])
def dQ:GT [BG,LK,SP,GH,H0,LO,LS,LN,SS] bN:=fun c0 c1 c2 c3 c4 c5 c6 c7 c8 a f s b t Q h=>c2 a f (fun u m g=>if m != 0 then Q m g else if (↑b:Int)==0 then Q 1 g else c0 a (fun v w x y z A B C=>c1 v w x y z A B (fun E i=>if ltI E b then Q 4 i else if u then Q 9 i else c4 a f (fun F G I=>∀(e:JT),(∀(c:Int) (j:H),(if ltI c G then c5 a c (fun J n=>if !J then e [.dv (.one (vi (IntKind.i64.wrap (c+1))))] n else c6 a c (fun o p=>if o != 0 then Q o p else e [.dv (.one (vi (IntKind.i64.wrap (c+1))))] p) n) j else (32:Int)≠0/\∀(k:JT),(∀(d:Int) (l:H),(if ltI d (IntKind.i64.wrap ((IntKind.i64.wrap (IntKind.i64.wrap ((↑b:Int)+32)-1)).tdiv 32)) then IntKind.i64.wrap ((IntKind.i64.wrap (IntKind.i64.wrap ((↑b:Int)+32)-1)).tdiv 32)≠0/\c7 a f ((IntKind.i64.wrap (d+1)).tmod (IntKind.i64.wrap ((IntKind.i64.wrap (IntKind.i64.wrap ((↑b:Int)+32)-1)).tdiv 32))) (fun K L M=>c8 s b t ((IntKind.i64.wrap (d+1)).tmod (IntKind.i64.wrap ((IntKind.i64.wrap (IntKind.i64.wrap ((↑b:Int)+32)-1)).tdiv 32))) (fun N O=>c3 a K L N (fun q r=>if q != 0 then Q q r else k [.dv (.one (vi (IntKind.i64.wrap (d+1))))] r) O) M) l else Q 0 l)->k [.dv (.one (vi d))] l)->k [.dv (.one (vi 0))] j)->e [.dv (.one (vi c))] j)->e [.dv (.one (vi F))] I) i) C) g) h
def WN:CF bN:=dQ BC IR NG F4 G1 JO JR JN OY
theorem AeM:AE PP 124 (WS bN WN):=ro (tc CU (tc nH (tc sD (tc Y4 (tc nI (tc sJ (tc sP (tc sI (tc AeO tn))))))))) Tryz.func124 (by kernel_rfl) ((show EE [(63,BG),(121,LK),(122,SP),(169,GH),(194,H0),(196,LO),(199,LS),(200,LN),(201,SS)] [] bN [(250,[(11,.sc (.int .i64))]),(1018,[(70,.sc (.int .i64))])] Tryz.f124 dQ from by(repeat intro _);kernel_rfl) BC IR NG F4 G1 JO JR JN OY)
attribute [irreducible] WN
abbrev cC:Sg:=([.addr,Ti],[Ti])
def mX:GT [BG,M6,L6] cC:=fun c0 c1 c2 b c Q h=>c1 b (fun l e a=>if e != 0 then Q e a else if leI c l then Q 2 a else ∀(f:Int),f=4611686018427387904->if ltI f c then Q 2 a else ∃d,hc a (b.add 1)=some (.pointer d)/\∃g,hc a b=some (.pointer g)/\∃i,g=some i/\c0 i (fun p m q r s t u j=>hcs j (b.add 1) [.pointer d]/\∃k,d=some k/\c2 k m c (fun n o=>Q n o) j) a) h
def W7:CF cC:=mX BC F8 J5
theorem Ai2:AE PP 125 (WS cC W7):=ro (tc CU (tc Y8 (tc tG tn))) Tryz.func125 (by kernel_rfl) ((show EE [(63,BG),(66,M6),(100,L6)] [] cC [] Tryz.f125 mX from by(repeat intro _);kernel_rfl) BC F8 J5)
attribute [irreducible] W7
end Go.Proofs.YteedolonhdbieaaGreatDoor
end
section
namespace Go.Proofs.YteedolonhdbieaaGreatDoor
open Go Go.RowKit Go.Vc
set_option maxRecDepth 100000
theorem AjJ:Tryz.f40.body=some cS:=by kernel_rfl
theorem AjK:cS=.seq (sL cS) (.seq (sL (sR cS)) (.seq (sL (sR (sR cS))) (.seq (.seq (sL (sL (sR (sR (sR cS))))) (sR (sL (sR (sR (sR cS)))))) (.seq (sL (sR (sR (sR (sR cS))))) .ret)))):=by kernel_rfl
theorem ann_all:CM [] (sL cS) 1=true/\CM [] (sL (sR cS)) 1=true/\CM [] (sL (sR (sR cS))) 1=true/\CM [] (sL (sL (sR (sR (sR cS))))) 1=true/\CM [] (sL (sR (sR (sR (sR cS))))) 1=true:=⟨by kernel_rfl,by kernel_rfl,by kernel_rfl,by kernel_rfl,by kernel_rfl⟩
theorem asg_all:((asg (sL cS)).all fun d=>Nat.blt d 35)=true/\((asg (sL (sR cS))).all fun d=>Nat.blt d 35)=true/\((asg (sL (sR (sR cS)))).all fun d=>Nat.blt d 35)=true/\((asg (sL (sL (sR (sR (sR cS)))))).all fun d=>Nat.blt d 35)=true/\((asg (sL (sR (sR (sR (sR cS)))))).all fun d=>Nat.blt d 35)=true:=⟨by kernel_rfl,by kernel_rfl,by kernel_rfl,by kernel_rfl,by kernel_rfl⟩
theorem wP{fr:Fr}{tmps:Array Value}{a2 a3 a4:Addr}(hF:FR fr tmps)(e2:get fr 2=.dv (.addr a2))(e3:get fr 3=.dv (.addr a3))(e4:get fr 4=.dv (.addr a4)):FR [(2,.dv (.addr a2)),(3,.dv (.addr a3)),(4,.dv (.addr a4))] tmps:=
 rW hF fun i=>by
  match i with
  | 2=>exact Or.inr e2.symm
  | 3=>exact Or.inr e3.symm
  | 4=>exact Or.inr e4.symm
  | 0=>exact Or.inl rfl
  | 1=>exact Or.inl rfl
  | n+5=>exact Or.inl rfl
theorem AcJ{F1:Addr->(Int->Int->HP)->HP}{F2:Int->(Value->HP)->HP}{F3:Addr->Int->(Int->Int->Int->Option Addr->Nat->Nat->List Int->Bool->HP)->HP}
  (h1:AE Tryz.prog 66 (W [.addr] [.int .i64,.int .i64] F1)) (h2:AE Tryz.prog 119 (W [.int .i64] [.fn] F2)) (h3:AE Tryz.prog 120 (W [.addr,.int .i64] [imT,.bool] F3))
  (args:List DV) (Q:List DV->HP) (h:H) (hok:∀x,x∈args->x.ok) (hD:DD F1 F2 F3 args Q h):callsV Tryz.prog 40 (args.map DV.flat) Q h:=by
 have hT:TblOk Tryz.prog [(66,W [.addr] [.int .i64,.int .i64] F1),(119,W [.int .i64] [.fn] F2)]:=TblOk.cons h1 (TblOk.cons h2 TblOk.nil)
 refine⟨by kernel_rfl,fun w hw=>?_⟩
 subst hw
 unfold DD at hD
 split at hD
 case h_2=>exact hD.elim
 rename_i x
 refine (callsIn_wide (n:=9)).1 ?_
 refine callsIn_of_wp_marks (c:=cS) Tryz.func40 AjJ trivial ?_ rfl
 have nt:Tryz.f40.ntmps=35:=by kernel_rfl
 rw[nt,AjK]
 have leaf:∀(fr:Fr) (a:Act) (w':World),FR fr a.tmps->a.defers=[]->Go.Vc.Rest w w'->GM Tryz.prog Tryz.f40.results.toList fr w'.heap (fun xs=>Q xs w'.heap)->
   bodyPostM Fence.wide 9 Tryz.prog Tryz.f40 (fun e w'=>∃xs,(∀x,x∈xs->x.ok)/\e=.returned (HY xs)/\Go.Vc.Rest w w'/\Q xs w'.heap) .ret a w':=by
  intro fr a w' hF hdf hr hd
  obtain⟨xs,g1,g2,g3⟩:=bD hF hd
  show LeavesInM _ _ _ _ _ _ a.defers _ _
  rw[hdf]
  exact⟨_,g3,xs,g1,rfl,hr,g2⟩
 have leafM:∀(fr:Fr) (a:Act) (w':World) (dd:Nat) (a2 a3 a4:Addr),FR fr a.tmps->get fr 2=.dv (.addr a2)->get fr 3=.dv (.addr a3)->get fr 4=.dv (.addr a4)->a.defers=[{ target:=.collected dd,args:=#[] }]->Go.Vc.Rest w w'->w'.heap[dd]?=some (.deferred (some []))->(∀oN hE,hE=A9 w'.heap dd oN->RY a2 a3 a4 Q hE)->
   bodyPostM Fence.wide 9 Tryz.prog Tryz.f40 (fun e w'=>∃xs,(∀x,x∈xs->x.ok)/\e=.returned (HY xs)/\Go.Vc.Rest w w'/\Q xs w'.heap) .ret a w':=by
  intro fr a w' dd a2 a3 a4 hF e2 e3 e4 hdf hr hk hd
  have hd2:=hd (.deferred none) _ rfl
  obtain⟨xs,g1,g2,g3⟩:=bD (P:=Tryz.prog) (fn:=Tryz.f40) (a:=a) (w:=w'.putObj dd (.deferred none)) (wP hF e2 e3 e4) hd2
  show LeavesInM _ _ _ _ _ _ a.defers _ _
  rw[hdf]
  refine⟨by simp,.inl ⟨_,_,rfl,run_takeDeferred hk,?_⟩⟩
  exact⟨_,g3,xs,g1,rfl,hr.trans ⟨rfl,rfl,rfl⟩,g2⟩
 refine YM (sz:=35) (df:=[]) hT ann_all.1 asg_all.1 (by simp) (rV [x] hok _) rfl hD ?_ (fun fr' a' w' _ _ _ y=>y.elim) (fun _ _ _ y=>y.elim) (fun _ _ _ y=>y.elim)
 intro fr1 a1 w1 hF1 _ hs1 hd1 r1 hD1
 refine YM (sz:=35) (df:=[]) hT ann_all.2.1 asg_all.2.1 hs1 hF1 hd1 hD1 ?_ (fun fr' a' w' _ _ _ y=>y.elim) (fun _ _ _ y=>y.elim) (fun _ _ _ y=>y.elim)
 intro fr2 a2 w2 hF2 _ hs2 hd2 r2 hD2
 refine YM (sz:=35) (df:=[]) hT ann_all.2.2.1 asg_all.2.2.1 hs2 hF2 hd2 hD2 ?_ (fun fr' a' w' hF' hd' r' y=>leaf fr' a' w' hF' hd' ((r1.trans r2).trans r') y) (fun _ _ _ y=>y.elim) (fun _ _ _ y=>y.elim)
 intro fr3 a3 w3 hF3 _ hs3 hd3 r3 hD3
 refine wpIn_seq ?_
 refine YM (sz:=35) (df:=[]) hT ann_all.2.2.2.1 asg_all.2.2.2.1 hs3 hF3 hd3 hD3 ?_ (fun fr' a' w' _ _ _ y=>y.elim) (fun _ _ _ y=>y.elim) (fun _ _ _ y=>y.elim)
 intro fr4 a4 w4 hF4 _ hs4 hd4 r4 hD4
 refine AmI h3 hF4 hs4 hd4 hD4 (((r1.trans r2).trans r3).trans r4) ?_ ?_
 ·intro b2 b3 b4 W4 dd e2 e3 e4 rst hk hd
  exact leafM fr4 _ W4 dd b2 b3 b4 hF4 e2 e3 e4 rfl rst hk hd
 ·intro b2 b3 b4 W4 dd e2 e3 e4 rst hd
  show (Code.seq _ Code.ret).wpIn _ _ _ _ _ _
  refine YM (sz:=35) (df:=[{ target:=.collected dd,args:=#[] }]) TblOk.nil ann_all.2.2.2.2 asg_all.2.2.2.2 hs4 (wP hF4 e2 e3 e4) rfl hd ?_ (fun fr' a' w' _ _ _ y=>y.elim) (fun _ _ _ y=>y.elim) (fun _ _ _ y=>y.elim)
  intro fr5 a5 w5 hF5 hA5 hs5 hd5 r5 hq
  refine wpIn_ret ?_
  have n2:((asg (sL (sR (sR (sR (sR cS)))))).contains 2 || (asg (sL (sR (sR (sR (sR cS)))))).contains 3 || (asg (sL (sR (sR (sR (sR cS)))))).contains 4)=false:=by kernel_rfl
  simp only[Bool.or_eq_false_iff]at n2
  have nin:∀k,(asg (sL (sR (sR (sR (sR cS)))))).contains k=false->k ∉ asg (sL (sR (sR (sR (sR cS))))):=fun k hk y=>by
   rw[List.contains_iff_mem.2 y]at hk;cases hk
  exact leafM fr5 a5 w5 dd b2 b3 b4 hF5 (hA5 2 (nin 2 n2.1.1)) (hA5 3 (nin 3 n2.1.2)) (hA5 4 (nin 4 n2.2)) hd5 (rst.trans r5) hq.1 hq.2
def J0:=pC F8 PT NI
theorem nP:AE PP 40 (W [.addr] [.ag [.int .i64,.int .i64,.int .i64,.slc,.row .u8 32],.int .i64,.int .i64] J0):=
 Ap2 (DD:=DD F8 PT NI) (AcJ Y8 AfM AfK) (AkI F8 PT NI)
attribute [irreducible] J0
end Go.Proofs.YteedolonhdbieaaGreatDoor
end
