/- LoaderWhole and its parts, laid together by a program of ours: F Ls2 -/
import Derived.Test.YteedolonhdbieaaGreatDoorK6
set_option autoImplicit false
set_option linter.all false
section
namespace Go.Proofs.YteedolonhdbieaaGreatDoor
open Go Go.Vc
set_option maxRecDepth 100000
abbrev K8:Sg:=([.addr,.ag [Si,.row .i64 9,Si,.bool,Si,Si,.row .i64 9,Si,.bool,Si,Si]],[.bool])
def cW:GT [BB,FL,H5,LA] K8:=fun c0 c1 c2 c3 f an ao ap aq ar au av aw ax ay az Q h=>∀a c,hnew h a (vi an::(AA .i64 ao++vi ap::.bool aq::vi ar::vi au::(AA .i64 av++[vi aw,.bool ax,vi ay,vi az]))) c->∃g,hc c f=some (.pointer g)/\∃r,hc c (P_ a 0)=some (vi r)/\∃(i:List Int),i.length=9/\hrow c (P_ a 1) .i64 i/\∃s,hc c (P_ a 10)=some (vi s)/\∃t,hc c (P_ a 11)=some (.bool t)/\∃u,hc c (P_ a 12)=some (vi u)/\∃v,hc c (P_ a 13)=some (vi v)/\∃(j:List Int),j.length=9/\hrow c (P_ a 14) .i64 j/\∃w,hc c (P_ a 23)=some (vi w)/\∃x,hc c (P_ a 24)=some (.bool x)/\∃y,hc c (P_ a 25)=some (vi y)/\∃z,hc c (P_ a 26)=some (vi z)/\c3 r i s t u v j w x y z (fun a1 A=>hcs A f [.pointer g]/\∃B,g=some B/\c2 B a1 (fun a2 a8 e=>∃C,hc e (P_ a 0)=some (vi C)/\∃(k:List Int),k.length=9/\hrow e (P_ a 1) .i64 k/\∃E,hc e (P_ a 10)=some (vi E)/\∃F,hc e (P_ a 11)=some (.bool F)/\∃G,hc e (P_ a 12)=some (vi G)/\∃I,hc e (P_ a 13)=some (vi I)/\∃(l:List Int),l.length=9/\hrow e (P_ a 14) .i64 l/\∃J,hc e (P_ a 23)=some (vi J)/\∃K,hc e (P_ a 24)=some (.bool K)/\∃L,hc e (P_ a 25)=some (vi L)/\∃M,hc e (P_ a 26)=some (vi M)/\c3 C k E F G I l J K L M (fun m b=>0≤m/\m<(↑2:Int)/\∃N,hc b (((P_ a 0).add (m.toNat*13)).add 11)=some (.bool N)/\if !N then ∃O,hc b f=some (.pointer O)/\∃P,O=some P/\c0 P (fun a9 ba bb bc bd a3 be d=>if leI a3 a2 then Q true d else ∃R,hc d (P_ a 0)=some (vi R)/\∃(n:List Int),n.length=9/\hrow d (P_ a 1) .i64 n/\∃T,hc d (P_ a 10)=some (vi T)/\∃U,hc d (P_ a 11)=some (.bool U)/\∃V,hc d (P_ a 12)=some (vi V)/\∃X,hc d (P_ a 13)=some (vi X)/\∃(o:List Int),o.length=9/\hrow d (P_ a 14) .i64 o/\∃Y,hc d (P_ a 23)=some (vi Y)/\∃Z,hc d (P_ a 24)=some (.bool Z)/\∃aa,hc d (P_ a 25)=some (vi aa)/\∃ab,hc d (P_ a 26)=some (vi ab)/\c1 R n T U V X o Y Z aa ab (fun a4 bf bg bh bi a5=>∀(ac:Int),ac=4611686018427387904->Q (leI ac a4) a5) d) b else ∃ad,hc b (P_ a 0)=some (vi ad)/\∃(p:List Int),p.length=9/\hrow b (P_ a 1) .i64 p/\∃ae,hc b (P_ a 10)=some (vi ae)/\∃af,hc b (P_ a 11)=some (.bool af)/\∃ag,hc b (P_ a 12)=some (vi ag)/\∃ah,hc b (P_ a 13)=some (vi ah)/\∃(q:List Int),q.length=9/\hrow b (P_ a 14) .i64 q/\∃ai,hc b (P_ a 23)=some (vi ai)/\∃aj,hc b (P_ a 24)=some (.bool aj)/\∃ak,hc b (P_ a 25)=some (vi ak)/\∃al,hc b (P_ a 26)=some (vi al)/\c1 ad p ae af ag ah q ai aj ak al (fun a6 bj bk bl bm a7=>∀(am:Int),am=4611686018427387904->Q (leI am a6) a7) b) e) A) c
def JK:CF K8:=cW A7 E5 HA JM
theorem nM:AE PP 170 (WS K8 JK):=ro (tc C6 (tc TZ (tc gM (tc nO tn)))) Tryz.func170 (by kernel_rfl) ((show EE [(63,BB),(167,FL),(195,H5),(237,LA)] [] K8 [] Tryz.f170 cW from by(repeat intro _);kernel_rfl) A7 E5 HA JM)
attribute [irreducible] JK
abbrev KU:Sg:=([.addr,Ti],[Ti])
def aI:GT [FK,H7] KU:=fun c0 c1 d a Q h=>∃R s T,hc h (d.add 7)=some (.slice R s T)/\c0 d a (↑s:Int) (fun t e=>if t != 0 then Q t e else ∃u v U,hc e (d.add 8)=some (.slice u v U)/\∃w,u=some w/\0≤a/\a<(↑v:Int)/\∃x,hc e (w.add (a.toNat*1))=some (vi x)/\∃y,hc e (d.add 5)=some (vi y)/\if leI y x then Q 9 e else c1 d (fun V X i=>∃l m Y,hc i (d.add 8)=some (.slice l m Y)/\∃z,l=some z/\0≤a/\a<(↑m:Int)/\∃A,hc i (z.add (a.toNat*1))=some (vi A)/\∃n,l=some n/\0≤a/\a<(↑m:Int)/\AC i (n.add (a.toNat*1)) 1/\∀j,j=hwr i (n.add (a.toNat*1)) [vi (IntKind.i64.wrap (A+1))]->∃B C Z,hc j (d.add 7)=some (.slice B C Z)/\∃E,B=some E/\0≤a/\a<(↑C:Int)/\∃aa F ab,hc j (E.add (a.toNat*1))=some (.slice aa F ab)/\∀(o:JT),(∀(c:Int) (f:H),(if ltI c F then ∃G I ac,hc f (d.add 7)=some (.slice G I ac)/\∃J,G=some J/\0≤a/\a<(↑I:Int)/\∃K L ad,hc f (J.add (a.toNat*1))=some (.slice K L ad)/\∃g,K=some g/\0≤c/\c<L/\∀(p:JT),(∀(b:Int) (k:H),(if ltI b 32 then 0≤b/\b<(↑32:Int)/\∃q,hc k ((g.add (c.toNat*32)).add (b.toNat*1))=some (.int .u8 q)/\HM PP V [DV.one (vi (IntKind.i64.wrap (IntKind.i64.wrap (c*32)+b)))] (fun ae r=>∃(M:DV),∃(N:List DV),ae=M::N/\∃(O:Int),M=DV.one (.int .u8 O)/\N=[]/\hcs r ((g.add (c.toNat*32)).add (b.toNat*1)) [.int .u8 q]/\0≤b/\b<(↑32:Int)/\AC r ((g.add (c.toNat*32)).add (b.toNat*1)) 1/\∀P,P=hwr r ((g.add (c.toNat*32)).add (b.toNat*1)) [.int .u8 (bits .or .u8 q O)]->p [.dv (.one (vi (IntKind.i64.wrap (b+1))))] P) k else o [.dv (.one (vi (IntKind.i64.wrap (c+1))))] k)->p [.dv (.one (vi b))] k)->p [.dv (.one (vi 0))] f else Q X f)->o [.dv (.one (vi c))] f)->o [.dv (.one (vi 0))] j) e) h
def JA:CF KU:=aI E4 HC
theorem mN:AE PP 199 (WS KU JA):=ro (tc TY (tc gO tn)) Tryz.func199 (by kernel_rfl) ((show EE [(222,FK),(223,H7)] [] KU [(506,[(61,.sc (.int .i64))]),(259278,[(74,.sc (.int .i64))])] Tryz.f199 aI from by(repeat intro _);kernel_rfl) E4 HC)
attribute [irreducible] JA
abbrev RI:Sg:=([Ti,Ti,.addr,.addr,.addr],[Ti])
def cV:GT [KQ,GH] RI:=fun c0 c1 p q c r s Q h=>c0 p q (fun t g u=>∀d e,hnew u d (AA .u8 (AB 32)) e->AC e (P_ d 0) 32/\∀b,b=hwr e (P_ d 0) (AA .u8 t++[])->if g != 0 then Q g b else ∃i,hc b c=some (vi i)/\AC b c 1/\∀a,a=hwr b c [vi (IntKind.i64.wrap (i+1))]->∃j,hc a r=some (.pointer j)/\∃k,j=some k/\∃l,hc a k=some (.pointer l)/\∃m,hc a s=some (vi m)/\∃n,hc a c=some (vi n)/\∃(f:List Int),f.length=32/\hrow a (P_ d 0) .u8 f/\∃o,l=some o/\c1 o m (IntKind.i64.wrap (n-1)) f (fun v w=>Q v w) a) h
def N9:CF RI:=cV I8 F5
theorem Ab6:AE PP 238 (WS RI N9):=ro (tc mJ (tc V9 tn)) Tryz.func238 (by kernel_rfl) ((show EE [(168,KQ),(169,GH)] [] RI [] Tryz.f238 cV from by(repeat intro _);kernel_rfl) I8 F5)
attribute [irreducible] N9
abbrev QJ:Sg:=([Ti],[.ag [.row .u8 32],Ti])
def Z6:GT [H4] QJ:=fun c0 c Q h=>∀a b,hnew h a (AA .u8 (AB 32)) b->if ltI c 1 then AC b (P_ a 0) 32/\∀d,d=hwr b (P_ a 0) (AA .u8 (AB 32))->∃(e:List Int),e.length=32/\hrow d (P_ a 0) .u8 e/\Q e 2 d else ∀(k:Int),k=4611686018427387904->if ltI k c then AC b (P_ a 0) 32/\∀f,f=hwr b (P_ a 0) (AA .u8 (AB 32))->∃(g:List Int),g.length=32/\hrow f (P_ a 0) .u8 g/\Q g 2 f else c0 1 0 c (fun m l=>AC l (P_ a 0) 32/\∀i,i=hwr l (P_ a 0) (AA .u8 m++[])->∃(j:List Int),j.length=32/\hrow i (P_ a 0) .u8 j/\Q j 0 i) b
def NC:CF QJ:=Z6 G9
theorem Aa6:AE PP 239 (WS QJ NC):=ro (tc gL tn) Tryz.func239 (by kernel_rfl) ((show EE [(235,H4)] [] QJ [] Tryz.f239 Z6 from by(repeat intro _);kernel_rfl) G9)
attribute [irreducible] NC
abbrev RH:Sg:=([.addr,.ag [Si,.row .i64 9,Si,.bool,Si,Si,.row .i64 9,Si,.bool,Si,Si],Ti,Ti],[Ti])
def cU:GT [BB,FL,GH,KU,LA,RI,QJ] RH:=fun c0 c1 c2 c3 c4 c5 c6 bd be bf bg bh bi bj bk bl bm bn bo l bp Q h=>∀k F,hnew h k [.pointer (some bd)] F->∀a c,hnew F a (vi be::(AA .i64 bf++vi bg::.bool bh::vi bi::vi bj::(AA .i64 bk++[vi bl,.bool bm,vi bn,vi bo]))) c->∃G,hc c (P_ a 0)=some (vi G)/\∃(r:List Int),r.length=9/\hrow c (P_ a 1) .i64 r/\∃I,hc c (P_ a 10)=some (vi I)/\∃J,hc c (P_ a 11)=some (.bool J)/\∃K,hc c (P_ a 12)=some (vi K)/\∃L,hc c (P_ a 13)=some (vi L)/\∃(s:List Int),s.length=9/\hrow c (P_ a 14) .i64 s/\∃M,hc c (P_ a 23)=some (vi M)/\∃N,hc c (P_ a 24)=some (.bool N)/\∃O,hc c (P_ a 25)=some (vi O)/\∃P,hc c (P_ a 26)=some (vi P)/\c4 G r I J K L s M N O P (fun bq br=>∀g t,hnew br g [vi 0] t->AC t (P_ g 0) 1/\∀f,f=hwr t (P_ g 0) [vi bq]->∀(u:JT),(∀(R:H),(∀m v,hnew R m [vi 0] v->AC v (P_ m 0) 1/\∀d,d=hwr v (P_ m 0) [vi 1]->∃T,hc d (P_ a 0)=some (vi T)/\∃(w:List Int),w.length=9/\hrow d (P_ a 1) .i64 w/\∃U,hc d (P_ a 10)=some (vi U)/\∃V,hc d (P_ a 11)=some (.bool V)/\∃X,hc d (P_ a 12)=some (vi X)/\∃Y,hc d (P_ a 13)=some (vi Y)/\∃(x:List Int),x.length=9/\hrow d (P_ a 14) .i64 x/\∃Z,hc d (P_ a 23)=some (vi Z)/\∃aa,hc d (P_ a 24)=some (.bool aa)/\∃ab,hc d (P_ a 25)=some (vi ab)/\∃ac,hc d (P_ a 26)=some (vi ac)/\c1 T w U V X Y x Z aa ab ac (fun b3 bs b4 b5 b6 bt=>∀i y,hnew bt i (AA .i64 (AB 9)) y->AC y (P_ i 0) 9/\∀z,z=hwr y (P_ i 0) (AA .i64 bs++[])->0≤l/\l<(↑9:Int)/\AC z ((P_ i 0).add (l.toNat*1)) 1/\∀n,n=hwr z ((P_ i 0).add (l.toNat*1)) [vi bp]->∃ad,hc n (P_ k 0)=some (.pointer ad)/\∃ae,ad=some ae/\∃af,hc n ae=some (.pointer af)/\∃ag,af=some ag/\c0 ag (fun b7 bu b8 b9 ca cb cc bv=>∀(o:JT),(∀(e:Int) (b:H),(if ltI e (IntKind.i64.wrap (bu+1)) then 0≤e/\e<(↑9:Int)/\∃ah,hc b ((P_ i 0).add (e.toNat*1))=some (vi ah)/\if ah == 0 then o [.dv (.one (vi (IntKind.i64.wrap (e+1))))] b else 0≤e/\e<(↑9:Int)/\∃ai,hc b ((P_ i 0).add (e.toNat*1))=some (vi ai)/\c5 e ai (P_ m 0) (P_ k 0) (P_ g 0) (fun aj ak=>if aj != 0 then Q aj ak else o [.dv (.one (vi (IntKind.i64.wrap (e+1))))] ak) b else ∃al,hc b (P_ a 0)=some (vi al)/\∃(A:List Int),A.length=9/\hrow b (P_ a 1) .i64 A/\∃am,hc b (P_ a 10)=some (vi am)/\∃an,hc b (P_ a 11)=some (.bool an)/\∃ao,hc b (P_ a 12)=some (vi ao)/\∃ap,hc b (P_ a 13)=some (vi ap)/\∃(B:List Int),B.length=9/\hrow b (P_ a 14) .i64 B/\∃aq,hc b (P_ a 23)=some (vi aq)/\∃ar,hc b (P_ a 24)=some (.bool ar)/\∃au,hc b (P_ a 25)=some (vi au)/\∃av,hc b (P_ a 26)=some (vi av)/\c1 al A am an ao ap B aq ar au av (fun bw cd ce cf cg bx=>c6 (IntKind.i64.wrap (bw+1)) (fun bz aw b0=>∀p C,hnew b0 p (AA .u8 (AB 32)) C->AC C (P_ p 0) 32/\∀j,j=hwr C (P_ p 0) (AA .u8 bz++[])->if aw != 0 then Q aw j else ∃ax,hc j (P_ k 0)=some (.pointer ax)/\∃ay,ax=some ay/\∃az,hc j ay=some (.pointer az)/\∃a1,hc j (P_ g 0)=some (vi a1)/\∃(E:List Int),E.length=32/\hrow j (P_ p 0) .u8 E/\∃a4,az=some a4/\c2 a4 a1 0 E (fun b1 b2=>Q b1 b2) j) bx) b)->o [.dv (.one (vi e))] b)->o [.dv (.one (vi 0))] bv) n) d)->u [] R)->∃q,hc f (P_ g 0)=some (vi q)/\0≤q/\q<(↑2:Int)/\∃a5,hc f (((P_ a 0).add (q.toNat*13)).add 11)=some (.bool a5)/\if !a5 then ∃a6,hc f (P_ k 0)=some (.pointer a6)/\∃a7,a6=some a7/\∃a8,hc f a7=some (.pointer a8)/\∃a9,hc f (P_ g 0)=some (vi a9)/\∃ba,a8=some ba/\c3 ba a9 (fun bb bc=>if bb != 0 then Q bb bc else u [] bc) f else u [] f) c
def N8:CF RH:=cU A7 E5 F5 JA JM N9 NC
theorem Ab5:AE PP 171 (WS RH N8):=ro (tc C6 (tc TZ (tc V9 (tc mN (tc nO (tc Ab6 (tc Aa6 tn))))))) Tryz.func171 (by kernel_rfl) ((show EE [(63,BB),(167,FL),(169,GH),(199,KU),(237,LA),(238,RI),(239,QJ)] [] RH [(7,[]),(2042,[(49,.sc (.int .i64))])] Tryz.f171 cU from by(repeat intro _);kernel_rfl) A7 E5 F5 JA JM N9 NC)
attribute [irreducible] N8
abbrev K5:Sg:=([.addr,Ti,Ti],[Ti])
def cO:GT [BB,GI,K7,FL,KQ,GH,K8,RH] K5:=fun c0 c1 c2 c3 c4 c5 c6 c7 g i l Q h=>c1 g (fun bb bc bd be bf bg bh bi bj bk bl F bm=>∀a o,hnew bm a (vi 0::(AA .i64 (AB 9)++vi 0::.bool false::vi 0::vi 0::(AA .i64 (AB 9)++[vi 0,.bool false,vi 0,vi 0]))) o->AC o (P_ a 0) 27/\∀p,p=hwr o (P_ a 0) (vi bb::(AA .i64 bc++vi bd::.bool be::vi bf::vi bg::(AA .i64 bh++[vi bi,.bool bj,vi bk,vi bl])))->if F != 0 then Q F p else ∀(m:JT),(∀(G:Bool) (b:H),(if G then Q 2 b else ∃I,hc b (P_ a 0)=some (vi I)/\∃(q:List Int),q.length=9/\hrow b (P_ a 1) .i64 q/\∃J,hc b (P_ a 10)=some (vi J)/\∃K,hc b (P_ a 11)=some (.bool K)/\∃L,hc b (P_ a 12)=some (vi L)/\∃M,hc b (P_ a 13)=some (vi M)/\∃(r:List Int),r.length=9/\hrow b (P_ a 14) .i64 r/\∃N,hc b (P_ a 23)=some (vi N)/\∃O,hc b (P_ a 24)=some (.bool O)/\∃P,hc b (P_ a 25)=some (vi P)/\∃R,hc b (P_ a 26)=some (vi R)/\c3 I q J K L M r N O P R (fun b4 bn b5 b6 b7 d=>0≤i/\i<(↑9:Int)/\if leI l (bn.getD i.toNat 0) then Q 11 d else ∃T,hc d (P_ a 0)=some (vi T)/\∃(s:List Int),s.length=9/\hrow d (P_ a 1) .i64 s/\∃U,hc d (P_ a 10)=some (vi U)/\∃V,hc d (P_ a 11)=some (.bool V)/\∃X,hc d (P_ a 12)=some (vi X)/\∃Y,hc d (P_ a 13)=some (vi Y)/\∃(t:List Int),t.length=9/\hrow d (P_ a 14) .i64 t/\∃Z,hc d (P_ a 23)=some (vi Z)/\∃aa,hc d (P_ a 24)=some (.bool aa)/\∃ab,hc d (P_ a 25)=some (vi ab)/\∃ac,hc d (P_ a 26)=some (vi ac)/\c3 T s U V X Y t Z aa ab ac (fun bo bp bq br bs bt=>∀j u,hnew bt j (vi 0::(AA .i64 (AB 9)++[vi 0,.bool false,vi 0])) u->AC u (P_ j 0) 13/\∀k,k=hwr u (P_ j 0) (vi bo::(AA .i64 bp++[vi bq,.bool br,vi bs]))->∀(v:JT),(∀(ad:Bool) (c:H),(if ad then c4 i l (fun bu ae bv=>∀n w,hnew bv n (AA .u8 (AB 32)) w->AC w (P_ n 0) 32/\∀f,f=hwr w (P_ n 0) (AA .u8 bu++[])->if ae != 0 then Q ae f else ∃af,hc f g=some (.pointer af)/\∃ag,hc f (P_ a 26)=some (vi ag)/\∃ah,hc f (P_ j 10)=some (vi ah)/\∃(x:List Int),x.length=32/\hrow f (P_ n 0) .u8 x/\∃ai,af=some ai/\c5 ai ag ah x (fun bw bx=>Q bw bx) f) c else ∃aj,hc c (P_ a 0)=some (vi aj)/\∃(y:List Int),y.length=9/\hrow c (P_ a 1) .i64 y/\∃ak,hc c (P_ a 10)=some (vi ak)/\∃al,hc c (P_ a 11)=some (.bool al)/\∃am,hc c (P_ a 12)=some (vi am)/\∃an,hc c (P_ a 13)=some (vi an)/\∃(z:List Int),z.length=9/\hrow c (P_ a 14) .i64 z/\∃ao,hc c (P_ a 23)=some (vi ao)/\∃ap,hc c (P_ a 24)=some (.bool ap)/\∃aq,hc c (P_ a 25)=some (vi aq)/\∃ar,hc c (P_ a 26)=some (vi ar)/\c6 g aj y ak al am an z ao ap aq ar (fun bz e=>if bz then Q 9 e else ∃au,hc e (P_ a 0)=some (vi au)/\∃(A:List Int),A.length=9/\hrow e (P_ a 1) .i64 A/\∃av,hc e (P_ a 10)=some (vi av)/\∃aw,hc e (P_ a 11)=some (.bool aw)/\∃ax,hc e (P_ a 12)=some (vi ax)/\∃ay,hc e (P_ a 13)=some (vi ay)/\∃(B:List Int),B.length=9/\hrow e (P_ a 14) .i64 B/\∃az,hc e (P_ a 23)=some (vi az)/\∃a3,hc e (P_ a 24)=some (.bool a3)/\∃a4,hc e (P_ a 25)=some (vi a4)/\∃a5,hc e (P_ a 26)=some (vi a5)/\c7 g au A av aw ax ay B az a3 a4 a5 i l (fun b0 b1=>Q b0 b1) e) c)->v [.dv (.one (.bool ad))] c)->∃a6,hc k (P_ a 26)=some (vi a6)/\if leI 0 a6 then ∃C,hc k (P_ j 10)=some (vi C)/\∃a7,hc k g=some (.pointer a7)/\∃a8,a7=some a8/\c0 a8 (fun b2 b8 b9 ca cb cc cd a9=>hcs a9 (P_ j 10) [vi C]/\v [.dv (.one (.bool (ltI C b2)))] a9) k else v [.dv (.one (.bool false))] k) d) b)->m [.dv (.one (.bool G))] b)->c2 g i (fun b3 E=>if !b3 then m [.dv (.one (.bool true))] E else if ltI l 1 then m [.dv (.one (.bool true))] E else ∀(ba:Int),ba=4611686018427387904->m [.dv (.one (.bool (ltI ba l)))] E) p) h
def JH:CF K5:=cO A7 F6 JJ E5 I8 F5 JK N8
theorem nJ:AE PP 100 (WS K5 JH):=ro (tc C6 (tc WA (tc nL (tc TZ (tc mJ (tc V9 (tc nM (tc Ab5 tn)))))))) Tryz.func100 (by kernel_rfl) ((show EE [(63,BB),(165,GI),(166,K7),(167,FL),(168,KQ),(169,GH),(170,K8),(171,RH)] [] K5 [(61,[(57,.sc (.bool))]),(115,[(21,.sc (.bool))])] Tryz.f100 cO from by(repeat intro _);kernel_rfl) A7 F6 JJ E5 I8 F5 JK N8)
attribute [irreducible] JH
abbrev Q1:Sg:=([.addr,Ti,Ti],[Ti])
def bN:GT [BB,KR,H9,K0] Q1:=fun c0 c1 c2 c3 a g b Q h=>c0 a (fun u p v w x y z q=>c2 a g p (fun i c=>if i != 0 then Q i c else ∀(j:JT),(∀(k:H),(∀(d:JT),(∀(l:H),c3 a g (fun r s e f=>if e != 0 then Q e f else if leI b r then Q e f else c1 a s (fun m n=>if m != 0 then Q m n else d [] n) f) l->d [] l)->d [] k)->j [] k)->if ltI b 0 then Q 2 c else c0 a (fun A B t C E F G o=>if ltI t b then Q 2 o else j [] o) c) q) h
def NS:CF Q1:=bN A7 IK HE IN
theorem AaT:AE PP 101 (WS Q1 NS):=ro (tc C6 (tc mL (tc gQ (tc mT tn)))) Tryz.func101 (by kernel_rfl) ((show EE [(63,BB),(144,KR),(172,H9),(173,K0)] [] Q1 [(7,[]),(30,[])] Tryz.f101 bN from by(repeat intro _);kernel_rfl) A7 IK HE IN)
attribute [irreducible] NS
abbrev S4:Sg:=([.addr,Ti,Ti],[Ti])
def fX:GT [BB,IB,S5,K5,Q1] S4:=fun c0 c1 c2 c3 c4 I g d Q h=>∀a i,hnew h a [.pointer (some I)] i->∃q,hc i (P_ a 0)=some (.pointer q)/\∃r,q=some r/\c1 r g (fun J s K=>∀c j,hnew K c [vi 0] j->AC j (P_ c 0) 1/\∀k,k=hwr j (P_ c 0) [vi J]->if s != 0 then Q s k else ∀(t:JT),(∀(e:H),(∃u,hc e (P_ a 0)=some (.pointer u)/\∃v,u=some v/\∃w,hc e (v.add 1)=some (.pointer w)/\∃x,w=some x/\c3 x g d (fun y b=>if y != 0 then Q y b else ∃l,hc b (P_ a 0)=some (.pointer l)/\∃m,l=some m/\∃n,hc b m=some (.pointer n)/\∃z,hc b (P_ a 0)=some (.pointer z)/\∃A,z=some A/\∃B,hc b A=some (.pointer B)/\∃C,B=some C/\c0 C (fun N O P E R T U o=>hcs o m [.pointer n]/\hcs o (P_ a 0) [.pointer l]/\E≠0/\∃F,n=some F/\c4 F g (IntKind.i64.wrap (d.tdiv E)) (fun L M=>Q L M) o) b) e)->t [] e)->c2 d (P_ c 0) (P_ a 0) (fun p f=>if p != 0 then Q p f else ∃G,hc f (P_ c 0)=some (vi G)/\if leI d G then Q p f else t [] f) k) i
def PD:CF S4:=fX A7 HK PE JH NS
theorem AcQ:AE PP 25 (WS S4 PD):=ro (tc C6 (tc gU (tc AcR (tc nJ (tc AaT tn))))) Tryz.func25 (by kernel_rfl) ((show EE [(63,BB),(70,IB),(99,S5),(100,K5),(101,Q1)] [] S4 [(31,[])] Tryz.f25 fX from by(repeat intro _);kernel_rfl) A7 HK PE JH NS)
attribute [irreducible] PD
abbrev QN:Sg:=([.addr],[Ti])
def aC:GT [] QN:=fun b Q h=>∃a,hc h (b.add 10)=some (vi a)/\Q a h
def NG:CF QN:=aC
theorem AaA:AE PP 26 (WS QN NG):=ro tn Tryz.func26 (by kernel_rfl) ((show EE [] [] QN [] Tryz.f26 aC from by(repeat intro _);kernel_rfl))
attribute [irreducible] NG
abbrev SH:Sg:=([.ag [Si,Si,Si,.slc,.row .u8 32],.ag [Si,Si,Si,.slc,.row .u8 32]],[.bool])
def eW:GT [] SH:=fun t u v w x y z A B C E F G I Q h=>∀b f,hnew h b (vi t::vi u::vi v::.slice w x y::(AA .u8 z++[])) f->∀c a,hnew f c (vi A::vi B::vi C::.slice E F G::(AA .u8 I++[])) a->∃g,hc a (P_ b 0)=some (vi g)/\∃i,hc a (P_ c 0)=some (vi i)/\if g == i then ∃j,hc a (P_ b 1)=some (vi j)/\∃k,hc a (P_ c 1)=some (vi k)/\if j == k then ∃l,hc a (P_ b 2)=some (vi l)/\∃m,hc a (P_ c 2)=some (vi m)/\if l == m then ∃n o J,hc a (P_ b 3)=some (.slice n o J)/\∃(p:List Int),hsv a n 1 o (AA .u8 p)/\∃q r K,hc a (P_ c 3)=some (.slice q r K)/\∃(s:List Int),hsv a q 1 r (AA .u8 s)/\if (bytesOf p).toList == (bytesOf s).toList then ∃(d:List Int),d.length=32/\hrow a (P_ b 4) .u8 d/\∃(e:List Int),e.length=32/\hrow a (P_ c 4) .u8 e/\Q (d == e) a else Q false a else Q false a else Q false a else Q false a
def O2:CF SH:=eW
theorem Ac4:AE PP 29 (WS SH O2):=ro tn Tryz.func29 (by kernel_rfl) ((show EE [] [] SH [] Tryz.f29 eW from by(repeat intro _);kernel_rfl))
attribute [irreducible] O2
abbrev QO:Sg:=([.addr,Ti,.slc],[])
def aH:GT [LI] QO:=fun c0 a c f g i Q h=>c0 f g i (fun j k l d=>AC d (a.add 12) 1/\∀b,b=hwr d (a.add 12) [vi (if c > -1 then c else -1)]->AC b (a.add 13) 1/\∀e,e=hwr b (a.add 13) [.slice j k l]->Q e) h
def NH:CF QO:=aH HJ
theorem AaB:AE PP 39 (WS QO NH):=ro (tc nW tn) Tryz.func39 (by kernel_rfl) ((show EE [(118,LI)] [] QO [] Tryz.f39 aH from by(repeat intro _);kernel_rfl) HJ)
attribute [irreducible] NH
abbrev QP:Sg:=([.addr],[])
def aO:GT [] QP:=fun a Q h=>AC h (a.add 11) 1/\∀b,b=hwr h (a.add 11) [.bool false]->Q b
def NI:CF QP:=aO
theorem AaC:AE PP 43 (WS QP NI):=ro tn Tryz.func43 (by kernel_rfl) ((show EE [] [] QP [] Tryz.f43 aO from by(repeat intro _);kernel_rfl))
attribute [irreducible] NI
abbrev SY:Sg:=([.slc],[.slc])
def l5:GT [] SY:=fun b c k Q h=>if b.isNone=true then Q none 0 0 h else ∀d a,hnew h d [] a->∃(e:List Value),hsv a b 1 c e/\AZ a 1 [vi 0] 8 (some (P_ d 0)) 0 0 c e fun f g i j=>Q f g i j
def L2:CF SY:=l5
theorem AcJ:AE PP 183 (WS SY L2):=ro tn Tryz.func183 (by kernel_rfl) ((show EE [] [] SY [] Tryz.f183 l5 from by(repeat intro _);kernel_rfl))
attribute [irreducible] L2
abbrev SX:Sg:=([.slc],[.slc])
def l4:GT [] SX:=fun b c k Q h=>if b.isNone=true then Q none 0 0 h else ∀d a,hnew h d [] a->∃(e:List Value),hsv a b 1 c e/\AZ a 1 [.bool false] 1 (some (P_ d 0)) 0 0 c e fun f g i j=>Q f g i j
def LZ:CF SX:=l4
theorem AcI:AE PP 184 (WS SX LZ):=ro tn Tryz.func184 (by kernel_rfl) ((show EE [] [] SX [] Tryz.f184 l4 from by(repeat intro _);kernel_rfl))
attribute [irreducible] LZ
abbrev SW:Sg:=([.slc],[.slc])
def lZ:GT [] SW:=fun b c k Q h=>if b.isNone=true then Q none 0 0 h else ∀d a,hnew h d [] a->∃(e:List Value),hsv a b 32 c e/\AZ a 32 (AA .u8 (AB 32)) 32 (some (P_ d 0)) 0 0 c e fun f g i j=>Q f g i j
def LY:CF SW:=lZ
theorem AcH:AE PP 185 (WS SW LY):=ro tn Tryz.func185 (by kernel_rfl) ((show EE [] [] SW [] Tryz.f185 lZ from by(repeat intro _);kernel_rfl))
attribute [irreducible] LY
abbrev QT:Sg:=([.ag [.slc,.slc,.slc]],[.ag [.slc,.slc,.slc]])
def bA:GT [SY,SX,SW] QT:=fun c0 c1 c2 aw ax ay az a0 a1 a2 a3 a4 Q h=>∀a E,hnew h a [.slice aw ax ay,.slice az a0 a1,.slice a2 a3 a4] E->∀g j,hnew E g [.slice none 0 0,.slice none 0 0,.slice none 0 0] j->∀(l:JT),(∀(b:Addr) (x:H),(∃F y a5,hc x (P_ a 0)=some (.slice F y a5)/\∀(z:JT),(∀(i:Int) (c:H),(if ltI i y then ∃G,F=some G/\0≤i/\i<y/\∃I J K,hc c (G.add (i.toNat*1))=some (.slice I J K)/\∃m n o,hc c b=some (.slice m n o)/\c2 I J K (fun a6 a7 a8 L=>hcs L b [.slice m n o]/\∀M p,hnew L M [.slice a6 a7 a8] p->hcs p b [.slice m n o]/\∃(N:List Value),hsv p (some (P_ M 0)) 1 1 N/\AZ p 1 [.slice none 0 0] 24 m n o 1 N fun a9 ba bb O=>AC O b 1/\∀P,P=hwr O b [.slice a9 ba bb]->z [.dv (.one (vi (IntKind.i64.wrap (i+1))))] P) c else ∃R T U,hc c b=some (.slice R T U)/\∃V X Y,hc c (b.add 1)=some (.slice V X Y)/\∃Z aa ab,hc c (b.add 2)=some (.slice Z aa ab)/\AC c (P_ g 0) 3/\∀k,k=hwr c (P_ g 0) [.slice R T U,.slice V X Y,.slice Z aa ab]->∃ac ad ae,hc k (P_ g 0)=some (.slice ac ad ae)/\∃af ag ah,hc k (P_ g 1)=some (.slice af ag ah)/\∃ai aj ak,hc k (P_ g 2)=some (.slice ai aj ak)/\Q ac ad ae af ag ah ai aj ak k)->z [.dv (.one (vi i))] c)->z [.dv (.one (vi 0))] x)->l [SV.dv (DV.addr b)] x)->∃q r s,hc j (P_ a 1)=some (.slice q r s)/\∃d e f,hc j (P_ a 2)=some (.slice d e f)/\c0 q r s (fun al am an A=>hcs A (P_ a 2) [.slice d e f]/\c1 d e f (fun bc bd be bf=>∀t B,hnew bf t [.slice none 0 0,.slice none 0 0,.slice none 0 0] B->AC B (P_ t 0) 3/\∀ao,ao=hwr B (P_ t 0) [.slice none 0 0,.slice al am an,.slice bc bd be]->l [SV.dv (DV.addr (P_ t 0))] ao) A/\∀u C,hnew A u [.slice none 0 0,.slice none 0 0,.slice none 0 0] C->hcs C (P_ a 2) [.slice d e f]/\c1 d e f (fun bg bh bi ap=>AC ap (P_ u 0) 3/\∀aq,aq=hwr ap (P_ u 0) [.slice none 0 0,.slice al am an,.slice bg bh bi]->l [SV.dv (DV.addr (P_ u 0))] aq) C) j/\∀v w,hnew j v [.slice none 0 0,.slice none 0 0,.slice none 0 0] w->hcs w (P_ a 2) [.slice d e f]/\hcs w (P_ a 1) [.slice q r s]/\c0 q r s (fun bj bk bl ar=>hcs ar (P_ a 2) [.slice d e f]/\c1 d e f (fun bm bn bo au=>AC au (P_ v 0) 3/\∀av,av=hwr au (P_ v 0) [.slice none 0 0,.slice bj bk bl,.slice bm bn bo]->l [SV.dv (DV.addr (P_ v 0))] av) ar) w
def NL:CF QT:=bA L2 LZ LY
theorem AaK:AE PP 114 (WS QT NL):=ro (tc AcJ (tc AcI (tc AcH tn))) Tryz.func114 (by kernel_rfl) ((show EE [(183,SY),(184,SX),(185,SW)] [] QT [(3,[(3,.addr)]),(58,[(16,.sc (.int .i64))])] Tryz.f114 bA from by(repeat intro _);kernel_rfl) L2 LZ LY)
attribute [irreducible] NL
abbrev YX:Sg:=([Ti],[.fn])
def cM:GT [] YX:=fun c Q h=>∀a b,hnew h a [vi c] b->Q (.func (Fn.func AhB) (Array.mk []) (Array.mk [.pointer (some (P_ a 0))])) b
def N5:CF YX:=cM
theorem Ab2:AE PP 119 (WS YX N5):=ro tn Tryz.func119 (by kernel_rfl) ((show EE [] [] YX [] Tryz.f119 cM from by(repeat intro _);kernel_rfl))
attribute [irreducible] N5
abbrev KL:Sg:=([.ag [Si,Si,Si,Si,Si,Si,Si]],[Ti])
def ZV:GT [H8] KL:=fun c0 n o p q r s t Q h=>∀a b,hnew h a [vi n,vi o,vi p,vi q,vi r,vi s,vi t] b->∃d,hc b (P_ a 0)=some (vi d)/\∃e,hc b (P_ a 1)=some (vi e)/\∃f,hc b (P_ a 2)=some (vi f)/\∃g,hc b (P_ a 3)=some (vi g)/\∃i,hc b (P_ a 4)=some (vi i)/\∃j,hc b (P_ a 5)=some (vi j)/\∃k,hc b (P_ a 6)=some (vi k)/\c0 d e f g i j k (fun u c=>if u != 0 then Q 0 c else ∃l,hc c (P_ a 6)=some (vi l)/\∃m,hc c (P_ a 0)=some (vi m)/\Q (IntKind.i64.wrap (IntKind.i64.wrap (l*m)*32)) c) b
def IJ:CF KL:=ZV GN
theorem gJ:AE PP 121 (WS KL IJ):=ro (tc gP tn) Tryz.func121 (by kernel_rfl) ((show EE [(90,H8)] [] KL [] Tryz.f121 ZV from by(repeat intro _);kernel_rfl) GN)
attribute [irreducible] IJ
abbrev KM:Sg:=([.addr,Ti],[Ti])
def ZY:GT [E1] KM:=fun c0 c b Q h=>c0 c (fun d a=>if d then Q 8 a else if ltI b 0 then Q 2 a else if ltI 1 b then Q 2 a else Q 0 a) h
def I4:CF KM:=ZY EU
theorem mD:AE PP 193 (WS KM I4):=ro (tc PJ tn) Tryz.func193 (by kernel_rfl) ((show EE [(42,E1)] [] KM [] Tryz.f193 ZY from by(repeat intro _);kernel_rfl) EU)
attribute [irreducible] I4
abbrev H3:Sg:=([.addr,Ti],[Ti,Ti])
def Z2:GT [BB] H3:=fun c0 c a Q h=>c0 c (fun e f g i j k b d=>Q (IntKind.i64.wrap (2+IntKind.i64.wrap (a*b))) (IntKind.i64.wrap (2+IntKind.i64.wrap (IntKind.i64.wrap (a+1)*b))) d) h
def G8:CF H3:=Z2 A7
theorem gK:AE PP 194 (WS H3 G8):=ro (tc C6 tn) Tryz.func194 (by kernel_rfl) ((show EE [(63,BB)] [] H3 [] Tryz.f194 Z2 from by(repeat intro _);kernel_rfl) A7)
attribute [irreducible] G8
abbrev KO:Sg:=([.addr,Ti,Ti],[Ti,Ti])
def Z3:GT [BB,H3] KO:=fun c0 c1 b d c Q h=>c1 b d (fun e i f=>c0 b (fun a j k l m n o g=>a≠0/\a≠0/\Q (IntKind.i64.wrap (e+IntKind.i64.wrap (c.tdiv a))) (c.tmod a) g) f) h
def I6:CF KO:=Z3 A7 G8
theorem mG:AE PP 200 (WS KO I6):=ro (tc C6 (tc gK tn)) Tryz.func200 (by kernel_rfl) ((show EE [(63,BB),(194,H3)] [] KO [] Tryz.f200 Z3 from by(repeat intro _);kernel_rfl) A7 G8)
attribute [irreducible] I6
abbrev QG:Sg:=([.addr,Ti,Ti],[.slc,Ti])
def Z0:GT [KO,H6] QG:=fun c0 c1 l o a Q h=>∀(d:JT),(∀(e:OA) (f g:Nat) (i:Int) (j:H),(if ltI (↑f:Int) a then c0 l o i (fun p q r=>c1 l p q (fun s m t=>∀b k,hnew t b (AA .u8 (AB 32)) k->AC k (P_ b 0) 32/\∀c,c=hwr k (P_ b 0) (AA .u8 s++[])->if m != 0 then Q none 0 0 m c else ∃(n:List Value),hsv c (AK (some (P_ b 0)) 0 32 1) 1 32 n/\AZ c 1 [.int .u8 0] 1 e f g 32 n fun u v w x=>d [.dv (.one (.slice u v w)),.dv (.one (vi (IntKind.i64.wrap (i+1))))] x) r) j else 0≤a/\a≤a/\a≤(↑g:Int)/\Q (AK e 0 a.toNat 1) (a.toNat-0) (a.toNat-0) 0 j)->d [.dv (.one (.slice e f g)),.dv (.one (vi i))] j)->d [.dv (.one (.slice none 0 0)),.dv (.one (vi 0))] h
def M9:CF QG:=Z0 I6 HB
theorem Aa3:AE PP 249 (WS QG M9):=ro (tc mG (tc gN tn)) Tryz.func249 (by kernel_rfl) ((show EE [(200,KO),(250,H6)] [] QG [(58,[(8,.sc (.slc)),(9,.sc (.int .i64))])] Tryz.f249 Z0 from by(repeat intro _);kernel_rfl) I6 HB)
attribute [irreducible] M9
abbrev QE:Sg:=([.addr,Ti],[.slc,Ti])
def ZU:GT [K1,BB,KL,KM,QG] QE:=fun c0 c1 c2 c3 c4 b e Q h=>c3 b e (fun n o=>if n != 0 then Q none 0 0 n o else c1 b (fun C E F G I J K L=>c2 C E F G I J K (fun p q=>if ltI p 48 then Q none 0 0 5 q else c4 b e 48 (fun c d X r a=>if r != 0 then Q none 0 0 r a else ∃s,c=some s/\(0:Int)≤12/\12<(↑d:Int)/\∃f,hc a (s.add 12)=some (.int .u8 f)/\∃t,c=some t/\(0:Int)≤13/\13<(↑d:Int)/\∃g,hc a (t.add 13)=some (.int .u8 g)/\(0:Int)≤8/\∃u,c=some u/\(0:Int)≤14/\14<(↑d:Int)/\∃i,hc a (u.add 14)=some (.int .u8 i)/\(0:Int)≤16/\∃v,c=some v/\(0:Int)≤15/\15<(↑d:Int)/\∃j,hc a (v.add 15)=some (.int .u8 j)/\(0:Int)≤24/\if ltI p (IntKind.i64.wrap (48+bits .or .i64 (bits .or .i64 (bits .or .i64 (IntKind.i64.wrap f) (IntKind.i64.wrap (IntKind.i64.wrap g*2^min (Int.toNat 8) IntKind.i64.bits))) (IntKind.i64.wrap (IntKind.i64.wrap i*2^min (Int.toNat 16) IntKind.i64.bits))) (IntKind.i64.wrap (IntKind.i64.wrap j*2^min (Int.toNat 24) IntKind.i64.bits)))) then Q none 0 0 5 a else c4 b e (IntKind.i64.wrap (48+bits .or .i64 (bits .or .i64 (bits .or .i64 (IntKind.i64.wrap f) (IntKind.i64.wrap (IntKind.i64.wrap g*2^8))) (IntKind.i64.wrap (IntKind.i64.wrap i*2^16))) (IntKind.i64.wrap (IntKind.i64.wrap j*2^24)))) (fun w x y z A=>if z != 0 then Q none 0 0 z A else c0 w x y (fun M N O P R T U B V=>∀k l,hnew V k (vi 0::vi 0::vi 0::.slice none 0 0::AA .u8 (AB 32)) l->AC l (P_ k 0) 36/\∀m,m=hwr l (P_ k 0) (vi M::vi N::vi O::.slice P R T::(AA .u8 U++[]))->HS B=true/\if !P3 B then Q none 0 0 5 m else Q w x y 0 m) A) a) q) L) o) h
def M8:CF QE:=ZU JF A7 IJ I4 M9
theorem Aa1:AE PP 192 (WS QE M8):=ro (tc nE (tc C6 (tc gJ (tc mD (tc Aa3 tn))))) Tryz.func192 (by kernel_rfl) ((show EE [(13,K1),(63,BB),(121,KL),(193,KM),(249,QG)] [] QE [] Tryz.f192 ZU from by(repeat intro _);kernel_rfl) JF A7 IJ I4 M9)
attribute [irreducible] M8
abbrev YV:Sg:=([.addr,Ti],[.ag [Si,Si,Si,.slc,.row .u8 32],.bool])
def cK:GT [Q3,QE] YV:=fun c0 c1 k ao Q h=>∀a o,hnew h a (vi 0::vi 0::vi 0::.slice none 0 0::AA .u8 (AB 32)) o->∃v,hc o k=some (.pointer v)/\∃w,v=some w/\c1 w ao (fun x y z ap j=>if ap != 0 then AC j (P_ a 0) 36/\∀f,f=hwr j (P_ a 0) (vi 0::vi 0::vi 0::.slice none 0 0::AA .u8 (AB 32))->∃A,hc f (P_ a 0)=some (vi A)/\∃B,hc f (P_ a 1)=some (vi B)/\∃C,hc f (P_ a 2)=some (vi C)/\∃E F G,hc f (P_ a 3)=some (.slice E F G)/\∃(p:List Int),p.length=32/\hrow f (P_ a 4) .u8 p/\Q A B C E F G p false f else ∃l,hc j (k.add 1)=some (.pointer l)/\∃m,hc j (k.add 2)=some (.pointer m)/\(∃I,l=some I/\∃J,m=some J/\c0 I J x y z (fun aq ar au av aw ax ay az a2=>∀b q,hnew a2 b (vi 0::vi 0::vi 0::.slice none 0 0::AA .u8 (AB 32)) q->AC q (P_ b 0) 36/\∀c,c=hwr q (P_ b 0) (vi aq::vi ar::vi au::.slice av aw ax::(AA .u8 ay++[]))->∃K,hc c (P_ b 0)=some (vi K)/\∃L,hc c (P_ b 1)=some (vi L)/\∃M,hc c (P_ b 2)=some (vi M)/\∃N O P,hc c (P_ b 3)=some (.slice N O P)/\∃(r:List Int),r.length=32/\hrow c (P_ b 4) .u8 r/\AC c (P_ a 0) 36/\∀g,g=hwr c (P_ a 0) (vi K::vi L::vi M::.slice N O P::(AA .u8 r++[]))->∃R,hc g (P_ a 0)=some (vi R)/\∃T,hc g (P_ a 1)=some (vi T)/\∃U,hc g (P_ a 2)=some (vi U)/\∃V X Y,hc g (P_ a 3)=some (.slice V X Y)/\∃(s:List Int),s.length=32/\hrow g (P_ a 4) .u8 s/\Q R T U V X Y s (az == 0) g) j)/\∀d n,hnew j d (vi 0::vi 0::vi 0::.slice none 0 0::AA .u8 (AB 32)) n->hcs n (k.add 2) [.pointer m]/\hcs n (k.add 1) [.pointer l]/\∃Z,l=some Z/\∃aa,m=some aa/\c0 Z aa x y z (fun a3 a4 a5 a6 a7 a8 a9 ba ab=>AC ab (P_ d 0) 36/\∀e,e=hwr ab (P_ d 0) (vi a3::vi a4::vi a5::.slice a6 a7 a8::(AA .u8 a9++[]))->∃ac,hc e (P_ d 0)=some (vi ac)/\∃ad,hc e (P_ d 1)=some (vi ad)/\∃ae,hc e (P_ d 2)=some (vi ae)/\∃af ag ah,hc e (P_ d 3)=some (.slice af ag ah)/\∃(t:List Int),t.length=32/\hrow e (P_ d 4) .u8 t/\AC e (P_ a 0) 36/\∀i,i=hwr e (P_ a 0) (vi ac::vi ad::vi ae::.slice af ag ah::(AA .u8 t++[]))->∃ai,hc i (P_ a 0)=some (vi ai)/\∃aj,hc i (P_ a 1)=some (vi aj)/\∃ak,hc i (P_ a 2)=some (vi ak)/\∃al am an,hc i (P_ a 3)=some (.slice al am an)/\∃(u:List Int),u.length=32/\hrow i (P_ a 4) .u8 u/\Q ai aj ak al am an u (ba == 0) i) n) o
def LU:CF YV:=cK GO M8
theorem Ab0:AE PP 120 (WS YV LU):=ro (tc mV (tc Aa1 tn)) Tryz.func120 (by kernel_rfl) ((show EE [(12,Q3),(192,QE)] [] YV [] Tryz.f120 cK from by(repeat intro _);kernel_rfl) GO M8)
attribute [irreducible] LU
abbrev KN:Sg:=([],[.ag [.row .u8 32]])
def ZZ:GT [] KN:=fun Q h=>∀c j,hnew h c (AA .u8 (AB 32)) j->∀d k,hnew j d (AA .u8 (AB 32)) k->∀(e:JT),(∀(a:Int) (b:H),(if ltI a 32 then 0≤a/\a<(↑32:Int)/\AC b ((P_ d 0).add (a.toNat*1)) 1/\∀l,l=hwr b ((P_ d 0).add (a.toNat*1)) [.int .u8 255]->e [.dv (.one (vi (IntKind.i64.wrap (a+1))))] l else ∃(f:List Int),f.length=32/\hrow b (P_ d 0) .u8 f/\AC b (P_ c 0) 32/\∀g,g=hwr b (P_ c 0) (AA .u8 f++[])->∃(i:List Int),i.length=32/\hrow g (P_ c 0) .u8 i/\Q i g)->e [.dv (.one (vi a))] b)->e [.dv (.one (vi 0))] k
def I5:CF KN:=ZZ
theorem mF:AE PP 251 (WS KN I5):=ro tn Tryz.func251 (by kernel_rfl) ((show EE [] [] KN [(58,[(3,.sc (.int .i64))])] Tryz.f251 ZZ from by(repeat intro _);kernel_rfl))
attribute [irreducible] I5
abbrev KP:Sg:=([.addr,Ti],[.bool])
def Z4:GT [BB,H6,KN] KP:=fun c0 c1 c2 j k Q h=>c0 j (fun l r s t u v w m=>∀(c:JT),(∀(a:Int) (f:H),(if ltI a l then c1 j k a (fun n o p=>∀b g,hnew p b (AA .u8 (AB 32)) g->AC g (P_ b 0) 32/\∀d,d=hwr g (P_ b 0) (AA .u8 n++[])->if o == 0 then ∃(e:List Int),e.length=32/\hrow d (P_ b 0) .u8 e/\c2 (fun q i=>hcs i (P_ b 0) (AA .u8 e++[])/\if !e == q then Q true i else c [.dv (.one (vi (IntKind.i64.wrap (a+1))))] i) d else c [.dv (.one (vi (IntKind.i64.wrap (a+1))))] d) f else Q false f)->c [.dv (.one (vi a))] f)->c [.dv (.one (vi 0))] m) h
def I7:CF KP:=Z4 A7 HB I5
theorem mH:AE PP 196 (WS KP I7):=ro (tc C6 (tc gN (tc mF tn))) Tryz.func196 (by kernel_rfl) ((show EE [(63,BB),(250,H6),(251,KN)] [] KP [(26,[(11,.sc (.int .i64))])] Tryz.f196 Z4 from by(repeat intro _);kernel_rfl) A7 HB I5)
attribute [irreducible] I7
abbrev QF:Sg:=([.addr,Ti],[.bool,Ti])
def ZW:GT [BB,KM,H3,H5,KP] QF:=fun c0 c1 c2 c3 c4 b e Q h=>c1 b e (fun f g=>if f != 0 then Q false f g else c2 b e (fun l m n=>∀(c:JT),(∀(a:Int) (d:H),(if ltI a m then c3 b a (fun o p i=>if p == 0 then c0 b (fun s t u v w q x j=>if leI q o then c4 b a (fun r k=>if r then Q true 0 k else c [.dv (.one (vi (IntKind.i64.wrap (a+1))))] k) j else c [.dv (.one (vi (IntKind.i64.wrap (a+1))))] j) i else c [.dv (.one (vi (IntKind.i64.wrap (a+1))))] i) d else Q false 0 d)->c [.dv (.one (vi a))] d)->c [.dv (.one (vi l))] n) g) h
def LT:CF QF:=ZW A7 I4 G8 HA I7
theorem mC:AE PP 122 (WS QF LT):=ro (tc C6 (tc mD (tc gK (tc gM (tc mH tn))))) Tryz.func122 (by kernel_rfl) ((show EE [(63,BB),(193,KM),(194,H3),(195,H5),(196,KP)] [] QF [(122,[(9,.sc (.int .i64))])] Tryz.f122 ZW from by(repeat intro _);kernel_rfl) A7 I4 G8 HA I7)
attribute [irreducible] LT
abbrev RF:Sg:=([.addr],[Ti])
def cN:GT [BB,GI,FL] RF:=fun c0 c1 c2 p Q h=>c1 p (fun u v w x y z A B C E F G I=>∀b e,hnew I b (vi 0::(AA .i64 (AB 9)++vi 0::.bool false::vi 0::vi 0::(AA .i64 (AB 9)++[vi 0,.bool false,vi 0,vi 0]))) e->AC e (P_ b 0) 27/\∀a,a=hwr e (P_ b 0) (vi u::(AA .i64 v++vi w::.bool x::vi y::vi z::(AA .i64 A++[vi B,.bool C,vi E,vi F])))->if G != 0 then Q 0 a else ∃q,hc a (P_ b 26)=some (vi q)/\if ltI q 0 then Q 0 a else ∃r,hc a p=some (.pointer r)/\∃f,hc a (P_ b 0)=some (vi f)/\∃(c:List Int),c.length=9/\hrow a (P_ b 1) .i64 c/\∃g,hc a (P_ b 10)=some (vi g)/\∃i,hc a (P_ b 11)=some (.bool i)/\∃j,hc a (P_ b 12)=some (vi j)/\∃k,hc a (P_ b 13)=some (vi k)/\∃(d:List Int),d.length=9/\hrow a (P_ b 14) .i64 d/\∃l,hc a (P_ b 23)=some (vi l)/\∃m,hc a (P_ b 24)=some (.bool m)/\∃n,hc a (P_ b 25)=some (vi n)/\∃o,hc a (P_ b 26)=some (vi o)/\∃s,r=some s/\c0 s (fun J M N O P R T t=>hcs t (P_ b 0) (vi f::(AA .i64 c++vi g::.bool i::vi j::vi k::(AA .i64 d++[vi l,.bool m,vi n,vi o])))/\c2 f c g i j k d l m n o (fun U V K X Y L=>Q (IntKind.i64.wrap (J-K)) L) t) a) h
def N6:CF RF:=cN A7 F6 E5
theorem Ab3:AE PP 197 (WS RF N6):=ro (tc C6 (tc WA (tc TZ tn))) Tryz.func197 (by kernel_rfl) ((show EE [(63,BB),(165,GI),(167,FL)] [] RF [] Tryz.f197 cN from by(repeat intro _);kernel_rfl) A7 F6 E5)
attribute [irreducible] N6
abbrev RG:Sg:=([.addr],[.bool])
def cQ:GT [GI,K8] RG:=fun c0 c1 f Q h=>c0 f (fun q r s t u v w x y z A B C=>∀a c,hnew C a (vi 0::(AA .i64 (AB 9)++vi 0::.bool false::vi 0::vi 0::(AA .i64 (AB 9)++[vi 0,.bool false,vi 0,vi 0]))) c->AC c (P_ a 0) 27/\∀b,b=hwr c (P_ a 0) (vi q::(AA .i64 r++vi s::.bool t::vi u::vi v::(AA .i64 w++[vi x,.bool y,vi z,vi A])))->if B == 0 then ∃g,hc b (P_ a 0)=some (vi g)/\∃(d:List Int),d.length=9/\hrow b (P_ a 1) .i64 d/\∃i,hc b (P_ a 10)=some (vi i)/\∃j,hc b (P_ a 11)=some (.bool j)/\∃k,hc b (P_ a 12)=some (vi k)/\∃l,hc b (P_ a 13)=some (vi l)/\∃(e:List Int),e.length=9/\hrow b (P_ a 14) .i64 e/\∃m,hc b (P_ a 23)=some (vi m)/\∃n,hc b (P_ a 24)=some (.bool n)/\∃o,hc b (P_ a 25)=some (vi o)/\∃p,hc b (P_ a 26)=some (vi p)/\c1 f g d i j k l e m n o p (fun E F=>Q E F) b else Q false b) h
def N7:CF RG:=cQ F6 JK
theorem Ab4:AE PP 198 (WS RG N7):=ro (tc WA (tc nM tn)) Tryz.func198 (by kernel_rfl) ((show EE [(165,GI),(170,K8)] [] RG [] Tryz.f198 cQ from by(repeat intro _);kernel_rfl) F6 JK)
attribute [irreducible] N7
abbrev YW:Sg:=([.addr,Ti],[.bool])
def cL:GT [K9,RF,RG] YW:=fun c0 c1 c2 m a Q h=>∃b,hc h m=some (.pointer b)/\∃c,b=some c/\c0 c (fun d n e=>if n == 0 then ∃f,d=some f/\c1 f (fun o g=>if ltI 0 o then ∀(i:Int),i=4611686018427387904->Q (ltI a i) g else ∃j,d=some j/\c2 j (fun p k=>if !p then ∀(l:Int),l=4611686018427387904->Q (ltI a l) k else Q false k) g) e else Q false e) h
def TM:CF YW:=cL JL N6 N7
theorem Ab1:AE PP 123 (WS YW TM):=ro (tc nN (tc Ab3 (tc Ab4 tn))) Tryz.func123 (by kernel_rfl) ((show EE [(142,K9),(197,RF),(198,RG)] [] YW [] Tryz.f123 cL from by(repeat intro _);kernel_rfl) JL N6 N7)
attribute [irreducible] TM
abbrev QH:Sg:=([.slc,Ti],[.ag [.row .u8 32]])
def Z1:GT [KN] QH:=fun c0 r e f a Q h=>∀b d,hnew h b (AA .u8 (AB 32)) d->0≤IntKind.i64.wrap (a*32)/\IntKind.i64.wrap (a*32)≤(↑e:Int)/\if leI 32 (↑(e-(IntKind.i64.wrap (a*32)).toNat):Int) then (0:Int)≤32/\32≤(↑(f-(IntKind.i64.wrap (a*32)).toNat):Int)/\∃(s:Addr),AK (AK r (IntKind.i64.wrap (a*32)).toNat f 1) 0 (f-(IntKind.i64.wrap (a*32)).toNat) 1=some s/\32≤32/\∃(j:List Int),j.length=32/\hrow d s .u8 j/\AC d (P_ b 0) 32/\∀k,k=hwr d (P_ b 0) (AA .u8 j++[])->∃(l:List Int),l.length=32/\hrow k (P_ b 0) .u8 l/\Q l k else c0 (fun u v=>∀c m,hnew v c (AA .u8 (AB 32)) m->AC m (P_ c 0) 32/\∀g,g=hwr m (P_ c 0) (AA .u8 u++[])->∃(n:List Value),hsv g (AK r (IntKind.i64.wrap (a*32)).toNat f 1) 1 ((e-(IntKind.i64.wrap (a*32)).toNat).min 32) n/\(n=[]∨∃(t:Addr),AK (some (P_ c 0)) 0 32 1=some t/\AC g t ((e-(IntKind.i64.wrap (a*32)).toNat).min 32*1))/\∀(i:H),i=E8 g (AK (some (P_ c 0)) 0 32 1) n->∃(o:List Int),o.length=32/\hrow i (P_ c 0) .u8 o/\AC i (P_ b 0) 32/\∀p,p=hwr i (P_ b 0) (AA .u8 o++[])->∃(q:List Int),q.length=32/\hrow p (P_ b 0) .u8 q/\Q q p) d
def NA:CF QH:=Z1 I5
theorem Aa4:AE PP 201 (WS QH NA):=ro (tc mF tn) Tryz.func201 (by kernel_rfl) ((show EE [(251,KN)] [] QH [] Tryz.f201 Z1 from by(repeat intro _);kernel_rfl) I5)
attribute [irreducible] NA
abbrev YO:Sg:=([.addr,Ti,.slc],[Ti])
def ZX:GT [BB,KL,QF,GH,H3,KP,KU,KO,QH] YO:=fun c0 c1 c2 c3 c4 c5 c6 c7 c8 a f s b t Q h=>c2 a f (fun u m g=>if m != 0 then Q m g else if (↑b:Int)==0 then Q 1 g else c0 a (fun v w x y z A B C=>c1 v w x y z A B (fun E i=>if ltI E b then Q 4 i else if u then Q 9 i else c4 a f (fun F G I=>∀(e:JT),(∀(c:Int) (j:H),(if ltI c G then c5 a c (fun J n=>if !J then e [.dv (.one (vi (IntKind.i64.wrap (c+1))))] n else c6 a c (fun o p=>if o != 0 then Q o p else e [.dv (.one (vi (IntKind.i64.wrap (c+1))))] p) n) j else (32:Int)≠0/\∀(k:JT),(∀(d:Int) (l:H),(if ltI d (IntKind.i64.wrap ((IntKind.i64.wrap (IntKind.i64.wrap ((↑b:Int)+32)-1)).tdiv 32)) then IntKind.i64.wrap ((IntKind.i64.wrap (IntKind.i64.wrap ((↑b:Int)+32)-1)).tdiv 32)≠0/\c7 a f ((IntKind.i64.wrap (d+1)).tmod (IntKind.i64.wrap ((IntKind.i64.wrap (IntKind.i64.wrap ((↑b:Int)+32)-1)).tdiv 32))) (fun K L M=>c8 s b t ((IntKind.i64.wrap (d+1)).tmod (IntKind.i64.wrap ((IntKind.i64.wrap (IntKind.i64.wrap ((↑b:Int)+32)-1)).tdiv 32))) (fun N O=>c3 a K L N (fun q r=>if q != 0 then Q q r else k [.dv (.one (vi (IntKind.i64.wrap (d+1))))] r) O) M) l else Q 0 l)->k [.dv (.one (vi d))] l)->k [.dv (.one (vi 0))] j)->e [.dv (.one (vi c))] j)->e [.dv (.one (vi F))] I) i) C) g) h
def TJ:CF YO:=ZX A7 IJ LT F5 G8 I7 JA I6 NA
theorem Aa2:AE PP 124 (WS YO TJ):=ro (tc C6 (tc gJ (tc mC (tc V9 (tc gK (tc mH (tc mN (tc mG (tc Aa4 tn))))))))) Tryz.func124 (by kernel_rfl) ((show EE [(63,BB),(121,KL),(122,QF),(169,GH),(194,H3),(196,KP),(199,KU),(200,KO),(201,QH)] [] YO [(250,[(11,.sc (.int .i64))]),(1018,[(70,.sc (.int .i64))])] Tryz.f124 ZX from by(repeat intro _);kernel_rfl) A7 IJ LT F5 G8 I7 JA I6 NA)
attribute [irreducible] TJ
abbrev YZ:Sg:=([.addr,Ti],[Ti])
def fV:GT [BB,LK,K5] YZ:=fun c0 c1 c2 b c Q h=>c1 b (fun l e a=>if e != 0 then Q e a else if leI c l then Q 2 a else ∀(f:Int),f=4611686018427387904->if ltI f c then Q 2 a else ∃d,hc a (b.add 1)=some (.pointer d)/\∃g,hc a b=some (.pointer g)/\∃i,g=some i/\c0 i (fun p m q r s t u j=>hcs j (b.add 1) [.pointer d]/\∃k,d=some k/\c2 k m c (fun n o=>Q n o) j) a) h
def TW:CF YZ:=fV A7 F7 JH
theorem AcP:AE PP 125 (WS YZ TW):=ro (tc C6 (tc WC (tc nJ tn))) Tryz.func125 (by kernel_rfl) ((show EE [(63,BB),(66,LK),(100,K5)] [] YZ [] Tryz.f125 fV from by(repeat intro _);kernel_rfl) A7 F7 JH)
attribute [irreducible] TW
end Go.Proofs.YteedolonhdbieaaGreatDoor
end
section
namespace Go.Proofs.YteedolonhdbieaaGreatDoor
open Go Go.RowKit Go.Vc
set_option maxRecDepth 100000
theorem AeB:Tryz.f40.body=some cS:=by kernel_rfl
theorem AeC:cS=.seq (sL cS) (.seq (sL (sR cS)) (.seq (sL (sR (sR cS))) (.seq (.seq (sL (sL (sR (sR (sR cS))))) (sR (sL (sR (sR (sR cS)))))) (.seq (sL (sR (sR (sR (sR cS))))) .ret)))):=by kernel_rfl
theorem ann_all:CV [] (sL cS) 1=true/\CV [] (sL (sR cS)) 1=true/\CV [] (sL (sR (sR cS))) 1=true/\CV [] (sL (sL (sR (sR (sR cS))))) 1=true/\CV [] (sL (sR (sR (sR (sR cS))))) 1=true:=⟨by kernel_rfl,by kernel_rfl,by kernel_rfl,by kernel_rfl,by kernel_rfl⟩
theorem asg_all:((asg (sL cS)).all fun d=>Nat.blt d 35)=true/\((asg (sL (sR cS))).all fun d=>Nat.blt d 35)=true/\((asg (sL (sR (sR cS)))).all fun d=>Nat.blt d 35)=true/\((asg (sL (sL (sR (sR (sR cS)))))).all fun d=>Nat.blt d 35)=true/\((asg (sL (sR (sR (sR (sR cS)))))).all fun d=>Nat.blt d 35)=true:=⟨by kernel_rfl,by kernel_rfl,by kernel_rfl,by kernel_rfl,by kernel_rfl⟩
theorem qN{fr:Fr}{tmps:Array Value}{a2 a3 a4:Addr}(hF:FR fr tmps)(e2:get fr 2=.dv (.addr a2))(e3:get fr 3=.dv (.addr a3))(e4:get fr 4=.dv (.addr a4)):FR [(2,.dv (.addr a2)),(3,.dv (.addr a3)),(4,.dv (.addr a4))] tmps:=
 lX hF fun i=>by
  match i with
  | 2=>exact Or.inr e2.symm
  | 3=>exact Or.inr e3.symm
  | 4=>exact Or.inr e4.symm
  | 0=>exact Or.inl rfl
  | 1=>exact Or.inl rfl
  | n+5=>exact Or.inl rfl
theorem xJ{F1:Addr->(Int->Int->HP)->HP}{F2:Int->(Value->HP)->HP}{F3:Addr->Int->(Int->Int->Int->Option Addr->Nat->Nat->List Int->Bool->HP)->HP}
  (h1:AE Tryz.prog 66 (W [.addr] [.int .i64,.int .i64] F1)) (h2:AE Tryz.prog 119 (W [.int .i64] [.fn] F2)) (h3:AE Tryz.prog 120 (W [.addr,.int .i64] [imT,.bool] F3))
  (args:List DV) (Q:List DV->HP) (h:H) (hok:∀x,x∈args->x.ok) (hD:DD F1 F2 F3 args Q h):callsV Tryz.prog 40 (args.map DV.flat) Q h:=by
 have hT:TblOk Tryz.prog [(66,W [.addr] [.int .i64,.int .i64] F1),(119,W [.int .i64] [.fn] F2)]:=TblOk.cons h1 (TblOk.cons h2 TblOk.nil)
 refine⟨by kernel_rfl,fun w hw=>?_⟩
 subst hw
 unfold DD at hD
 split at hD
 case h_2=>exact hD.elim
 rename_i x
 refine (callsIn_wide (n:=9)).1 ?_
 refine callsIn_of_wp_marks (c:=cS) Tryz.func40 AeB trivial ?_ rfl
 have nt:Tryz.f40.ntmps=35:=by kernel_rfl
 rw[nt,AeC]
 have leaf:∀(fr:Fr) (a:Act) (w':World),FR fr a.tmps->a.defers=[]->Go.Vc.Rest w w'->GM Tryz.prog Tryz.f40.results.toList fr w'.heap (fun xs=>Q xs w'.heap)->
   bodyPostM Fence.wide 9 Tryz.prog Tryz.f40 (fun e w'=>∃xs,(∀x,x∈xs->x.ok)/\e=.returned (HZ xs)/\Go.Vc.Rest w w'/\Q xs w'.heap) .ret a w':=by
  intro fr a w' hF hdf hr hd
  obtain⟨xs,g1,g2,g3⟩:=YG hF hd
  show LeavesInM _ _ _ _ _ _ a.defers _ _
  rw[hdf]
  exact⟨_,g3,xs,g1,rfl,hr,g2⟩
 have leafM:∀(fr:Fr) (a:Act) (w':World) (dd:Nat) (a2 a3 a4:Addr),FR fr a.tmps->get fr 2=.dv (.addr a2)->get fr 3=.dv (.addr a3)->get fr 4=.dv (.addr a4)->a.defers=[{ target:=.collected dd,args:=#[] }]->Go.Vc.Rest w w'->w'.heap[dd]?=some (.deferred (some []))->(∀oN hE,hE=A3 w'.heap dd oN->PI a2 a3 a4 Q hE)->
   bodyPostM Fence.wide 9 Tryz.prog Tryz.f40 (fun e w'=>∃xs,(∀x,x∈xs->x.ok)/\e=.returned (HZ xs)/\Go.Vc.Rest w w'/\Q xs w'.heap) .ret a w':=by
  intro fr a w' dd a2 a3 a4 hF e2 e3 e4 hdf hr hk hd
  have hd2:=hd (.deferred none) _ rfl
  obtain⟨xs,g1,g2,g3⟩:=YG (P:=Tryz.prog) (fn:=Tryz.f40) (a:=a) (w:=w'.putObj dd (.deferred none)) (qN hF e2 e3 e4) hd2
  show LeavesInM _ _ _ _ _ _ a.defers _ _
  rw[hdf]
  refine⟨by simp,.inl ⟨_,_,rfl,run_takeDeferred hk,?_⟩⟩
  exact⟨_,g3,xs,g1,rfl,hr.trans ⟨rfl,rfl,rfl⟩,g2⟩
 refine VQ (sz:=35) (df:=[]) hT ann_all.1 asg_all.1 (by simp) (lW [x] hok _) rfl hD ?_ (fun fr' a' w' _ _ _ y=>y.elim) (fun _ _ _ y=>y.elim) (fun _ _ _ y=>y.elim)
 intro fr1 a1 w1 hF1 _ hs1 hd1 r1 hD1
 refine VQ (sz:=35) (df:=[]) hT ann_all.2.1 asg_all.2.1 hs1 hF1 hd1 hD1 ?_ (fun fr' a' w' _ _ _ y=>y.elim) (fun _ _ _ y=>y.elim) (fun _ _ _ y=>y.elim)
 intro fr2 a2 w2 hF2 _ hs2 hd2 r2 hD2
 refine VQ (sz:=35) (df:=[]) hT ann_all.2.2.1 asg_all.2.2.1 hs2 hF2 hd2 hD2 ?_ (fun fr' a' w' hF' hd' r' y=>leaf fr' a' w' hF' hd' ((r1.trans r2).trans r') y) (fun _ _ _ y=>y.elim) (fun _ _ _ y=>y.elim)
 intro fr3 a3 w3 hF3 _ hs3 hd3 r3 hD3
 refine wpIn_seq ?_
 refine VQ (sz:=35) (df:=[]) hT ann_all.2.2.2.1 asg_all.2.2.2.1 hs3 hF3 hd3 hD3 ?_ (fun fr' a' w' _ _ _ y=>y.elim) (fun _ _ _ y=>y.elim) (fun _ _ _ y=>y.elim)
 intro fr4 a4 w4 hF4 _ hs4 hd4 r4 hD4
 refine AiE h3 hF4 hs4 hd4 hD4 (((r1.trans r2).trans r3).trans r4) ?_ ?_
 ·intro b2 b3 b4 W4 dd e2 e3 e4 rst hk hd
  exact leafM fr4 _ W4 dd b2 b3 b4 hF4 e2 e3 e4 rfl rst hk hd
 ·intro b2 b3 b4 W4 dd e2 e3 e4 rst hd
  show (Code.seq _ Code.ret).wpIn _ _ _ _ _ _
  refine VQ (sz:=35) (df:=[{ target:=.collected dd,args:=#[] }]) TblOk.nil ann_all.2.2.2.2 asg_all.2.2.2.2 hs4 (qN hF4 e2 e3 e4) rfl hd ?_ (fun fr' a' w' _ _ _ y=>y.elim) (fun _ _ _ y=>y.elim) (fun _ _ _ y=>y.elim)
  intro fr5 a5 w5 hF5 hA5 hs5 hd5 r5 hq
  refine wpIn_ret ?_
  have n2:((asg (sL (sR (sR (sR (sR cS)))))).contains 2 || (asg (sL (sR (sR (sR (sR cS)))))).contains 3 || (asg (sL (sR (sR (sR (sR cS)))))).contains 4)=false:=by kernel_rfl
  simp only[Bool.or_eq_false_iff]at n2
  have nin:∀k,(asg (sL (sR (sR (sR (sR cS)))))).contains k=false->k ∉ asg (sL (sR (sR (sR (sR cS))))):=fun k hk y=>by
   rw[List.contains_iff_mem.2 y]at hk;cases hk
  exact leafM fr5 a5 w5 dd b2 b3 b4 hF5 (hA5 2 (nin 2 n2.1.1)) (hA5 3 (nin 3 n2.1.2)) (hA5 4 (nin 4 n2.2)) hd5 (rst.trans r5) hq.1 hq.2
def IP:=iX F7 N5 LU
theorem gS:AE PP 40 (W [.addr] [.ag [.int .i64,.int .i64,.int .i64,.slc,.row .u8 32],.int .i64,.int .i64] IP):=
 AkR (DD:=DD F7 N5 LU) (xJ WC Ab2 Ab0) (AfF F7 N5 LU)
attribute [irreducible] IP
end Go.Proofs.YteedolonhdbieaaGreatDoor
end
