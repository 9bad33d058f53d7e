/- LoaderWhole and its parts, laid together by a program of ours: F -/
import Derived.Test.YteedolonhdbieaaGreatDoorK3
set_option autoImplicit false
set_option linter.all false
namespace Go.Vc
abbrev HP:=H->Prop
end Go.Vc
section
namespace Go.Proofs.YteedolonhdbieaaGreatDoor
open Go Go.Vc
set_option maxRecDepth 100000
abbrev JT:Type:=List SV → H → Prop
abbrev OA:Type:=Option Addr
abbrev Ti:Ty:=.int .i64
abbrev Si:Sh:=.int .i64
abbrev vi(x:Int):Value:=.int .i64 x
abbrev P_(b o:Nat):Addr:=⟨b,o,none⟩
abbrev tc:=@TblOk.cons
abbrev tn:=@TblOk.nil
abbrev Tb:Ty:=.int .u8
abbrev Tu:Ty:=.int .u64
abbrev Tv:Ty:=.int .u32
abbrev Sg:=List Ty×List Ty
abbrev CF(s:Sg):Type:=Cur s.1 (Cur s.2 (H->Prop)->H->Prop)
abbrev GT:List Sg->Sg->Type
 | [],s=>CF s
 | c::r,s=>CF c->GT r s
abbrev WS(s:Sg)(F:CF s):Run:=W s.1 s.2 F
def EE:(cs:List (Nat×Sg))->Tbl->(s:Sg)->Ann->Func->GT (cs.map (·.2)) s->Prop
 | [],T,s,a,f,G=>alP s.1 G fun xs g=>∀Q h,g Q h=M7 PP T a f xs (PU s.2 Q) h
 | (n,c)::r,T,s,a,f,G=>∀F:CF c,EE r (T++[(n,WS c F)]) s a f (G F)
theorem ro{T:Tbl}(hT:TblOk PP T){f:FuncId}{fn:Func}{ann:Ann}{s:Sg}{F:CF s}(hf:PP.funcs[f]?=some fn)(hc:(L8 PP f&&(fn.body.map fun c=>CV ann c 1)==some true)=true)(hE:alP s.1 F fun xs g=>∀Q h,g Q h=M7 PP T ann fn xs (PU s.2 Q) h):AE PP f (WS s F):=by
 rw[Bool.and_eq_true,beq_iff_eq]at hc
 exact uX hT hf hc.1 hc.2 hE
abbrev SL:Sg:=([.addr,Ti],[Ti])
def fB:GT [] SL:=fun d k Q h=>∀(c:JT),(∀(a:Int) (b:H),(∃l e m,hc b d=some (.slice l e m)/\if ltI a e then ∃f g n,hc b d=some (.slice f g n)/\∃i,f=some i/\0≤a/\a<g/\∃j,hc b (i.add (a.toNat*2))=some (vi j)/\if j == k then Q a b else c [.dv (.one (vi (IntKind.i64.wrap (a+1))))] b else Q (-1) b)->c [.dv (.one (vi a))] b)->c [.dv (.one (vi 0))] h
def O5:CF SL:=fB
theorem Ac8:AE PP 162 (WS SL O5):=ro tn Tryz.func162 (by kernel_rfl) ((show EE [] [] SL [(26,[(5,.sc (.int .i64))])] Tryz.f162 fB from by(repeat intro _);kernel_rfl))
attribute [irreducible] O5
abbrev SK:Sg:=([.addr,Ti],[.bool])
def fA:GT [SL] SK:=fun c0 a b Q h=>c0 a b (fun c d=>Q (leI 0 c) d) h
def O4:CF SK:=fA O5
theorem Ac7:AE PP 89 (WS SK O4):=ro (tc Ac8 tn) Tryz.func89 (by kernel_rfl) ((show EE [(162,SL)] [] SK [] Tryz.f89 fA from by(repeat intro _);kernel_rfl) O5)
attribute [irreducible] O4
abbrev SJ:Sg:=([.slc],[.ptr,Ti,Ti])
def eZ:GT [SK] SJ:=fun c0 d b af Q h=>if ltI 64 b then Q none 3 64 h else ∀c s,hnew h c [.slice none 0 0] s->∀(m:JT),(∀(a:Int) (e:H),(if ltI a b then ∀(t:JT),(∀(f:H),(∀(u:JT),(∀(n:H),(∃v,d=some v/\0≤a/\a<b/\∃w,hc n (v.add (a.toNat*2))=some (vi w)/\c0 (P_ c 0) w (fun R x=>if R then Q none 18 a x else ∀y g,hnew x y [] g->∃i j k,hc g (P_ c 0)=some (.slice i j k)/\∃o,d=some o/\0≤a/\a<b/\∃p,hc g (o.add (a.toNat*2))=some (vi p)/\∃z,d=some z/\0≤a/\a<b/\∃A q T,hc g ((z.add (a.toNat*2)).add 1)=some (.slice A q T)/\∃(B:List Value),hsv g A 1 q B/\AZ g 1 [.int .u8 0] 1 (some (P_ y 0)) 0 0 q B fun U V X r=>hcs r (o.add (a.toNat*2)) [vi p]/\hcs r (P_ c 0) [.slice i j k]/\∀C l,hnew r C [vi p,.slice U V X] l->hcs l (P_ c 0) [.slice i j k]/\∃(E:List Value),hsv l (some (P_ C 0)) 2 1 E/\AZ l 2 [vi 0,.slice none 0 0] 32 i j k 1 E fun Y Z aa F=>AC F (P_ c 0) 1/\∀G,G=hwr F (P_ c 0) [.slice Y Z aa]->m [.dv (.one (vi (IntKind.i64.wrap (a+1))))] G) n)->u [] n)->∃I,d=some I/\0≤a/\a<b/\∃ab J ac,hc f ((I.add (a.toNat*2)).add 1)=some (.slice ab J ac)/\if ltI (↑J:Int) 1 then Q none 4 a f else ∃K,d=some K/\0≤a/\a<b/\∃ad L ae,hc f ((K.add (a.toNat*2)).add 1)=some (.slice ad L ae)/\if ltI 256 L then Q none 4 a f else u [] f)->t [] f)->∃M,d=some M/\0≤a/\a<b/\∃N,hc e (M.add (a.toNat*2))=some (vi N)/\if ltI N 0 then Q none 2 a e else ∃O,d=some O/\0≤a/\a<b/\∃P,hc e (O.add (a.toNat*2))=some (vi P)/\if ltI 63 P then Q none 2 a e else t [] e else Q (some (P_ c 0)) 0 0 e)->m [.dv (.one (vi a))] e)->m [.dv (.one (vi 0))] s
def LV:CF SJ:=eZ O4
theorem Ac6:AE PP 21 (WS SJ LV):=ro (tc Ac7 tn) Tryz.func21 (by kernel_rfl) ((show EE [(89,SK)] [] SJ [(122,[(6,.sc (.int .i64))]),(1956,[]),(3913,[])] Tryz.f21 eZ from by(repeat intro _);kernel_rfl) O4)
attribute [irreducible] LV
abbrev QU:Sg:=([Ti,Ti,Ti],[.bool])
def bG:GT [] QU:=fun a b c Q h=>if leI b a then Q (leI a c) h else Q false h
def NM:CF QU:=bG
theorem AaL:AE PP 163 (WS QU NM):=ro tn Tryz.func163 (by kernel_rfl) ((show EE [] [] QU [] Tryz.f163 bG from by(repeat intro _);kernel_rfl))
attribute [irreducible] NM
abbrev H8:Sg:=([.ag [Si,Si,Si,Si,Si,Si,Si]],[Ti])
def aX:GT [QU] H8:=fun c0 u v w x y z A Q h=>∀a d,hnew h a [vi u,vi v,vi w,vi x,vi y,vi z,vi A] d->∀(b:JT),(∀(l:Bool) (e:H),(if !l then Q 1 e else Q 0 e)->b [.dv (.one (.bool l))] e)->∃m,hc d (P_ a 1)=some (vi m)/\c0 m 1 8 (fun B c=>if B then ∃n,hc c (P_ a 0)=some (vi n)/\∃o,hc c (P_ a 1)=some (vi o)/\c0 n (IntKind.i64.wrap (o+3)) 256 (fun C f=>if C then ∃p,hc f (P_ a 2)=some (vi p)/\c0 p 1 64 (fun E g=>if E then ∃q,hc g (P_ a 3)=some (vi q)/\c0 q 1 65536 (fun F i=>if F then ∃r,hc i (P_ a 4)=some (vi r)/\c0 r 1 64 (fun G j=>if G then ∃s,hc j (P_ a 5)=some (vi s)/\c0 s 0 65536 (fun I k=>if I then ∃t,hc k (P_ a 6)=some (vi t)/\c0 t 0 64 (fun J K=>b [.dv (.one (.bool J))] K) k else b [.dv (.one (.bool false))] k) j else b [.dv (.one (.bool false))] j) i else b [.dv (.one (.bool false))] i) g else b [.dv (.one (.bool false))] g) f else b [.dv (.one (.bool false))] f) c else b [.dv (.one (.bool false))] c) d
def GN:CF H8:=aX NM
theorem gP:AE PP 90 (WS H8 GN):=ro (tc AaL tn) Tryz.func90 (by kernel_rfl) ((show EE [(163,QU)] [] H8 [(3,[(3,.sc (.bool))])] Tryz.f90 aX from by(repeat intro _);kernel_rfl) NM)
attribute [irreducible] GN
abbrev KX:Sg:=([.ag [Si,Si,Si,Si,Si,Si,Si]],[Ti])
def bF:GT [] KX:=fun d e f g i j k Q h=>∀b a,hnew h b [vi d,vi e,vi f,vi g,vi i,vi j,vi k] a->∃c,hc a (P_ b 6)=some (vi c)/\Q (IntKind.i64.wrap (2+IntKind.i64.wrap (2*c))) a
def IM:CF KX:=bF
theorem mQ:AE PP 91 (WS KX IM):=ro tn Tryz.func91 (by kernel_rfl) ((show EE [] [] KX [] Tryz.f91 bF from by(repeat intro _);kernel_rfl))
attribute [irreducible] IM
abbrev KW:Sg:=([.ag [Si,Si,Si,Si,Si,Si,Si]],[Ti])
def bD:GT [] KW:=fun f g i j k l m Q h=>∀b a,hnew h b [vi f,vi g,vi i,vi j,vi k,vi l,vi m] a->∃c,hc a (P_ b 1)=some (vi c)/\∃d,hc a (P_ b 2)=some (vi d)/\∃e,hc a (P_ b 4)=some (vi e)/\Q (IntKind.i64.wrap (IntKind.i64.wrap (c*d)+e)) a
def IL:CF KW:=bD
theorem mP:AE PP 92 (WS KW IL):=ro tn Tryz.func92 (by kernel_rfl) ((show EE [] [] KW [] Tryz.f92 bD from by(repeat intro _);kernel_rfl))
attribute [irreducible] IL
abbrev RO:Sg:=([Tv,Tv],[Tv,Tv])
def lY:GT [] RO:=fun a b Q h=>(0:Int)≤32/\Q (IntKind.u32.wrap ((IntKind.u64.wrap (IntKind.u64.wrap a*IntKind.u64.wrap b)).fdiv (2^32))) (IntKind.u32.wrap (IntKind.u64.wrap (IntKind.u64.wrap a*IntKind.u64.wrap b))) h
def V6:CF RO:=lY
theorem AbC:AE PP 232 (WS RO V6):=ro tn Tryz.func232 (by kernel_rfl) ((show EE [] [] RO [] Tryz.f232 lY from by(repeat intro _);kernel_rfl))
attribute [irreducible] V6
abbrev RP:Sg:=([Tu,Tu],[Tu,Tu])
def dG:GT [] RP:=fun a b Q h=>∀(d:Int),d=4294967295->(0:Int)≤32/\∀(c:Int),c=4294967295->(0:Int)≤32/\(0:Int)≤32/\∀(e:Int),e=4294967295->(0:Int)≤32/\(0:Int)≤32/\Q (IntKind.u64.wrap (IntKind.u64.wrap (IntKind.u64.wrap (a.fdiv (2^32)*b.fdiv (2^32))+(IntKind.u64.wrap (IntKind.u64.wrap (a.fdiv (2^32)*bits .and .u64 b c)+(IntKind.u64.wrap (bits .and .u64 a d*bits .and .u64 b c)).fdiv (2^32))).fdiv (2^32))+(IntKind.u64.wrap (bits .and .u64 (IntKind.u64.wrap (IntKind.u64.wrap (a.fdiv (2^32)*bits .and .u64 b c)+(IntKind.u64.wrap (bits .and .u64 a d*bits .and .u64 b c)).fdiv (2^32))) e+IntKind.u64.wrap (bits .and .u64 a d*b.fdiv (2^32)))).fdiv (2^32))) (IntKind.u64.wrap (a*b)) h
def TN:CF RP:=dG
theorem AbD:AE PP 233 (WS RP TN):=ro tn Tryz.func233 (by kernel_rfl) ((show EE [] [] RP [] Tryz.f233 dG from by(repeat intro _);kernel_rfl))
attribute [irreducible] TN
abbrev RN:Sg:=([Tu,Tu],[Tu,Tu])
def dF:GT [RO,RP] RN:=fun c0 c1 a b Q h=>c1 a b (fun c d e=>Q c d e) h
def OF:CF RN:=dF V6 TN
theorem AbB:AE PP 164 (WS RN OF):=ro (tc AbC (tc AbD tn)) Tryz.func164 (by kernel_rfl) ((show EE [(232,RO),(233,RP)] [] RN [] Tryz.f164 dF from by(repeat intro _);kernel_rfl) V6 TN)
attribute [irreducible] OF
abbrev S3:Sg:=([.slc,Ti],[.slc])
def fS:GT [RN] S3:=fun c0 u e x k Q h=>∀(l:JT),(∀(m:H),c0 (IntKind.u64.wrap (↑e:Int)) (IntKind.u64.wrap k) (fun v a w=>∀(n:JT),(∀(o:H),(0≤IntKind.i64.wrap a/\IntKind.i64.wrap a≤IntKind.i64.wrap a/\(↑32:Int)*IntKind.i64.wrap a≤2^48/\IntKind.i64.wrap a≤2^48/\∀c f,hnew o c (List.replicate (IntKind.i64.wrap a).toNat (AA .u8 (AB 32))).flatten f->∃(g:List Value),hsv f u 32 (e.min (IntKind.i64.wrap a).toNat) g/\(g=[]∨∃p,some (P_ c 0)=some p/\AC f p (e.min (IntKind.i64.wrap a).toNat*32))/\∀(q:H),q=E8 f (some (P_ c 0)) g->∀(i:JT),(∀(b:Int) (d:H),(if ltI b (↑(IntKind.i64.wrap a).toNat:Int) then 0≤b/\b≤(↑(IntKind.i64.wrap a).toNat:Int)/\0≤b/\b≤(↑(IntKind.i64.wrap a).toNat:Int)/\∃(j:List Value),hsv d (AK (some (P_ c 0)) 0 (IntKind.i64.wrap a).toNat 32) 32 ((b.toNat-0).min ((IntKind.i64.wrap a).toNat-b.toNat)) j/\(j=[]∨∃(r:Addr),AK (some (P_ c 0)) b.toNat (IntKind.i64.wrap a).toNat 32=some r/\AC d r ((b.toNat-0).min ((IntKind.i64.wrap a).toNat-b.toNat)*32))/\∀(s:H),s=E8 d (AK (some (P_ c 0)) b.toNat (IntKind.i64.wrap a).toNat 32) j->i [.dv (.one (vi (IntKind.i64.wrap (b+(↑((b.toNat-0).min ((IntKind.i64.wrap a).toNat-b.toNat)):Int)))))] s else Q (some (P_ c 0)) (IntKind.i64.wrap a).toNat (IntKind.i64.wrap a).toNat d)->i [.dv (.one (vi b))] d)->i [.dv (.one (vi (↑(e.min (IntKind.i64.wrap a).toNat):Int)))] q)->n [] o)->if ltI 0 v then False else ∀(t:Int),t=9223372036854775807->if ltI t a then False else n [] w) m->l [] m)->if ltI k 0 then False else l [] h
def L3:CF S3:=fS OF
theorem AcO:AE PP 93 (WS S3 L3):=ro (tc AbB tn) Tryz.func93 (by kernel_rfl) ((show EE [(164,RN)] [] S3 [(3,[]),(15,[]),(508,[(8,.sc (.int .i64))])] Tryz.f93 fS from by(repeat intro _);kernel_rfl) OF)
attribute [irreducible] L3
abbrev QS:Sg:=([],[.ag [.row .u8 32]])
def aZ:GT [] QS:=fun Q h=>∀c j,hnew h c (AA .u8 (AB 32)) j->∀d k,hnew j d (AA .u8 (AB 32)) k->∀(e:JT),(∀(a:Int) (b:H),(if ltI a 32 then 0≤a/\a<(↑32:Int)/\AC b ((P_ d 0).add (a.toNat*1)) 1/\∀l,l=hwr b ((P_ d 0).add (a.toNat*1)) [.int .u8 255]->e [.dv (.one (vi (IntKind.i64.wrap (a+1))))] l else ∃(f:List Int),f.length=32/\hrow b (P_ d 0) .u8 f/\AC b (P_ c 0) 32/\∀g,g=hwr b (P_ c 0) (AA .u8 f++[])->∃(i:List Int),i.length=32/\hrow g (P_ c 0) .u8 i/\Q i g)->e [.dv (.one (vi a))] b)->e [.dv (.one (vi 0))] k
def NK:CF QS:=aZ
theorem AaJ:AE PP 94 (WS QS NK):=ro tn Tryz.func94 (by kernel_rfl) ((show EE [] [] QS [(58,[(3,.sc (.int .i64))])] Tryz.f94 aZ from by(repeat intro _);kernel_rfl))
attribute [irreducible] NK
abbrev QR:Sg:=([.ag [Si,Si,Si,Si,Si,Si,Si]],[.ptr,Ti])
def aY:GT [H8,KX,KW,S3,QS] QR:=fun c0 c1 c2 c3 c4 dw dx dy dz d0 d1 d2 Q h=>∀b v,hnew h b [vi dw,vi dx,vi dy,vi dz,vi d0,vi d1,vi d2] v->∃a9,hc v (P_ b 0)=some (vi a9)/\∃ba,hc v (P_ b 1)=some (vi ba)/\∃bb,hc v (P_ b 2)=some (vi bb)/\∃bc,hc v (P_ b 3)=some (vi bc)/\∃bd,hc v (P_ b 4)=some (vi bd)/\∃be,hc v (P_ b 5)=some (vi be)/\∃bf,hc v (P_ b 6)=some (vi bf)/\c0 a9 ba bb bc bd be bf (fun bg e=>if bg != 0 then Q none bg e else ∀(f:JT),(∀(s:Addr) (w:H),(∃bh,hc w (P_ b 0)=some (vi bh)/\∃bi,hc w (P_ b 1)=some (vi bi)/\∃bj,hc w (P_ b 2)=some (vi bj)/\∃bk,hc w (P_ b 3)=some (vi bk)/\∃bl,hc w (P_ b 4)=some (vi bl)/\∃bm,hc w (P_ b 5)=some (vi bm)/\∃bn,hc w (P_ b 6)=some (vi bn)/\c1 bh bi bj bk bl bm bn (fun d3 d4=>∀(af:JT),(∀(ag:Int) (r:H),(if ltI ag d3 then ∃B C E,hc r s=some (.slice B C E)/\∃F,hc r (P_ b 0)=some (vi F)/\c4 (fun d5 ah=>hcs ah (P_ b 0) [vi F]/\hcs ah s [.slice B C E]/\∀bo G,hnew ah bo (AA .u8 d5++[]) G->hcs G (P_ b 0) [vi F]/\hcs G s [.slice B C E]/\c3 (some (P_ bo 0)) 1 1 F (fun d6 d7 d8 bp=>hcs bp s [.slice B C E]/\∀bq I,hnew bp bq [.slice d6 d7 d8] I->hcs I s [.slice B C E]/\∃(br:List Value),hsv I (some (P_ bq 0)) 1 1 br/\AZ I 1 [.slice none 0 0] 24 B C E 1 br fun d9 ea eb bs=>AC bs s 1/\∀bt,bt=hwr bs s [.slice d9 ea eb]->af [.dv (.one (vi (IntKind.i64.wrap (ag+1))))] bt) G) r else ∃bu,hc r (P_ b 0)=some (vi bu)/\∃bv,hc r (P_ b 1)=some (vi bv)/\∃bw,hc r (P_ b 2)=some (vi bw)/\∃bx,hc r (P_ b 3)=some (vi bx)/\∃bz,hc r (P_ b 4)=some (vi bz)/\∃b0,hc r (P_ b 5)=some (vi b0)/\∃b1,hc r (P_ b 6)=some (vi b1)/\∃b2 b3 b4,hc r s=some (.slice b2 b3 b4)/\∃b5 b6 b7,hc r (s.add 1)=some (.slice b5 b6 b7)/\∃b8 b9 ca,hc r (s.add 2)=some (.slice b8 b9 ca)/\∀cb cc,hnew r cb [vi bu,vi bv,vi bw,vi bx,vi bz,vi b0,vi b1,.slice b2 b3 b4,.slice b5 b6 b7,.slice b8 b9 ca,vi 0,.bool false,vi (-1),.slice none 0 0] cc->Q (some (P_ cb 0)) 0 cc)->af [.dv (.one (vi ag))] r)->af [.dv (.one (vi 0))] d4) w)->f [SV.dv (DV.addr s)] w)->∃J,hc e (P_ b 0)=some (vi J)/\∃K,hc e (P_ b 1)=some (vi K)/\∃L,hc e (P_ b 2)=some (vi L)/\∃M,hc e (P_ b 3)=some (vi M)/\∃N,hc e (P_ b 4)=some (vi N)/\∃O,hc e (P_ b 5)=some (vi O)/\∃P,hc e (P_ b 6)=some (vi P)/\∃g,hc e (P_ b 0)=some (vi g)/\∃i,hc e (P_ b 1)=some (vi i)/\∃j,hc e (P_ b 2)=some (vi j)/\∃k,hc e (P_ b 3)=some (vi k)/\∃l,hc e (P_ b 4)=some (vi l)/\∃m,hc e (P_ b 5)=some (vi m)/\∃n,hc e (P_ b 6)=some (vi n)/\c1 J K L M N O P (fun a R=>hcs R (P_ b 0) [vi g,vi i,vi j,vi k,vi l,vi m,vi n]/\(0≤a/\a≤a/\(↑8:Int)*a≤2^48/\a≤2^48/\∀T U,hnew R T (List.replicate a.toNat [vi 0]).flatten U->hcs U (P_ b 0) [vi g,vi i,vi j,vi k,vi l,vi m,vi n]/\c2 g i j k l m n (fun o cd=>(0≤o/\o≤o/\(↑1:Int)*o≤2^48/\o≤2^48/\∀ce cf,hnew cd ce (List.replicate o.toNat [.bool false]).flatten cf->∀V ai,hnew cf V [.slice none 0 0,.slice none 0 0,.slice none 0 0] ai->AC ai (P_ V 0) 3/\∀cg,cg=hwr ai (P_ V 0) [.slice none 0 0,.slice (some (P_ T 0)) a.toNat a.toNat,.slice (some (P_ ce 0)) o.toNat o.toNat]->f [SV.dv (DV.addr (P_ V 0))] cg)/\∀X ch,hnew cd X [.slice none 0 0,.slice none 0 0,.slice none 0 0] ch->0≤o/\o≤o/\(↑1:Int)*o≤2^48/\o≤2^48/\∀ci aj,hnew ch ci (List.replicate o.toNat [.bool false]).flatten aj->AC aj (P_ X 0) 3/\∀cj,cj=hwr aj (P_ X 0) [.slice none 0 0,.slice (some (P_ T 0)) a.toNat a.toNat,.slice (some (P_ ci 0)) o.toNat o.toNat]->f [SV.dv (DV.addr (P_ X 0))] cj) U/\∀Y ak,hnew U Y [.slice none 0 0,.slice none 0 0,.slice none 0 0] ak->hcs ak (P_ b 0) [vi g,vi i,vi j,vi k,vi l,vi m,vi n]/\c2 g i j k l m n (fun x ec=>0≤x/\x≤x/\(↑1:Int)*x≤2^48/\x≤2^48/\∀ck al,hnew ec ck (List.replicate x.toNat [.bool false]).flatten al->AC al (P_ Y 0) 3/\∀cl,cl=hwr al (P_ Y 0) [.slice none 0 0,.slice (some (P_ T 0)) a.toNat a.toNat,.slice (some (P_ ck 0)) x.toNat x.toNat]->f [SV.dv (DV.addr (P_ Y 0))] cl) ak)/\c2 g i j k l m n (fun c am=>(0≤a/\a≤a/\(↑8:Int)*a≤2^48/\a≤2^48/\∀an ao,hnew am an (List.replicate a.toNat [vi 0]).flatten ao->(0≤c/\c≤c/\(↑1:Int)*c≤2^48/\c≤2^48/\∀cm cn,hnew ao cm (List.replicate c.toNat [.bool false]).flatten cn->∀Z ap,hnew cn Z [.slice none 0 0,.slice none 0 0,.slice none 0 0] ap->AC ap (P_ Z 0) 3/\∀co,co=hwr ap (P_ Z 0) [.slice none 0 0,.slice (some (P_ an 0)) a.toNat a.toNat,.slice (some (P_ cm 0)) c.toNat c.toNat]->f [SV.dv (DV.addr (P_ Z 0))] co)/\∀aa cp,hnew ao aa [.slice none 0 0,.slice none 0 0,.slice none 0 0] cp->0≤c/\c≤c/\(↑1:Int)*c≤2^48/\c≤2^48/\∀cq aq,hnew cp cq (List.replicate c.toNat [.bool false]).flatten aq->AC aq (P_ aa 0) 3/\∀cr,cr=hwr aq (P_ aa 0) [.slice none 0 0,.slice (some (P_ an 0)) a.toNat a.toNat,.slice (some (P_ cq 0)) c.toNat c.toNat]->f [SV.dv (DV.addr (P_ aa 0))] cr)/\(0≤c/\c≤c/\(↑1:Int)*c≤2^48/\c≤2^48/\∀ar au,hnew am ar (List.replicate c.toNat [.bool false]).flatten au->(0≤a/\a≤a/\(↑8:Int)*a≤2^48/\a≤2^48/\∀cs ct,hnew au cs (List.replicate a.toNat [vi 0]).flatten ct->∀ab av,hnew ct ab [.slice none 0 0,.slice none 0 0,.slice none 0 0] av->AC av (P_ ab 0) 3/\∀cu,cu=hwr av (P_ ab 0) [.slice none 0 0,.slice (some (P_ cs 0)) a.toNat a.toNat,.slice (some (P_ ar 0)) c.toNat c.toNat]->f [SV.dv (DV.addr (P_ ab 0))] cu)/\∀ac cv,hnew au ac [.slice none 0 0,.slice none 0 0,.slice none 0 0] cv->0≤a/\a≤a/\(↑8:Int)*a≤2^48/\a≤2^48/\∀cw aw,hnew cv cw (List.replicate a.toNat [vi 0]).flatten aw->AC aw (P_ ac 0) 3/\∀cx,cx=hwr aw (P_ ac 0) [.slice none 0 0,.slice (some (P_ cw 0)) a.toNat a.toNat,.slice (some (P_ ar 0)) c.toNat c.toNat]->f [SV.dv (DV.addr (P_ ac 0))] cx)/\∀A ax,hnew am A [.slice none 0 0,.slice none 0 0,.slice none 0 0] ax->(0≤a/\a≤a/\(↑8:Int)*a≤2^48/\a≤2^48/\∀cy cz,hnew ax cy (List.replicate a.toNat [vi 0]).flatten cz->0≤c/\c≤c/\(↑1:Int)*c≤2^48/\c≤2^48/\∀c0 ay,hnew cz c0 (List.replicate c.toNat [.bool false]).flatten ay->AC ay (P_ A 0) 3/\∀c1,c1=hwr ay (P_ A 0) [.slice none 0 0,.slice (some (P_ cy 0)) a.toNat a.toNat,.slice (some (P_ c0 0)) c.toNat c.toNat]->f [SV.dv (DV.addr (P_ A 0))] c1)/\0≤c/\c≤c/\(↑1:Int)*c≤2^48/\c≤2^48/\∀c2 c3,hnew ax c2 (List.replicate c.toNat [.bool false]).flatten c3->0≤a/\a≤a/\(↑8:Int)*a≤2^48/\a≤2^48/\∀c4 az,hnew c3 c4 (List.replicate a.toNat [vi 0]).flatten az->AC az (P_ A 0) 3/\∀c5,c5=hwr az (P_ A 0) [.slice none 0 0,.slice (some (P_ c4 0)) a.toNat a.toNat,.slice (some (P_ c2 0)) c.toNat c.toNat]->f [SV.dv (DV.addr (P_ A 0))] c5) R/\∀t ad,hnew R t [.slice none 0 0,.slice none 0 0,.slice none 0 0] ad->hcs ad (P_ b 0) [vi g,vi i,vi j,vi k,vi l,vi m,vi n]/\(0≤a/\a≤a/\(↑8:Int)*a≤2^48/\a≤2^48/\∀c6 a0,hnew ad c6 (List.replicate a.toNat [vi 0]).flatten a0->hcs a0 (P_ b 0) [vi g,vi i,vi j,vi k,vi l,vi m,vi n]/\c2 g i j k l m n (fun y ed=>0≤y/\y≤y/\(↑1:Int)*y≤2^48/\y≤2^48/\∀c7 a1,hnew ed c7 (List.replicate y.toNat [.bool false]).flatten a1->AC a1 (P_ t 0) 3/\∀c8,c8=hwr a1 (P_ t 0) [.slice none 0 0,.slice (some (P_ c6 0)) a.toNat a.toNat,.slice (some (P_ c7 0)) y.toNat y.toNat]->f [SV.dv (DV.addr (P_ t 0))] c8) a0)/\c2 g i j k l m n (fun p c9=>(0≤a/\a≤a/\(↑8:Int)*a≤2^48/\a≤2^48/\∀da db,hnew c9 da (List.replicate a.toNat [vi 0]).flatten db->0≤p/\p≤p/\(↑1:Int)*p≤2^48/\p≤2^48/\∀dc a2,hnew db dc (List.replicate p.toNat [.bool false]).flatten a2->AC a2 (P_ t 0) 3/\∀dd,dd=hwr a2 (P_ t 0) [.slice none 0 0,.slice (some (P_ da 0)) a.toNat a.toNat,.slice (some (P_ dc 0)) p.toNat p.toNat]->f [SV.dv (DV.addr (P_ t 0))] dd)/\0≤p/\p≤p/\(↑1:Int)*p≤2^48/\p≤2^48/\∀de df,hnew c9 de (List.replicate p.toNat [.bool false]).flatten df->0≤a/\a≤a/\(↑8:Int)*a≤2^48/\a≤2^48/\∀dg a3,hnew df dg (List.replicate a.toNat [vi 0]).flatten a3->AC a3 (P_ t 0) 3/\∀dh,dh=hwr a3 (P_ t 0) [.slice none 0 0,.slice (some (P_ dg 0)) a.toNat a.toNat,.slice (some (P_ de 0)) p.toNat p.toNat]->f [SV.dv (DV.addr (P_ t 0))] dh) ad) e/\∀u ae,hnew e u [.slice none 0 0,.slice none 0 0,.slice none 0 0] ae->hcs ae (P_ b 0) [vi g,vi i,vi j,vi k,vi l,vi m,vi n]/\hcs ae (P_ b 0) [vi J,vi K,vi L,vi M,vi N,vi O,vi P]/\c1 J K L M N O P (fun d a4=>hcs a4 (P_ b 0) [vi g,vi i,vi j,vi k,vi l,vi m,vi n]/\(0≤d/\d≤d/\(↑8:Int)*d≤2^48/\d≤2^48/\∀di a5,hnew a4 di (List.replicate d.toNat [vi 0]).flatten a5->hcs a5 (P_ b 0) [vi g,vi i,vi j,vi k,vi l,vi m,vi n]/\c2 g i j k l m n (fun z ee=>0≤z/\z≤z/\(↑1:Int)*z≤2^48/\z≤2^48/\∀dj a6,hnew ee dj (List.replicate z.toNat [.bool false]).flatten a6->AC a6 (P_ u 0) 3/\∀dk,dk=hwr a6 (P_ u 0) [.slice none 0 0,.slice (some (P_ di 0)) d.toNat d.toNat,.slice (some (P_ dj 0)) z.toNat z.toNat]->f [SV.dv (DV.addr (P_ u 0))] dk) a5)/\c2 g i j k l m n (fun q dl=>(0≤d/\d≤d/\(↑8:Int)*d≤2^48/\d≤2^48/\∀dm dn,hnew dl dm (List.replicate d.toNat [vi 0]).flatten dn->0≤q/\q≤q/\(↑1:Int)*q≤2^48/\q≤2^48/\∀dp a7,hnew dn dp (List.replicate q.toNat [.bool false]).flatten a7->AC a7 (P_ u 0) 3/\∀dq,dq=hwr a7 (P_ u 0) [.slice none 0 0,.slice (some (P_ dm 0)) d.toNat d.toNat,.slice (some (P_ dp 0)) q.toNat q.toNat]->f [SV.dv (DV.addr (P_ u 0))] dq)/\0≤q/\q≤q/\(↑1:Int)*q≤2^48/\q≤2^48/\∀dr ds,hnew dl dr (List.replicate q.toNat [.bool false]).flatten ds->0≤d/\d≤d/\(↑8:Int)*d≤2^48/\d≤2^48/\∀dt a8,hnew ds dt (List.replicate d.toNat [vi 0]).flatten a8->AC a8 (P_ u 0) 3/\∀du,du=hwr a8 (P_ u 0) [.slice none 0 0,.slice (some (P_ dt 0)) d.toNat d.toNat,.slice (some (P_ dr 0)) q.toNat q.toNat]->f [SV.dv (DV.addr (P_ u 0))] du) a4) ae) v
def NJ:CF QR:=aY GN IM IL L3 NK
theorem AaI:AE PP 22 (WS QR NJ):=ro (tc gP (tc mQ (tc mP (tc AcO (tc AaJ tn))))) Tryz.func22 (by kernel_rfl) ((show EE [(90,H8),(91,KX),(92,KW),(93,S3),(94,QS)] [] QR [(7,[(5,.addr)]),(122,[(20,.sc (.int .i64))])] Tryz.f22 aY from by(repeat intro _);kernel_rfl) GN IM IL L3 NK)
attribute [irreducible] NJ
abbrev SE:Sg:=([Ti,Ti,Ti],[.bool])
def eQ:GT [] SE:=fun a b c Q h=>if leI b a then Q (leI a c) h else Q false h
def OZ:CF SE:=eQ
theorem Ac1:AE PP 95 (WS SE OZ):=ro tn Tryz.func95 (by kernel_rfl) ((show EE [] [] SE [] Tryz.f95 eQ from by(repeat intro _);kernel_rfl))
attribute [irreducible] OZ
abbrev LF:Sg:=([.ag [Si,Si,Si,Si,Si,Si,Si]],[Ti])
def eK:GT [SE] LF:=fun c0 u v w x y z A Q h=>∀a g,hnew h a [vi u,vi v,vi w,vi x,vi y,vi z,vi A] g->∀(b:JT),(∀(c:Bool) (i:H),(∃m,hc i (P_ a 4)=some (vi m)/\c0 m 1 64 (fun B d=>if B then ∃n,hc d (P_ a 5)=some (vi n)/\c0 n 0 65536 (fun C e=>if C then ∃o,hc e (P_ a 6)=some (vi o)/\c0 o 0 64 (fun E j=>if !c then Q 1 j else if !E then Q 1 j else Q 0 j) e else if !c then Q 1 e else Q 1 e) d else if !c then Q 1 d else Q 1 d) i)->b [.dv (.one (.bool c))] i)->∃p,hc g (P_ a 1)=some (vi p)/\c0 p 1 8 (fun F f=>if F then ∃q,hc f (P_ a 0)=some (vi q)/\∃r,hc f (P_ a 1)=some (vi r)/\c0 q (IntKind.i64.wrap (r+3)) 256 (fun G k=>if G then ∃s,hc k (P_ a 2)=some (vi s)/\c0 s 1 64 (fun I l=>if I then ∃t,hc l (P_ a 3)=some (vi t)/\c0 t 1 65536 (fun J K=>b [.dv (.one (.bool J))] K) l else b [.dv (.one (.bool false))] l) k else b [.dv (.one (.bool false))] k) f else b [.dv (.one (.bool false))] f) g
def JP:CF LF:=eK OZ
theorem nT:AE PP 23 (WS LF JP):=ro (tc Ac1 tn) Tryz.func23 (by kernel_rfl) ((show EE [(95,SE)] [] LF [(3,[(3,.sc (.bool))])] Tryz.f23 eK from by(repeat intro _);kernel_rfl) OZ)
attribute [irreducible] JP
abbrev R9:Sg:=([],[.ag [.row .u8 32]])
def eC:GT [] R9:=fun Q h=>∀d k,hnew h d (AA .u8 (AB 32)) k->∀b e,hnew k b (AA .u8 (AB 32)) e->AC e (P_ b 0) 32/\∀l,l=hwr e (P_ b 0) (AA .u8 (AB 32))->∀(f:JT),(∀(a:Int) (c:H),(if ltI a 32 then 0≤a/\a<(↑32:Int)/\AC c ((P_ b 0).add (a.toNat*1)) 1/\∀m,m=hwr c ((P_ b 0).add (a.toNat*1)) [.int .u8 255]->f [.dv (.one (vi (IntKind.i64.wrap (a+1))))] m else ∃(g:List Int),g.length=32/\hrow c (P_ b 0) .u8 g/\AC c (P_ d 0) 32/\∀i,i=hwr c (P_ d 0) (AA .u8 g++[])->∃(j:List Int),j.length=32/\hrow i (P_ d 0) .u8 j/\Q j i)->f [.dv (.one (vi a))] c)->f [.dv (.one (vi 0))] l
def OU:CF R9:=eC
theorem AbW:AE PP 204 (WS R9 OU):=ro tn Tryz.func204 (by kernel_rfl) ((show EE [] [] R9 [(58,[(2,.sc (.int .i64))])] Tryz.f204 eC from by(repeat intro _);kernel_rfl))
attribute [irreducible] OU
abbrev SD:Sg:=([.ag [Si,Si,Si,Si,Si,Si,Si]],[.ag [.slc,.slc,.slc]])
def eO:GT [R9] SD:=fun c0 bi bj bk bl bm bn bo Q h=>∀e T,hnew h e [vi bi,vi bj,vi bk,vi bl,vi bm,vi bn,vi bo] T->∀o i,hnew T o [.slice none 0 0,.slice none 0 0,.slice none 0 0] i->∀(j:JT),(∀(k:Addr) (U:H),(∀(z:JT),(∀(A:Int) (g:H),(∃V,hc g (P_ e 6)=some (vi V)/\if ltI A (IntKind.i64.wrap (2+IntKind.i64.wrap (2*V))) then ∃f,hc g (P_ e 0)=some (vi f)/\0≤f/\f≤f/\(↑32:Int)*f≤2^48/\f≤2^48/\∀B X,hnew g B (List.replicate f.toNat (AA .u8 (AB 32))).flatten X->∀(C:JT),(∀(l:Int) (q:H),(∃Y,hc q (P_ e 0)=some (vi Y)/\if ltI l Y then c0 (fun bp Z=>∃E,some (P_ B 0)=some E/\0≤l/\l<(↑f.toNat:Int)/\AC Z (E.add (l.toNat*32)) 32/\∀aa,aa=hwr Z (E.add (l.toNat*32)) (AA .u8 bp++[])->C [.dv (.one (vi (IntKind.i64.wrap (l+1))))] aa) q else ∃ab ac ad,hc q k=some (.slice ab ac ad)/\∀ae F,hnew q ae [.slice (some (P_ B 0)) f.toNat f.toNat] F->∃(af:List Value),hsv F (some (P_ ae 0)) 1 1 af/\AZ F 1 [.slice none 0 0] 24 ab ac ad 1 af fun bq br bs ag=>AC ag k 1/\∀ah,ah=hwr ag k [.slice bq br bs]->z [.dv (.one (vi (IntKind.i64.wrap (A+1))))] ah)->C [.dv (.one (vi l))] q)->C [.dv (.one (vi 0))] X else ∃ai aj ak,hc g k=some (.slice ai aj ak)/\∃al am an,hc g (k.add 1)=some (.slice al am an)/\∃ao ap aq,hc g (k.add 2)=some (.slice ao ap aq)/\AC g (P_ o 0) 3/\∀r,r=hwr g (P_ o 0) [.slice ai aj ak,.slice al am an,.slice ao ap aq]->∃ar au av,hc r (P_ o 0)=some (.slice ar au av)/\∃aw ax ay,hc r (P_ o 1)=some (.slice aw ax ay)/\∃az a0 a1,hc r (P_ o 2)=some (.slice az a0 a1)/\Q ar au av aw ax ay az a0 a1 r)->z [.dv (.one (vi A))] g)->z [.dv (.one (vi 0))] U)->j [SV.dv (DV.addr k)] U)->∃a,hc i (P_ e 6)=some (vi a)/\∃b,hc i (P_ e 1)=some (vi b)/\∃c,hc i (P_ e 2)=some (vi c)/\∃d,hc i (P_ e 4)=some (vi d)/\(0≤IntKind.i64.wrap (2+IntKind.i64.wrap (2*a))/\IntKind.i64.wrap (2+IntKind.i64.wrap (2*a))≤IntKind.i64.wrap (2+IntKind.i64.wrap (2*a))/\(↑8:Int)*IntKind.i64.wrap (2+IntKind.i64.wrap (2*a))≤2^48/\IntKind.i64.wrap (2+IntKind.i64.wrap (2*a))≤2^48/\∀G p,hnew i G (List.replicate (IntKind.i64.wrap (2+IntKind.i64.wrap (2*a))).toNat [vi 0]).flatten p->hcs p (P_ e 4) [vi d]/\hcs p (P_ e 2) [vi c]/\hcs p (P_ e 1) [vi b]/\(0≤IntKind.i64.wrap (IntKind.i64.wrap (b*c)+d)/\IntKind.i64.wrap (IntKind.i64.wrap (b*c)+d)≤IntKind.i64.wrap (IntKind.i64.wrap (b*c)+d)/\(↑1:Int)*IntKind.i64.wrap (IntKind.i64.wrap (b*c)+d)≤2^48/\IntKind.i64.wrap (IntKind.i64.wrap (b*c)+d)≤2^48/\∀a2 a3,hnew p a2 (List.replicate (IntKind.i64.wrap (IntKind.i64.wrap (b*c)+d)).toNat [.bool false]).flatten a3->∀u I,hnew a3 u [.slice none 0 0,.slice none 0 0,.slice none 0 0] I->AC I (P_ u 0) 3/\∀a4,a4=hwr I (P_ u 0) [.slice none 0 0,.slice (some (P_ G 0)) (IntKind.i64.wrap (2+IntKind.i64.wrap (2*a))).toNat (IntKind.i64.wrap (2+IntKind.i64.wrap (2*a))).toNat,.slice (some (P_ a2 0)) (IntKind.i64.wrap (IntKind.i64.wrap (b*c)+d)).toNat (IntKind.i64.wrap (IntKind.i64.wrap (b*c)+d)).toNat]->j [SV.dv (DV.addr (P_ u 0))] a4)/\∀v s,hnew p v [.slice none 0 0,.slice none 0 0,.slice none 0 0] s->hcs s (P_ e 4) [vi d]/\hcs s (P_ e 2) [vi c]/\hcs s (P_ e 1) [vi b]/\0≤IntKind.i64.wrap (IntKind.i64.wrap (b*c)+d)/\IntKind.i64.wrap (IntKind.i64.wrap (b*c)+d)≤IntKind.i64.wrap (IntKind.i64.wrap (b*c)+d)/\(↑1:Int)*IntKind.i64.wrap (IntKind.i64.wrap (b*c)+d)≤2^48/\IntKind.i64.wrap (IntKind.i64.wrap (b*c)+d)≤2^48/\∀a5 J,hnew s a5 (List.replicate (IntKind.i64.wrap (IntKind.i64.wrap (b*c)+d)).toNat [.bool false]).flatten J->AC J (P_ v 0) 3/\∀a6,a6=hwr J (P_ v 0) [.slice none 0 0,.slice (some (P_ G 0)) (IntKind.i64.wrap (2+IntKind.i64.wrap (2*a))).toNat (IntKind.i64.wrap (2+IntKind.i64.wrap (2*a))).toNat,.slice (some (P_ a5 0)) (IntKind.i64.wrap (IntKind.i64.wrap (b*c)+d)).toNat (IntKind.i64.wrap (IntKind.i64.wrap (b*c)+d)).toNat]->j [SV.dv (DV.addr (P_ v 0))] a6)/\(0≤IntKind.i64.wrap (IntKind.i64.wrap (b*c)+d)/\IntKind.i64.wrap (IntKind.i64.wrap (b*c)+d)≤IntKind.i64.wrap (IntKind.i64.wrap (b*c)+d)/\(↑1:Int)*IntKind.i64.wrap (IntKind.i64.wrap (b*c)+d)≤2^48/\IntKind.i64.wrap (IntKind.i64.wrap (b*c)+d)≤2^48/\∀K w,hnew i K (List.replicate (IntKind.i64.wrap (IntKind.i64.wrap (b*c)+d)).toNat [.bool false]).flatten w->hcs w (P_ e 6) [vi a]/\(0≤IntKind.i64.wrap (2+IntKind.i64.wrap (2*a))/\IntKind.i64.wrap (2+IntKind.i64.wrap (2*a))≤IntKind.i64.wrap (2+IntKind.i64.wrap (2*a))/\(↑8:Int)*IntKind.i64.wrap (2+IntKind.i64.wrap (2*a))≤2^48/\IntKind.i64.wrap (2+IntKind.i64.wrap (2*a))≤2^48/\∀a7 a8,hnew w a7 (List.replicate (IntKind.i64.wrap (2+IntKind.i64.wrap (2*a))).toNat [vi 0]).flatten a8->∀x L,hnew a8 x [.slice none 0 0,.slice none 0 0,.slice none 0 0] L->AC L (P_ x 0) 3/\∀a9,a9=hwr L (P_ x 0) [.slice none 0 0,.slice (some (P_ a7 0)) (IntKind.i64.wrap (2+IntKind.i64.wrap (2*a))).toNat (IntKind.i64.wrap (2+IntKind.i64.wrap (2*a))).toNat,.slice (some (P_ K 0)) (IntKind.i64.wrap (IntKind.i64.wrap (b*c)+d)).toNat (IntKind.i64.wrap (IntKind.i64.wrap (b*c)+d)).toNat]->j [SV.dv (DV.addr (P_ x 0))] a9)/\∀y M,hnew w y [.slice none 0 0,.slice none 0 0,.slice none 0 0] M->hcs M (P_ e 6) [vi a]/\0≤IntKind.i64.wrap (2+IntKind.i64.wrap (2*a))/\IntKind.i64.wrap (2+IntKind.i64.wrap (2*a))≤IntKind.i64.wrap (2+IntKind.i64.wrap (2*a))/\(↑8:Int)*IntKind.i64.wrap (2+IntKind.i64.wrap (2*a))≤2^48/\IntKind.i64.wrap (2+IntKind.i64.wrap (2*a))≤2^48/\∀ba N,hnew M ba (List.replicate (IntKind.i64.wrap (2+IntKind.i64.wrap (2*a))).toNat [vi 0]).flatten N->AC N (P_ y 0) 3/\∀bb,bb=hwr N (P_ y 0) [.slice none 0 0,.slice (some (P_ ba 0)) (IntKind.i64.wrap (2+IntKind.i64.wrap (2*a))).toNat (IntKind.i64.wrap (2+IntKind.i64.wrap (2*a))).toNat,.slice (some (P_ K 0)) (IntKind.i64.wrap (IntKind.i64.wrap (b*c)+d)).toNat (IntKind.i64.wrap (IntKind.i64.wrap (b*c)+d)).toNat]->j [SV.dv (DV.addr (P_ y 0))] bb)/\∀m n,hnew i m [.slice none 0 0,.slice none 0 0,.slice none 0 0] n->hcs n (P_ e 4) [vi d]/\hcs n (P_ e 2) [vi c]/\hcs n (P_ e 1) [vi b]/\hcs n (P_ e 6) [vi a]/\(0≤IntKind.i64.wrap (2+IntKind.i64.wrap (2*a))/\IntKind.i64.wrap (2+IntKind.i64.wrap (2*a))≤IntKind.i64.wrap (2+IntKind.i64.wrap (2*a))/\(↑8:Int)*IntKind.i64.wrap (2+IntKind.i64.wrap (2*a))≤2^48/\IntKind.i64.wrap (2+IntKind.i64.wrap (2*a))≤2^48/\∀bc t,hnew n bc (List.replicate (IntKind.i64.wrap (2+IntKind.i64.wrap (2*a))).toNat [vi 0]).flatten t->hcs t (P_ e 4) [vi d]/\hcs t (P_ e 2) [vi c]/\hcs t (P_ e 1) [vi b]/\0≤IntKind.i64.wrap (IntKind.i64.wrap (b*c)+d)/\IntKind.i64.wrap (IntKind.i64.wrap (b*c)+d)≤IntKind.i64.wrap (IntKind.i64.wrap (b*c)+d)/\(↑1:Int)*IntKind.i64.wrap (IntKind.i64.wrap (b*c)+d)≤2^48/\IntKind.i64.wrap (IntKind.i64.wrap (b*c)+d)≤2^48/\∀bd O,hnew t bd (List.replicate (IntKind.i64.wrap (IntKind.i64.wrap (b*c)+d)).toNat [.bool false]).flatten O->AC O (P_ m 0) 3/\∀be,be=hwr O (P_ m 0) [.slice none 0 0,.slice (some (P_ bc 0)) (IntKind.i64.wrap (2+IntKind.i64.wrap (2*a))).toNat (IntKind.i64.wrap (2+IntKind.i64.wrap (2*a))).toNat,.slice (some (P_ bd 0)) (IntKind.i64.wrap (IntKind.i64.wrap (b*c)+d)).toNat (IntKind.i64.wrap (IntKind.i64.wrap (b*c)+d)).toNat]->j [SV.dv (DV.addr (P_ m 0))] be)/\0≤IntKind.i64.wrap (IntKind.i64.wrap (b*c)+d)/\IntKind.i64.wrap (IntKind.i64.wrap (b*c)+d)≤IntKind.i64.wrap (IntKind.i64.wrap (b*c)+d)/\(↑1:Int)*IntKind.i64.wrap (IntKind.i64.wrap (b*c)+d)≤2^48/\IntKind.i64.wrap (IntKind.i64.wrap (b*c)+d)≤2^48/\∀bf P,hnew n bf (List.replicate (IntKind.i64.wrap (IntKind.i64.wrap (b*c)+d)).toNat [.bool false]).flatten P->hcs P (P_ e 6) [vi a]/\0≤IntKind.i64.wrap (2+IntKind.i64.wrap (2*a))/\IntKind.i64.wrap (2+IntKind.i64.wrap (2*a))≤IntKind.i64.wrap (2+IntKind.i64.wrap (2*a))/\(↑8:Int)*IntKind.i64.wrap (2+IntKind.i64.wrap (2*a))≤2^48/\IntKind.i64.wrap (2+IntKind.i64.wrap (2*a))≤2^48/\∀bg R,hnew P bg (List.replicate (IntKind.i64.wrap (2+IntKind.i64.wrap (2*a))).toNat [vi 0]).flatten R->AC R (P_ m 0) 3/\∀bh,bh=hwr R (P_ m 0) [.slice none 0 0,.slice (some (P_ bg 0)) (IntKind.i64.wrap (2+IntKind.i64.wrap (2*a))).toNat (IntKind.i64.wrap (2+IntKind.i64.wrap (2*a))).toNat,.slice (some (P_ bf 0)) (IntKind.i64.wrap (IntKind.i64.wrap (b*c)+d)).toNat (IntKind.i64.wrap (IntKind.i64.wrap (b*c)+d)).toNat]->j [SV.dv (DV.addr (P_ m 0))] bh
def OY:CF SD:=eO OU
theorem Ac0:AE PP 130 (WS SD OY):=ro (tc AbW tn) Tryz.func130 (by kernel_rfl) ((show EE [(204,R9)] [] SD [(3,[(3,.addr)]),(58,[(4,.sc (.int .i64))]),(14922,[(6,.sc (.int .i64))])] Tryz.f130 eO from by(repeat intro _);kernel_rfl) OU)
attribute [irreducible] OY
abbrev SC:Sg:=([.ag [Si,Si,Si,Si,Si,Si,Si]],[.ptr,Ti])
def eM:GT [LF,SD] SC:=fun c0 c1 E F G I J K L Q h=>∀a c,hnew h a [vi E,vi F,vi G,vi I,vi J,vi K,vi L] c->∃l,hc c (P_ a 0)=some (vi l)/\∃m,hc c (P_ a 1)=some (vi m)/\∃n,hc c (P_ a 2)=some (vi n)/\∃o,hc c (P_ a 3)=some (vi o)/\∃p,hc c (P_ a 4)=some (vi p)/\∃q,hc c (P_ a 5)=some (vi q)/\∃r,hc c (P_ a 6)=some (vi r)/\c0 l m n o p q r (fun s b=>if s != 0 then Q none s b else ∃d,hc b (P_ a 0)=some (vi d)/\∃e,hc b (P_ a 1)=some (vi e)/\∃f,hc b (P_ a 2)=some (vi f)/\∃g,hc b (P_ a 3)=some (vi g)/\∃i,hc b (P_ a 4)=some (vi i)/\∃j,hc b (P_ a 5)=some (vi j)/\∃k,hc b (P_ a 6)=some (vi k)/\∃t,hc b (P_ a 0)=some (vi t)/\∃u,hc b (P_ a 1)=some (vi u)/\∃v,hc b (P_ a 2)=some (vi v)/\∃w,hc b (P_ a 3)=some (vi w)/\∃x,hc b (P_ a 4)=some (vi x)/\∃y,hc b (P_ a 5)=some (vi y)/\∃z,hc b (P_ a 6)=some (vi z)/\c1 t u v w x y z (fun M N O P R T U V X A=>hcs A (P_ a 0) [vi d,vi e,vi f,vi g,vi i,vi j,vi k]/\∀B C,hnew A B [vi d,vi e,vi f,vi g,vi i,vi j,vi k,.slice M N O,.slice P R T,.slice U V X,vi 0,.bool false,vi (-1),.slice none 0 0] C->Q (some (P_ B 0)) 0 C) b) c
def OX:CF SC:=eM JP OY
theorem AbZ:AE PP 50 (WS SC OX):=ro (tc nT (tc Ac0 tn)) Tryz.func50 (by kernel_rfl) ((show EE [(23,LF),(130,SD)] [] SC [] Tryz.f50 eM from by(repeat intro _);kernel_rfl) JP OY)
attribute [irreducible] OX
abbrev K3:Sg:=([.addr,Ti],[.bool])
def cH:GT [] K3:=fun e f Q h=>∃(a:Option Nat),hc h e=some (.map a)/\∃(b:List (Value×DV)),∃(c:DV),∃(d:Bool),UR h a b/\D7 (vi f) (DV.one (.slice none 0 0)) b=some (c,d)/\∃(g:OA),∃(i:Nat),∃(j:Nat),c=DV.one (.slice g i j)/\Q d h
def IO:CF K3:=cH
theorem nG:AE PP 73 (WS K3 IO):=ro tn Tryz.func73 (by kernel_rfl) ((show EE [] [] K3 [] Tryz.f73 cH from by(repeat intro _);kernel_rfl))
attribute [irreducible] IO
abbrev LI:Sg:=([.slc],[.slc])
def fN:GT [] LI:=fun b c k Q h=>if b.isNone=true then Q none 0 0 h else ∀d a,hnew h d [] a->∃(e:List Value),hsv a b 1 c e/\AZ a 1 [.int .u8 0] 1 (some (P_ d 0)) 0 0 c e fun f g i j=>Q f g i j
def HJ:CF LI:=fN
theorem nW:AE PP 118 (WS LI HJ):=ro tn Tryz.func118 (by kernel_rfl) ((show EE [] [] LI [] Tryz.f118 fN from by(repeat intro _);kernel_rfl))
attribute [irreducible] HJ
abbrev K2:Sg:=([.slc],[.ptr,Ti,Ti])
def cF:GT [K3,LI] K2:=fun c0 c1 M j Y Q h=>if ltI 64 j then Q none 3 64 h else ∀(r:Nat) (s:H),i6 h r s->∀d t,hnew s d [.map (some r)] t->∀(k:JT),(∀(a:Int) (e:H),(if ltI a j then ∃l,M=some l/\0≤a/\a<j/\∃u,hc e (l.add (a.toNat*2))=some (vi u)/\∃v w x,hc e ((l.add (a.toNat*2)).add 1)=some (.slice v w x)/\∀b m,hnew e b [vi 0,.slice none 0 0] m->AC m (P_ b 0) 2/\∀f,f=hwr m (P_ b 0) [vi u,.slice v w x]->∀(n:JT),(∀(y:Bool) (c:H),(if y then Q none 2 a c else ∃N z O,hc c (P_ b 1)=some (.slice N z O)/\if ltI (↑z:Int) 1 then Q none 4 a c else ∃P A R,hc c (P_ b 1)=some (.slice P A R)/\if ltI 256 A then Q none 4 a c else ∃B,hc c (P_ b 0)=some (vi B)/\c0 (P_ d 0) B (fun T g=>if T then Q none 18 a g else ∃(o:Option Nat),hc g (P_ d 0)=some (.map o)/\∃p,hc g (P_ b 0)=some (vi p)/\∃C E F,hc g (P_ b 1)=some (.slice C E F)/\c1 C E F (fun U V X i=>hcs i (P_ b 0) [vi p]/\hcs i (P_ d 0) [.map o]/\∃(q:Nat),∃(G:List (Value×DV)),∃(I:List (Value×DV)),o=some q/\MI i q G/\FW (vi p) (DV.one (.slice U V X)) G=some I/\∀(J:H),i7 i q I J->k [.dv (.one (vi (IntKind.i64.wrap (a+1))))] J) g) c)->n [.dv (.one (.bool y))] c)->∃K,hc f (P_ b 0)=some (vi K)/\if ltI K 0 then n [.dv (.one (.bool true))] f else ∃L,hc f (P_ b 0)=some (vi L)/\n [.dv (.one (.bool (leI 64 L)))] f else Q (some (P_ d 0)) 0 0 e)->k [.dv (.one (vi a))] e)->k [.dv (.one (vi 0))] t
def HF:CF K2:=cF IO HJ
theorem nF:AE PP 59 (WS K2 HF):=ro (tc nG (tc nW tn)) Tryz.func59 (by kernel_rfl) ((show EE [(73,K3),(118,LI)] [] K2 [(122,[(16,.sc (.int .i64))]),(31332,[(21,.sc (.bool))])] Tryz.f59 cF from by(repeat intro _);kernel_rfl) IO HJ)
attribute [irreducible] HF
abbrev E1:Sg:=([.addr],[.bool])
def aK:GT [] E1:=fun b Q h=>∃a,hc h (b.add 11)=some (.bool a)/\Q a h
def EU:CF E1:=aK
theorem PJ:AE PP 42 (WS E1 EU):=ro tn Tryz.func42 (by kernel_rfl) ((show EE [] [] E1 [] Tryz.f42 aK from by(repeat intro _);kernel_rfl))
attribute [irreducible] EU
abbrev K9:Sg:=([.addr],[.ptr,Ti])
def cY:GT [E1] K9:=fun c0 a Q h=>c0 a (fun e b=>if e then Q none 8 b else ∀c d,hnew b c [.pointer (some a)] d->Q (some (P_ c 0)) 0 d) h
def JL:CF K9:=cY EU
theorem nN:AE PP 142 (WS K9 JL):=ro (tc PJ tn) Tryz.func142 (by kernel_rfl) ((show EE [(42,E1)] [] K9 [] Tryz.f142 cY from by(repeat intro _);kernel_rfl) EU)
attribute [irreducible] JL
abbrev LJ:Sg:=([.addr],[.ptr,Ti])
def fT:GT [K9] LJ:=fun c0 a Q h=>c0 a (fun f b c=>if b != 0 then Q none b c else ∀d e,hnew c d [.pointer (some a),.pointer f] e->Q (some (P_ d 0)) 0 e) h
def JS:CF LJ:=fT JL
theorem nY:AE PP 60 (WS LJ JS):=ro (tc nN tn) Tryz.func60 (by kernel_rfl) ((show EE [(142,K9)] [] LJ [] Tryz.f60 fT from by(repeat intro _);kernel_rfl) JL)
attribute [irreducible] JS
abbrev ST:Sg:=([],[.ag [.row .u32 8]])
def fL:GT [] ST:=fun Q h=>∀a b,hnew h a (AA .u32 (AB 8)) b->AC b (P_ a 0) 8/\∀c,c=hwr b (P_ a 0) (AA .u32 [1779033703,3144134277,1013904242,2773480762,1359893119,2600822924,528734635,1541459225])->∃(d:List Int),d.length=8/\hrow c (P_ a 0) .u32 d/\Q d c
def PA:CF ST:=fL
theorem AcF:AE PP 159 (WS ST PA):=ro tn Tryz.func159 (by kernel_rfl) ((show EE [] [] ST [] Tryz.f159 fL from by(repeat intro _);kernel_rfl))
attribute [irreducible] PA
abbrev SS:Sg:=([],[.ag [.row .u32 64]])
def fK:GT [] SS:=fun Q h=>∀a b,hnew h a (AA .u32 (AB 64)) b->AC b (P_ a 0) 64/\∀c,c=hwr b (P_ a 0) (AA .u32 [1116352408,1899447441,3049323471,3921009573,961987163,1508970993,2453635748,2870763221,3624381080,310598401,607225278,1426881987,1925078388,2162078206,2614888103,3248222580,3835390401,4022224774,264347078,604807628,770255983,1249150122,1555081692,1996064986,2554220882,2821834349,2952996808,3210313671,3336571891,3584528711,113926993,338241895,666307205,773529912,1294757372,1396182291,1695183700,1986661051,2177026350,2456956037,2730485921,2820302411,3259730800,3345764771,3516065817,3600352804,4094571909,275423344,430227734,506948616,659060556,883997877,958139571,1322822218,1537002063,1747873779,1955562222,2024104815,2227730452,2361852424,2428436474,2756734187,3204031479,3329325298])->∃(d:List Int),d.length=64/\hrow c (P_ a 0) .u32 d/\Q d c
def O9:CF SS:=fK
theorem AcE:AE PP 160 (WS SS O9):=ro tn Tryz.func160 (by kernel_rfl) ((show EE [] [] SS [] Tryz.f160 fK from by(repeat intro _);kernel_rfl))
attribute [irreducible] O9
abbrev IA:Sg:=([],[.ptr])
def fI:GT [ST,SS] IA:=fun c0 c1 Q h=>c0 (fun c d=>c1 (fun e f=>∀a b,hnew f a (AA .u32 c++(AA .u8 (AB 64)++.int .u64 0::(AA .u32 e++[]))) b->Q (some (P_ a 0)) b) d) h
def HI:CF IA:=fI PA O9
theorem gT:AE PP 86 (WS IA HI):=ro (tc AcF (tc AcE tn)) Tryz.func86 (by kernel_rfl) ((show EE [(159,ST),(160,SS)] [] IA [] Tryz.f86 fI from by(repeat intro _);kernel_rfl) PA O9)
attribute [irreducible] HI
abbrev BB:Sg:=([.addr],[.ag [Si,Si,Si,Si,Si,Si,Si]])
def aG:GT [] BB:=fun d Q h=>∀a b,hnew h a [vi 0,vi 0,vi 0,vi 0,vi 0,vi 0,vi 0] b->∃e,hc b d=some (vi e)/\∃f,hc b (d.add 1)=some (vi f)/\∃g,hc b (d.add 2)=some (vi g)/\∃i,hc b (d.add 3)=some (vi i)/\∃j,hc b (d.add 4)=some (vi j)/\∃k,hc b (d.add 5)=some (vi k)/\∃l,hc b (d.add 6)=some (vi l)/\AC b (P_ a 0) 7/\∀c,c=hwr b (P_ a 0) [vi e,vi f,vi g,vi i,vi j,vi k,vi l]->∃m,hc c (P_ a 0)=some (vi m)/\∃n,hc c (P_ a 1)=some (vi n)/\∃o,hc c (P_ a 2)=some (vi o)/\∃p,hc c (P_ a 3)=some (vi p)/\∃q,hc c (P_ a 4)=some (vi q)/\∃r,hc c (P_ a 5)=some (vi r)/\∃s,hc c (P_ a 6)=some (vi s)/\Q m n o p q r s c
def A7:CF BB:=aG
theorem C6:AE PP 63 (WS BB A7):=ro tn Tryz.func63 (by kernel_rfl) ((show EE [] [] BB [] Tryz.f63 aG from by(repeat intro _);kernel_rfl))
attribute [irreducible] A7
abbrev FK:Sg:=([.addr,Ti,Ti],[Ti])
def aP:GT [] FK:=fun c a d Q h=>∃b,hc h (c.add 11)=some (.bool b)/\if b then Q 8 h else if ltI a 0 then Q 2 h else if leI d a then Q 2 h else Q 0 h
def E4:CF FK:=aP
theorem TY:AE PP 222 (WS FK E4):=ro tn Tryz.func222 (by kernel_rfl) ((show EE [] [] FK [] Tryz.f222 aP from by(repeat intro _);kernel_rfl))
attribute [irreducible] E4
abbrev H5:Sg:=([.addr,Ti],[Ti,Ti])
def aJ:GT [FK] H5:=fun c0 c a Q h=>∃k d l,hc h (c.add 7)=some (.slice k d l)/\c0 c a (↑d:Int) (fun e b=>if e != 0 then Q 0 e b else ∃f g m,hc b (c.add 8)=some (.slice f g m)/\∃i,f=some i/\0≤a/\a<(↑g:Int)/\∃j,hc b (i.add (a.toNat*1))=some (vi j)/\Q j 0 b) h
def HA:CF H5:=aJ E4
theorem gM:AE PP 195 (WS H5 HA):=ro (tc TY tn) Tryz.func195 (by kernel_rfl) ((show EE [(222,FK)] [] H5 [] Tryz.f195 aJ from by(repeat intro _);kernel_rfl) E4)
attribute [irreducible] HA
abbrev KV:Sg:=([.addr,Ti,Ti],[Ti])
def aQ:GT [FK] KV:=fun c0 a f g Q h=>∃i c j,hc h (a.add 7)=some (.slice i c j)/\c0 a f (↑c:Int) (fun d b=>if d != 0 then Q d b else ∃e,hc b a=some (vi e)/\c0 a g e (fun k l=>Q k l) b) h
def JB:CF KV:=aQ E4
theorem mO:AE PP 236 (WS KV JB):=ro (tc TY tn) Tryz.func236 (by kernel_rfl) ((show EE [(222,FK)] [] KV [] Tryz.f236 aQ from by(repeat intro _);kernel_rfl) E4)
attribute [irreducible] JB
abbrev H6:Sg:=([.addr,Ti,Ti],[.ag [.row .u8 32],Ti])
def aN:GT [KV] H6:=fun c0 k c d Q h=>∀a l,hnew h a (AA .u8 (AB 32)) l->c0 k c d (fun m b=>if m != 0 then AC b (P_ a 0) 32/\∀e,e=hwr b (P_ a 0) (AA .u8 (AB 32))->∃(f:List Int),f.length=32/\hrow e (P_ a 0) .u8 f/\Q f m e else ∃n o t,hc b (k.add 7)=some (.slice n o t)/\∃p,n=some p/\0≤c/\c<(↑o:Int)/\∃q r u,hc b (p.add (c.toNat*1))=some (.slice q r u)/\∃s,q=some s/\0≤d/\d<(↑r:Int)/\∃(g:List Int),g.length=32/\hrow b (s.add (d.toNat*32)) .u8 g/\AC b (P_ a 0) 32/\∀i,i=hwr b (P_ a 0) (AA .u8 g++[])->∃(j:List Int),j.length=32/\hrow i (P_ a 0) .u8 j/\Q j 0 i) l
def HB:CF H6:=aN JB
theorem gN:AE PP 250 (WS H6 HB):=ro (tc mO tn) Tryz.func250 (by kernel_rfl) ((show EE [(236,KV)] [] H6 [] Tryz.f250 aN from by(repeat intro _);kernel_rfl) JB)
attribute [irreducible] HB
abbrev RR:Sg:=([.addr,Ti,.ag [Si,Si,Si]],[])
def dI:GT [] RR:=fun b i y z A Q h=>∀c e,hnew h c [vi y,vi z,vi A] e->∀(j:JT),(∀(d:H),(∃n,hc d (P_ c 0)=some (vi n)/\if n == 3 then ∃o,hc d (b.add 12)=some (vi o)/\AC d (b.add 12) 1/\∀p,p=hwr d (b.add 12) [vi (IntKind.i64.wrap (o+1))]->Q p else ∀(k:JT),(∀(q:Bool) (a:H),(if q then ∃r,hc a (P_ c 2)=some (vi r)/\AC a b 1/\∀s,s=hwr a b [vi r]->Q s else ∃t,hc a (P_ c 0)=some (vi t)/\if t == 2 then if ltI 0 i then ∃f,hc a (P_ c 1)=some (vi f)/\∃g,hc a (P_ c 1)=some (vi g)/\0≤g/\g<(↑9:Int)/\∃l,hc a ((b.add 1).add (g.toNat*1))=some (vi l)/\∃m,hc a (P_ c 2)=some (vi m)/\0≤f/\f<(↑9:Int)/\AC a ((b.add 1).add (f.toNat*1)) 1/\∀u,u=hwr a ((b.add 1).add (f.toNat*1)) [vi (if m > l then m else l)]->Q u else Q a else Q a)->k [.dv (.one (.bool q))] a)->∃v,hc d (P_ c 0)=some (vi v)/\if v == 1 then k [.dv (.one (.bool (i == 0)))] d else k [.dv (.one (.bool false))] d)->j [] d)->∃w,hc e (P_ c 0)=some (vi w)/\if w != 0 then AC e (b.add 10) 1/\∀x,x=hwr e (b.add 10) [vi (IntKind.i64.wrap (i+1))]->j [] x else j [] e
def OH:CF RR:=dI
theorem AbF:AE PP 271 (WS RR OH):=ro tn Tryz.func271 (by kernel_rfl) ((show EE [] [] RR [(3,[]),(59,[(25,.sc (.bool))])] Tryz.f271 dI from by(repeat intro _);kernel_rfl))
attribute [irreducible] OH
abbrev QM:Sg:=([.slc,Tu],[])
def aB:GT [] QM:=fun g e j i Q h=>∀(c:JT),(∀(a:Int) (b:H),(if ltI a e then 0≤IntKind.i64.wrap (8*a)/\∃d,g=some d/\0≤a/\a<e/\AC b (d.add (a.toNat*1)) 1/\∀f,f=hwr b (d.add (a.toNat*1)) [.int .u8 (IntKind.u8.wrap (i.fdiv (2^min (IntKind.i64.wrap (8*a)).toNat 64)))]->c [.dv (.one (vi (IntKind.i64.wrap (a+1))))] f else Q b)->c [.dv (.one (vi a))] b)->c [.dv (.one (vi 0))] h
def NF:CF QM:=aB
theorem Aa9:AE PP 273 (WS QM NF):=ro tn Tryz.func273 (by kernel_rfl) ((show EE [] [] QM [(6,[(7,.sc (.int .i64))])] Tryz.f273 aB from by(repeat intro _);kernel_rfl))
attribute [irreducible] NF
abbrev QV:Sg:=([],[.ptr])
def bH:GT [] QV:=fun Q h=>∀a b,hnew h a [.int .u32 0] b->Q (some (P_ a 0)) b
def TK:CF QV:=bH
theorem AaM:AE PP 297 (WS QV TK):=ro tn Tryz.func297 (by kernel_rfl) ((show EE [] [] QV [] Tryz.f297 bH from by(repeat intro _);kernel_rfl))
attribute [irreducible] TK
abbrev QZ:Sg:=([Tb],[Tv])
def bL:GT [] QZ:=fun f Q h=>∀(b:JT),(∀(a c:Int) (d:H),(if ltI c 8 then (0:Int)≤1/\if bits .and .u32 a 1 == 1 then ∀(e:Int),e=3988292384->b [.dv (.one (.int .u32 (bits .xor .u32 (a.fdiv (2^1)) e))),.dv (.one (vi (IntKind.i64.wrap (c+1))))] d else b [.dv (.one (.int .u32 (a.fdiv (2^1)))),.dv (.one (vi (IntKind.i64.wrap (c+1))))] d else Q a d)->b [.dv (.one (.int .u32 a)),.dv (.one (vi c))] d)->b [.dv (.one (.int .u32 (IntKind.u32.wrap f))),.dv (.one (vi 0))] h
def NP:CF QZ:=bL
theorem AaQ:AE PP 311 (WS QZ NP):=ro tn Tryz.func311 (by kernel_rfl) ((show EE [] [] QZ [(58,[(3,.sc (.int .u32)),(7,.sc (.int .i64))])] Tryz.f311 bL from by(repeat intro _);kernel_rfl))
attribute [irreducible] NP
abbrev QY:Sg:=([.addr,.slc],[])
def bK:GT [QZ] QY:=fun c0 d l f o Q h=>∃g,hc h d=some (.int .u32 g)/\∀(e:JT),(∀(c a:Int) (b:H),(if ltI a f then ∃i,l=some i/\0≤a/\a<f/\∃j,hc b (i.add (a.toNat*1))=some (.int .u8 j)/\c0 (bits .xor .u8 (IntKind.u8.wrap c) j) (fun m n=>(0:Int)≤8/\e [.dv (.one (.int .u32 (bits .xor .u32 m (c.fdiv (2^8))))),.dv (.one (vi (IntKind.i64.wrap (a+1))))] n) b else AC b d 1/\∀k,k=hwr b d [.int .u32 (bits .xor .u32 (if IntKind.u32.signed=true then -1 else IntKind.u32.max) c)]->Q k)->e [.dv (.one (.int .u32 c)),.dv (.one (vi a))] b)->e [.dv (.one (.int .u32 (bits .xor .u32 (if IntKind.u32.signed=true then -1 else IntKind.u32.max) g))),.dv (.one (vi 0))] h
def NO:CF QY:=bK NP
theorem AaP:AE PP 298 (WS QY NO):=ro (tc AaQ tn) Tryz.func298 (by kernel_rfl) ((show EE [(311,QZ)] [] QY [(26,[(4,.sc (.int .u32)),(14,.sc (.int .i64))])] Tryz.f298 bK from by(repeat intro _);kernel_rfl) NP)
attribute [irreducible] NO
abbrev QX:Sg:=([.addr],[Tv])
def bJ:GT [] QX:=fun b Q h=>∃a,hc h b=some (.int .u32 a)/\Q a h
def TL:CF QX:=bJ
theorem AaO:AE PP 299 (WS QX TL):=ro tn Tryz.func299 (by kernel_rfl) ((show EE [] [] QX [] Tryz.f299 bJ from by(repeat intro _);kernel_rfl))
attribute [irreducible] TL
abbrev QW:Sg:=([.slc],[Tv])
def bI:GT [QV,QY,QX] QW:=fun c0 c1 c2 d e f Q h=>c0 (fun a g=>∃b,a=some b/\c1 b d e f (fun i=>∃c,a=some c/\c2 c (fun j k=>Q j k) i) g) h
def NN:CF QW:=bI TK NO TL
theorem AaN:AE PP 274 (WS QW NN):=ro (tc AaM (tc AaP (tc AaO tn))) Tryz.func274 (by kernel_rfl) ((show EE [(297,QV),(298,QY),(299,QX)] [] QW [] Tryz.f274 bI from by(repeat intro _);kernel_rfl) TK NO TL)
attribute [irreducible] NN
abbrev SN:Sg:=([.slc],[.slc,.slc])
def fD:GT [] SN:=fun b a c Q h=>(2:Int)≠0/\0≤IntKind.i64.wrap ((↑a:Int).tdiv 2)/\IntKind.i64.wrap ((↑a:Int).tdiv 2)≤IntKind.i64.wrap ((↑a:Int).tdiv 2)/\IntKind.i64.wrap ((↑a:Int).tdiv 2)≤(↑c:Int)/\0≤IntKind.i64.wrap ((↑a:Int).tdiv 2)/\IntKind.i64.wrap ((↑a:Int).tdiv 2)≤IntKind.i64.wrap (2*IntKind.i64.wrap ((↑a:Int).tdiv 2))/\IntKind.i64.wrap (2*IntKind.i64.wrap ((↑a:Int).tdiv 2))≤IntKind.i64.wrap (2*IntKind.i64.wrap ((↑a:Int).tdiv 2))/\IntKind.i64.wrap (2*IntKind.i64.wrap ((↑a:Int).tdiv 2))≤(↑c:Int)/\Q (AK b 0 (IntKind.i64.wrap ((↑a:Int).tdiv 2)).toNat 1) ((IntKind.i64.wrap ((↑a:Int).tdiv 2)).toNat-0) ((IntKind.i64.wrap ((↑a:Int).tdiv 2)).toNat-0) (AK b (IntKind.i64.wrap ((↑a:Int).tdiv 2)).toNat (IntKind.i64.wrap (2*IntKind.i64.wrap ((↑a:Int).tdiv 2))).toNat 1) ((IntKind.i64.wrap (2*IntKind.i64.wrap ((↑a:Int).tdiv 2))).toNat-(IntKind.i64.wrap ((↑a:Int).tdiv 2)).toNat) ((IntKind.i64.wrap (2*IntKind.i64.wrap ((↑a:Int).tdiv 2))).toNat-(IntKind.i64.wrap ((↑a:Int).tdiv 2)).toNat) h
def TS:CF SN:=fD
theorem AcA:AE PP 300 (WS SN TS):=ro tn Tryz.func300 (by kernel_rfl) ((show EE [] [] SN [] Tryz.f300 fD from by(repeat intro _);kernel_rfl))
attribute [irreducible] TS
end Go.Proofs.YteedolonhdbieaaGreatDoor
end
