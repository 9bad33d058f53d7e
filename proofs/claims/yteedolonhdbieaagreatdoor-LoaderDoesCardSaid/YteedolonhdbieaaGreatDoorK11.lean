/- LoaderDoes and its parts, laid together by a program of ours: Ch6 Ch7 Ah By Mp Sh1 Sh2 Sh3 Sh4 Mac1 Tk1 Tk2 Tk3 Tk4 Tk6 Tk7 Tr2 Tr4 Tr6 At -/
import Derived.Laws.Closers25b
import Derived.Test.YteedolonhdbieaaGreatDoorRows
import Derived.Test.YteedolonhdbieaaGreatDoorK10
set_option autoImplicit false
set_option linter.all false
section
namespace Go.Proofs.YteedolonhdbieaaGreatDoor
open Go Go.Vc
section
variable {h0 h:H} {A:List Ent} {i p:Nat} {C:Cm}
theorem ZJ{page cell:Int}(ok:C.ok)(e:CZ C page cell=0):C.out=false/\0≤page/\page<C.s.pages.length/\0≤cell/\cell<C.cfg.cells/\
  ∃hj:page.toNat<C.s.pages.length,(C.s.pages[page.toNat].length:Int)=32*C.cfg.cells/\(cell.toNat+1)*32≤C.s.pages[page.toNat].length:=by
 unfold CZ at e
 split at e
 ·rename_i h1;exact absurd e h1
 ·rename_i h1
  have h1:AT C page C.s.pages.length=0:=by simpa using h1
  obtain⟨h2,h3,h4⟩:=CV h1
  obtain⟨_,h5,h6⟩:=CV e
  have hj:page.toNat<C.s.pages.length:=by omega
  have hl:=ok.fits.cells _ (List.getElem_mem hj)
  exact⟨h2,h3,h4,h5,h6,hj,hl,by omega⟩
def CK(C:Cm)(page cell:Int):List Int×Int:=
 if CZ C page cell≠0 then (AB 32,CZ C page cell) else (AX (C.s.pages.getD page.toNat []) cell.toNat,0)
theorem oA{Q:List Int->Int->HP}(hs:Sat h0 A h)(ci:At A i (AH p C))(page cell:Int)(k:∀h',Sat h0 A h'->Q (CK C page cell).1 (CK C page cell).2 h'):
  G4 ⟨p,0,none⟩ page cell Q h:=by
 unfold G4 eV
 try simp only[AF,Nat.zero_add,List.append_nil]
 (intro _ _ hn;replace hs:=Sat.new hs hn)
 refine vF hs (ci.s) _ _ ?_
 unfold CK at k
 by_cases h1:CZ C page cell=0
 case neg=>
  rw[if_pos (by simpa using h1)]
  rw[if_pos (by simpa using h1)]at k
  (refine⟨Sat.can hs (by repeat constructor) (by simp),?_⟩;intro _ e;replace hs:=Sat.wra hs (by repeat constructor) e (by simp[*]);clear e;simp only[put]at hs)
  refine⟨_,?_,hs.row0 (by repeat constructor),?_⟩
  ·simp
  exact k _ hs.drop
 rw[if_neg (by simpa using h1)]
 rw[if_neg (by simpa using h1)]at k
 have hs':=hs
 obtain⟨w,ok,hs⟩:=(hs.front ci.s).open_
 obtain⟨_,h2,h3,h4,h5,hj,hl,hk⟩:=ZJ ok h1
 dsimp only[DB,List.cons_append,List.nil_append,Cm.cells]at hs
 refine⟨_,_,_,hs.ld .z rfl,?_⟩
 have rd:=hs.rdM zs1
 have hlen:=rd.len
 obtain⟨q,x,q',e1,e2,e3,e4,e5⟩:=rd.cell hj hk
 rw[e1]
 refine⟨_,rfl,h2,by(try dsimp only);omega,?_⟩
 refine⟨_,_,_,e2,?_⟩
 refine⟨_,e4,h4,by omega,?_⟩
 refine⟨_,FA hk,e5,?_⟩
 replace hs:=hs'
 have hcl:=FA hk
 (refine⟨Sat.can hs (by repeat constructor) (by simp),?_⟩;intro _ e;replace hs:=Sat.wra hs (by repeat constructor) e (by simp[*]);clear e;simp only[put]at hs)
 refine⟨_,?_,hs.row0 (by repeat constructor),?_⟩
 ·exact hcl
 have:C.s.pages.getD page.toNat []=C.s.pages[page.toNat]:=by simp[List.getD,List.getElem?_eq_getElem hj]
 rw[this]at k
 exact k _ hs.drop
def zK(old x:List Int)(f:Nat->Int):List Int:=BP (fun i now=>bits .andNot .u8 now (bits .andNot .u8 (f i) (x.getD i 0))) 32 old
def Cm.setPage(C:Cm)(j:Nat)(row:List Int):Cm:={ C with s:={ C.s with pages:=C.s.pages.set j row } }
def FI(C:Cm)(page:Int):List Int:=C.s.pages.getD page.toNat []
def CS(C:Cm)(page cell:Int)(x:List Int):Cm×Int:=
 if CZ C page cell≠0 then (C,CZ C page cell)
 else (C.act.setPage page.toNat (D0 (FI C page) cell.toNat (zK (AX (FI C page) cell.toNat) x (BS C))),DL C)
theorem DA(C:Cm):C.act.s=C.s:=by unfold Cm.act;split <;> rfl
theorem E9(C:Cm):C.act.cfg=C.cfg:=by unfold Cm.act;split <;> rfl
theorem ZN(op:BinOp)(a b:Int):CC (bits op .u8 a b):=by
 have h1:=bits_lo_u8 op a b;have h2:=bits_hi_u8 op a b
 unfold CC;omega
theorem Cm.ok.setPage{C:Cm}(ok:C.ok){j:Nat}{row:List Int}(hl:(row.length:Int)=32*C.cfg.cells)(hb:A4 row):(C.setPage j row).ok:=by
 refine⟨ok.may,⟨by simpa[Cm.setPage]using ok.fits.pages,?_,ok.fits.erases,ok.fits.blown⟩,⟨?_,ok.typed.erases⟩,ok.left,ok.left2,ok.mask,ok.acts,ok.mlen⟩
 ·intro l hm
  rcases List.mem_or_eq_of_mem_set hm with hm | hm
  ·exact ok.fits.cells l hm
  ·rw[hm];exact hl
 ·intro l hm
  rcases List.mem_or_eq_of_mem_set hm with hm | hm
  ·exact ok.typed.bytes l hm
  ·rw[hm];exact hb
theorem aN{g:Nat->Int->Int}{n:Nat}{ns:List Int}{P:Int->Prop}(h1:∀v,v∈ns->P v)(h2:∀i v,v∈ns->P (g i v)):∀v,v∈BP g n ns->P v:=by
 intro v hv
 obtain⟨i,hi⟩:=List.mem_iff_getElem?.1 hv
 rw[JB]at hi
 cases e:ns[i]? with
 | none=>rw[e]at hi;simp at hi
 | some u=>
  rw[e]at hi
  have hu:u∈ns:=List.mem_iff_getElem?.2 ⟨i,e⟩
  simp only[Option.map_some,Option.some.injEq]at hi
  rw[←hi];split
  ·exact h2 _ _ hu
  ·exact h1 _ hu
theorem XL{row:List Int}{k:Nat}{v:Int}(h:v∈AX row k):v∈row:=List.mem_of_mem_drop (List.mem_of_mem_take h)
theorem AaK{row c:List Int}{k:Nat}{v:Int}(h:v∈D0 row k c):v∈row∨v∈c:=by
 simp only[D0,List.mem_append]at h
 rcases h with (h | h) | h
 ·exact Or.inl (List.mem_of_mem_take h)
 ·exact Or.inr h
 ·exact Or.inl (List.mem_of_mem_drop h)
theorem Y3{Q:Int->HP}(hs:Sat h0 A h)(ci:At A i (AH p C))(page cell:Int)(x:List Int)(hx:x.length=32)(k:∀h',Sat h0 (put A i (AH p (CS C page cell x).1)) h'->Q (CS C page cell x).2 h'):
  F4 ⟨p,0,none⟩ page cell x Q h:=by
 unfold F4 eU
 try simp only[AF,Nat.zero_add,List.append_nil]
 intro nx _ hn
 replace hs:=Sat.new hs hn
 clear hn
 refine vF hs (ci.s) _ _ ?_
 unfold CS at k
 by_cases h1:CZ C page cell=0
 case neg=>
  rw[if_pos (by simpa using h1)]
  rw[if_pos (by simpa using h1)]at k
  exact k _ (ci.put_self.symm ▸ hs.drop)
 rw[if_neg (by simpa using h1)]
 rw[if_neg (by simpa using h1)]at k
 obtain⟨w0,ok,_⟩:=(hs.front ci.s).open_
 obtain⟨_,h2,h3,h4,h5,hj,hl,hk⟩:=ZJ ok h1
 have erow:FI C page=C.s.pages[page.toNat]:=by simp[FI,List.getD,List.getElem?_eq_getElem hj]
 rw[erow]at k
 refine oS hs ci.s ?_
 intro v h6 hs
 simp only[AS]at hs
 have ci2:=((ci.put (AH p C.act)).s (x:=blk nx (AA .u8 x))).s (x:=LH v (BS C))
 have hsO:=(hs.front ci2).open_
 obtain⟨w,ok',hsO⟩:=hsO
 dsimp only[DB,List.cons_append,List.nil_append,Cm.cells]at hsO
 rw[DA]at hsO
 refine⟨_,_,_,hsO.ld .z rfl,?_⟩
 have rd:=hsO.rdM zs1
 have hlen:=rd.len
 obtain⟨q,y,q',e1,e2,e3,e4,e5⟩:=rd.cell hj hk
 rw[e1]
 refine⟨_,rfl,h2,by(try dsimp only);omega,?_⟩
 refine⟨_,_,_,e2,?_⟩
 refine⟨_,e4,h4,by omega,?_⟩
 have hcl:=FA hk
 refine⟨_,hcl,e5,?_⟩
 intro no _ hn
 replace hs:=Sat.new hs hn
 clear hn
 (refine⟨Sat.can hs (by repeat constructor) (by simp),?_⟩;intro _ e;replace hs:=Sat.wra hs (by repeat constructor) e (by simp[*]);clear e;simp only[put]at hs)
 refine⟨_,?_,hs.row0 (by repeat constructor),?_⟩
 ·exact hcl
 intro nn _ hn
 replace hs:=Sat.new hs hn
 clear hn
 (refine⟨Sat.can hs (by repeat constructor) (by simp),?_⟩;intro _ e;replace hs:=Sat.wra hs (by repeat constructor) e (by simp[*]);clear e;simp only[put]at hs)
 intro J hJ
 generalize hold:AX C.s.pages[page.toNat] cell.toNat=old at *
 let g:=fun(i:Nat) (now:Int)=>bits .andNot .u8 now (bits .andNot .u8 (BS C i) (x.getD i 0))
 refine BB 32 (fun i h=>Sat h0 (blk nn (AA .u8 (BP g i old))::blk no (AA .u8 old)::LH v (BS C)::blk nx (AA .u8 x)::put A _ (AH p C.act)) h) ?_ ?_ 0 _ (by omega) (by simpa using hs)
 ·intro j h7 hjl hs hk'
  apply hJ
  rw[AD,if_pos (by simp;omega)]
  simp only[Int.toNat_natCast,Nat.mul_one]
  have hmj:j<(BP g j old).length:=by simp;omega
  have eg:(BP g j old)[j]=old[j]:=by
   have:=JB g j old j
   rw[List.getElem?_eq_getElem hmj,List.getElem?_eq_getElem (by omega)]at this
   simpa using this
  refine⟨by omega,by omega,_,hs.ld .z (by rw[BA,List.getElem?_eq_getElem hmj];rfl),by omega,by omega,_,hs.ld zs3 (by rw[BA,List.getElem?_eq_getElem (by omega)];rfl),?_⟩
  refine oV hs zs2 j rfl ?_
  refine⟨_,_,rfl,_,rfl,rfl,AI (hs.ld zs3 (by rw[BA,List.getElem?_eq_getElem (by omega)];rfl)),AI (hs.ld .z (by rw[BA,List.getElem?_eq_getElem hmj];rfl)),by omega,by omega,hs.can .z (by simp;omega),?_⟩
  intro h8 e8
  replace hs:=hs.wr .z e8
  rw[AU (by omega)]
  refine hk' _ ?_
  simp only[FN,OR,E4,put]at hs
  have e9:=SH g j old (by omega)
  rw[←e9]
  have e10:x.getD j 0=x[j]:=by simp[List.getD,List.getElem?_eq_getElem (show j<x.length by omega)]
  rw[eg]at hs
  simpa only[g,e10]using hs
 ·intro h7 hs
  apply hJ
  rw[AD,if_neg (by simp)]
  have hnl:(BP g 32 old).length=32:=by simpa using hcl
  refine⟨_,?_,hs.row0 (by repeat constructor),?_⟩
  ·exact hnl
  refine⟨_,hcl,hs.row0 zs1,?_⟩
  have ci3:=(ci2.s (x:=blk no (AA .u8 old))).s (x:=blk nn (AA .u8 (BP g 32 old)))
  obtain⟨w',_,hsO⟩:=(hs.front ci3).open_
  dsimp only[DB,List.cons_append,List.nil_append,Cm.cells]at hsO
  rw[DA]at hsO
  have hrow:(C.s.pages[page.toNat].length:Int)=32*C.act.cfg.cells:=by rw[E9];exact hl
  have ok2:=ok'.setPage (j:=page.toNat) (row:=D0 C.s.pages[page.toNat] cell.toNat (BP g 32 old)) (by rw[bG hk hnl];exact hrow) (by
   intro n hn
   rcases AaK hn with hn | hn
   ·exact ok.typed.bytes _ (List.getElem_mem hj) n hn
   ·refine aN (P:=CC) (fun v hv=>?_) (fun i v hv=>ZN _ _ _) n hn
    rw[←hold]at hv
    exact ok.typed.bytes _ (List.getElem_mem hj) v (XL hv))
  split
  case isTrue hne=>
   refine⟨_,_,_,hsO.ld .z rfl,?_⟩
   have hl1:=(hsO.rdM zs1).len
   obtain⟨y',hd,R,e6,hsT,give⟩:=(hsO.front zs1).row_take hj
   obtain⟨⟨wp,wl,wc⟩,wb,wc',wm⟩:=w'
   dsimp only at hl1 hsT give
   have hl2:C.s.pages.length=wl:=hl1
   obtain⟨qb,hq⟩:=hsT.sl_some zs1 (show 0<wl by omega)
   subst hq
   refine⟨_,rfl,h2,by dsimp only;omega,?_⟩
   try simp only[AF,Nat.zero_add,Nat.mul_one]
   refine⟨_,_,_,hsT.sld zs1 e6,?_⟩
   refine⟨_,?_,hs.row0 (by repeat constructor),?_⟩
   ·exact hnl
   have hyl:=hsT.sl_len .z
   simp only[A6]at hyl
   obtain⟨yp,yl,yc⟩:=y'
   dsimp only at hyl
   obtain⟨yb,hy⟩:=hsT.sl_some .z (by dsimp only;omega)
   dsimp only at hy
   subst hy
   refine⟨_,rfl,h4,by dsimp only;omega,?_⟩
   try simp only[AF,Nat.zero_add]
   refine⟨hsT.scan .z (by dsimp only;omega) (by simp;omega),?_⟩
   intro h8 e8
   have hsW:=hsT.swr .z e8 (by dsimp only;omega) (by simp[hcl];omega) (A5 _ _)
   rw[ApZ hk hnl]at hsW
   have hsG:=give _ _ _ hsW
   have hsC:=I5 (a:=(some ⟨qb,0,none⟩,wl,wc)) (b:=wb) (c:=wc') (m:=wm) ok2 ci3 (by rw[Cm.setPage,DA];exact hsG.front zs1)
   simp only[AS,CD]at hsC
   exact k _ hsC.drop.drop.drop.drop
  case isFalse hne=>
   have hne:BP g 32 old=old:=by simpa using hne
   replace hne:zK old x (BS C)=old:=hne
   have e1:D0 C.s.pages[page.toNat] cell.toNat (AX C.s.pages[page.toNat] cell.toNat)=C.s.pages[page.toNat]:=by
    unfold D0 AX
    rw[List.append_assoc,←List.drop_drop,List.take_append_drop,List.take_append_drop]
   have e2:C.act.setPage page.toNat C.s.pages[page.toNat]=C.act:=by
    have:C.act.s.pages.set page.toNat C.s.pages[page.toNat]=C.act.s.pages:=by rw[DA];exact List.set_getElem_self hj
    unfold Cm.setPage;rw[this]
   rw[hne,←hold,e1,e2]at k
   exact k _ hs.drop.drop.drop.drop
def D9(row:List Int)(f:Nat->Int):List Int:=BP (fun i b=>bits .or .u8 b (f i)) row.length row
def Cm.setErase(C:Cm)(j:Nat)(n:Int):Cm:={ C with s:={ C.s with erases:=C.s.erases.set j n } }
def CA(C:Cm)(page:Int):Cm×Int:=
 if AT C page C.s.pages.length≠0 then (C,AT C page C.s.pages.length)
 else if C.cfg.erases≤C.s.erases.getD page.toNat 0 then (C,9)
 else ((C.act.setErase page.toNat (C.s.erases.getD page.toNat 0+1)).setPage page.toNat (D9 (FI C page) (BS C)),DL C)
theorem Cm.ok.setErase{C:Cm}(ok:C.ok){j:Nat}{n:Int}(hn:-(2^63)≤n/\n<2^63):(C.setErase j n).ok:=by
 refine⟨ok.may,⟨ok.fits.pages,ok.fits.cells,by simpa[Cm.setErase]using ok.fits.erases,ok.fits.blown⟩,⟨ok.typed.bytes,?_⟩,ok.left,ok.left2,ok.mask,ok.acts,ok.mlen⟩
 intro l hm
 rcases List.mem_or_eq_of_mem_set hm with hm | hm
 ·exact ok.typed.erases l hm
 ·rw[hm];exact hn
theorem yZ{g:Nat->Int->Int}{i j:Nat}{ns:List Int}(h:i≤j)(hj:j<ns.length):(BP g i ns)[j]?=some ns[j]:=by
 rw[JB,List.getElem?_eq_getElem hj];simp;omega
theorem rU{Q:Int->HP}(hs:Sat h0 A h)(ci:At A i (AH p C))(page:Int)(k:∀h',Sat h0 (put A i (AH p (CA C page).1)) h'->Q (CA C page).2 h'):
  JR ⟨p,0,none⟩ page Q h:=by
 unfold JR eP
 try simp only[AF,Nat.zero_add]
 have hs':=hs
 obtain⟨w,ok,hs⟩:=(hs.front ci).open_;dsimp only[DB,List.cons_append,List.nil_append,Cm.cells]at hs
 have hlp:=(hs.rdM zs1).len
 have hle:=hs.sl_len zs2
 simp only[A6,Nat.mul_one]at hle
 refine⟨_,_,_,hs.ld .z rfl,?_⟩
 rw[←hlp]
 refine ZI hs' ci _ _ ?_
 unfold CA at k
 by_cases h1:AT C page C.s.pages.length=0
 case neg=>
  rw[if_pos (by simpa using h1)]
  rw[if_pos (by simpa using h1)]at k
  exact k _ (ci.put_self.symm ▸ hs')
 rw[if_neg (by simpa using h1)]
 rw[if_neg (by simpa using h1)]at k
 obtain⟨_,h2,h3⟩:=CV h1
 have hf1:=ok.fits.pages
 have hf2:=ok.fits.erases
 have hje:page.toNat<C.s.erases.length:=by omega
 have hjp:page.toNat<C.s.pages.length:=by omega
 have eer:C.s.erases.getD page.toNat 0=C.s.erases[page.toNat]:=by simp[List.getD,List.getElem?_eq_getElem hje]
 have erow:FI C page=C.s.pages[page.toNat]:=by simp[FI,List.getD,List.getElem?_eq_getElem hjp]
 rw[eer,erow]at k
 refine⟨_,_,_,hs.ld .z rfl,?_⟩
 obtain⟨w1,⟨ep,el,ec⟩,w3,w4⟩:=w
 replace hle:C.s.erases.length=el:=hle
 obtain⟨eb,he⟩:=hs.sl_some zs2 (show 0<el by omega)
 dsimp only at he
 subst he
 refine⟨_,rfl,h2,by(try dsimp only);omega,?_⟩
 try simp only[AF,Nat.zero_add,Nat.mul_one]
 refine⟨_,hs.sld zs2 (by rw[BA,List.getElem?_eq_getElem hje];rfl),?_⟩
 refine⟨_,Sat.ld hs (by repeat constructor) (by rfl),?_⟩
 by_cases h4:C.cfg.erases≤C.s.erases[page.toNat]
 case pos=>
  rw[A0,if_pos (by simpa using h4)]
  rw[if_pos h4]at k
  exact k _ (ci.put_self.symm ▸ hs')
 rw[A0,if_neg (by simpa using h4)]
 rw[if_neg h4]at k
 refine oS hs' ci ?_
 intro v h6 hs
 have ci2:=(ci.put (AH p C.act)).s (x:=LH v (BS C))
 obtain⟨w,ok',hs⟩:=(hs.front ci2).open_
 dsimp only[DB,List.cons_append,List.nil_append,Cm.cells]at hs
 rw[DA]at hs
 have hle:=hs.sl_len zs2
 simp only[A6,Nat.mul_one]at hle
 have hlp:=(hs.rdM zs1).len
 obtain⟨⟨pp,pl,pc⟩,⟨ep,el,ec⟩,w3,w4⟩:=w
 replace hle:C.s.erases.length=el:=hle
 replace hlp:C.s.pages.length=pl:=hlp
 obtain⟨eb,he⟩:=hs.sl_some zs2 (show 0<el by omega)
 dsimp only at he
 subst he
 refine⟨_,_,_,Sat.ld hs (by repeat constructor) (by rfl),?_⟩
 refine⟨_,rfl,h2,by(try dsimp only);omega,?_⟩
 try simp only[AF,Nat.zero_add,Nat.mul_one]
 refine⟨_,hs.sld zs2 (by rw[BA,List.getElem?_eq_getElem hje];rfl),?_⟩
 refine⟨_,rfl,h2,by(try dsimp only);omega,?_⟩
 try simp only[AF,Nat.zero_add,Nat.mul_one]
 refine⟨hs.scan zs2 (show 0<el by omega) (by simp;omega),?_⟩
 intro h7 e7
 replace hs:=hs.swr zs2 e7 (show 0<el by omega) (by simp;omega) (by simp)
 simp only[put,AR,E4]at hs
 have hce:=ok.typed.erases _ (List.getElem_mem hje)
 have hcm:=ok.may.erases
 rw[show IntKind.i64.wrap (C.s.erases[page.toNat]+1)=C.s.erases[page.toNat]+1 by rw[IntKind.wrap_i64];omega]at hs
 have hs7:=hs
 refine⟨_,_,_,Sat.ld hs (by repeat constructor) (by rfl),?_⟩
 obtain⟨⟨yp,yl,yc⟩,hd,R,e8,hs,give⟩:=(hs.front zs1).row_take hjp
 obtain⟨qb,hq⟩:=hs.sl_some zs1 (show 0<pl by omega)
 dsimp only at hq
 subst hq
 refine⟨_,rfl,h2,by(try dsimp only);omega,?_⟩
 try simp only[AF,Nat.zero_add,Nat.mul_one]
 refine⟨_,_,_,hs.sld zs1 e8,?_⟩
 have hcl:=ok.fits.cells _ (List.getElem_mem hjp)
 have hcc:=ok.may.cells
 have hcs:=ok.may.slots
 have hyl:=hs.sl_len .z
 simp only[A6]at hyl
 obtain⟨yb,hy⟩:=hs.sl_some .z (show 0<yl by omega)
 dsimp only at hy
 subst hy
 have hbr:=ok.typed.bytes _ (List.getElem_mem hjp)
 generalize C.s.pages[page.toNat]=row at *
 let g:=fun(i:Nat) (b:Int)=>bits .or .u8 b (BS C i)
 intro J hJ
 have hmg:∀n,(BP g n row).length=row.length:=fun n=>by simp
 refine BB C.cfg.cells.toNat (fun k h=>Sat h0 (sE (some ⟨yb,0,none⟩,yl,yc) 32 (AA .u8 (BP g (32*k) row))::sE (some ⟨qb,0,none⟩,pl,pc) 1 hd::((blk p (C.act.cells (some ⟨qb,0,none⟩,pl,pc) (some ⟨eb,0,none⟩,el,ec) w3 w4) ::
   sE (some ⟨eb,0,none⟩,el,ec) 1 (AA .i64 (C.s.erases.set page.toNat (C.s.erases[page.toNat]+1)))::sE w3 1 (A3 C.s.blown)::sE w4 1 (AA .u8 C.act.mask)::LH v (BS C)::del (put A i (AH p C.act)) i)++R)) h) ?_ ?_ 0 _ (by omega) (by rw[Nat.mul_zero,aO];exact hs)
 ·intro k h8 hk hs hk'
  apply hJ
  rw[AD,if_pos (by simp;omega)]
  simp only[Cm.cells]at hs
  refine⟨_,_,_,hs.ld zs2 rfl,?_⟩
  refine⟨_,rfl,h2,by(try dsimp only);omega,?_⟩
  try simp only[AF,Nat.zero_add,Nat.mul_one]
  refine⟨_,_,_,hs.sld zs1 e8,?_⟩
  refine⟨_,rfl,by omega,by(try dsimp only);omega,?_⟩
  intro J2 hJ2
  refine BB 32 (fun j h=>Sat h0 (sE (some ⟨yb,0,none⟩,yl,yc) 32 (AA .u8 (BP g (32*k+j) row))::sE (some ⟨qb,0,none⟩,pl,pc) 1 hd::((blk p (C.act.cells (some ⟨qb,0,none⟩,pl,pc) (some ⟨eb,0,none⟩,el,ec) w3 w4) ::
   sE (some ⟨eb,0,none⟩,el,ec) 1 (AA .i64 (C.s.erases.set page.toNat (C.s.erases[page.toNat]+1)))::sE w3 1 (A3 C.s.blown)::sE w4 1 (AA .u8 C.act.mask)::LH v (BS C)::del (put A i (AH p C.act)) i)++R)) h) ?_ ?_ 0 _ (by omega) (by rw[Nat.add_zero];exact hs)
  ·intro j h9 hj hs hk2
   apply hJ2
   rw[AD,if_pos (by simp;omega)]
   try simp only[AF,Nat.zero_add,Nat.mul_one,Int.toNat_natCast]
   have hlt:k*32+j<row.length:=by omega
   have ea:(BP g (32*k+j) row)[k*32+j]?=some row[k*32+j]:=yZ (by omega) hlt
   have eb':(AA .u8 (BP g (32*k+j) row))[k*32+j]?=some (.int .u8 row[k*32+j]):=by rw[BA,ea];rfl
   refine⟨by omega,by omega,_,hs.sld .z eb',?_⟩
   have ew:IntKind.i64.wrap (IntKind.i64.wrap ((k:Int)*32)+(j:Int))=((k*32+j:Nat):Int):=by rw[AL (n:=(k:Int)*32) (by omega),AL (by omega)];omega
   rw[ew]
   refine oV (i:=6) hs zs6 (k*32+j) rfl ?_
   refine⟨_,_,rfl,_,rfl,rfl,AI (hs.sld .z eb'),by omega,by omega,hs.scan .z (show 0<yl by omega) (by simp;omega),?_⟩
   intro h10 e10
   replace hs:=hs.swr .z e10 (show 0<yl by omega) (by simp;omega) (by simp)
   rw[AU (by omega)]
   refine hk2 _ ?_
   simp only[FN,OR,E4,put]at hs
   have e11:(BP g (32*k+j) row).set (k*32+j) (bits .or .u8 row[k*32+j] (BS C (k*32+j)))=BP g (32*k+(j+1)) row:=by
    have:=SH g (32*k+j) row (by omega)
    rw[show 32*k+(j+1)=32*k+j+1 by omega,←this]
    have e12:32*k+j=k*32+j:=by omega
    simp only[e12,g]
   rw[e11]at hs
   exact hs
  ·intro h9 hs
   apply hJ2
   rw[AD,if_neg (by simp)]
   rw[AU (by omega)]
   exact hk' _ hs
 ·intro h8 hs
  apply hJ
  rw[AD,if_neg (by simp;omega)]
  have e12:BP g (32*C.cfg.cells.toNat) row=D9 row (BS C):=by
   unfold D9
   have:32*C.cfg.cells.toNat=row.length:=by omega
   rw[this]
  rw[e12]at hs
  replace hs:=(give _ _ _ hs).front zs1
  have hce':((C.act.setErase page.toNat (C.s.erases[page.toNat]+1)).setPage page.toNat (D9 row (BS C))).ok:=by
   refine (ok'.setErase (by omega)).setPage ?_ ?_
   ·show ((D9 row (BS C)).length:Int)=32*C.act.cfg.cells
    rw[E9,←e12,hmg];exact hcl
   ·refine aN (P:=CC) (fun v hv=>hbr v hv) (fun i v hv=>ZN _ _ _)
  have hsC:=I5 (a:=(some ⟨qb,0,none⟩,pl,pc)) (b:=(some ⟨eb,0,none⟩,el,ec)) (c:=w3) (m:=w4) hce' ci2 (by rw[Cm.setPage,Cm.setErase,DA];exact hs)
  simp only[AS,CD]at hsC
  exact k _ hsC.drop
end
structure St.small (s:St):Prop where
 pages:s.pages.length*24+4096≤2^47
 rows:∀l,l∈s.pages->l.length+4096≤2^47
 erases:s.erases.length*8+4096≤2^47
 blown:s.blown.length+4096≤2^47
theorem Cm.ok.small{C:Cm}(ok:C.ok):C.s.small:=by
 have h1:=ok.may.np;have h2:=ok.may.nf;have h3:=ok.fits;have h4:=ok.may.cells
 refine⟨by have:=h3.pages;omega,fun l hl=>by have:=h3.cells l hl;omega,by have:=h3.erases;omega,by have:=h3.blown;omega⟩
section
variable {h0 h:H} {A:List Ent} {i p:Nat} {C:Cm}
theorem AcD{p:Option Addr}{l c:Nat}{bs:List Int}{Q:Option Addr->Nat->Nat->HP}(hs:Sat h0 A h)(rd:hsv h p 32 l (AA .u8 bs))(hb:bs.length≤2^47)
  (k:∀p' c' h',Sat h0 (sE (p',l,c') 32 (AA .u8 bs)::A) h'->Q p' l c' h'):NR p l c Q h:=
 AcE p l c _ Q h rd (by have:=rd.1;simp at this;omega) fun p' c' h' bs' x o n=>k _ _ _ (hs.own x o n)
theorem AcF{p:Option Addr}{l c:Nat}{bs:List Int}{Q:Option Addr->Nat->Nat->HP}(hs:Sat h0 A h)(rd:hsv h p 1 l (AA .i64 bs))(hb:bs.length*8≤2^47)
  (k:∀p' c' h',Sat h0 (sE (p',l,c') 1 (AA .i64 bs)::A) h'->Q p' l c' h'):NT p l c Q h:=
 AcG p l c _ Q h rd (by have:=rd.1;simp at this;omega) fun p' c' h' bs' x o n=>k _ _ _ (hs.own x o n)
theorem AcA{p:Option Addr}{l c:Nat}{bs:List Bool}{Q:Option Addr->Nat->Nat->HP}(hs:Sat h0 A h)(rd:hsv h p 1 l (A3 bs))(hb:bs.length≤2^47)
  (k:∀p' c' h',Sat h0 (sE (p',l,c') 1 (A3 bs)::A) h'->Q p' l c' h'):NS p l c Q h:=
 AcB p l c _ Q h rd (by have:=rd.1;simp at this;omega) fun p' c' h' bs' x o n=>k _ _ _ (hs.own x o n)
theorem vZ{a b c:Sl}{s:St}{Q:Option Addr->Nat->Nat->Option Addr->Nat->Nat->Option Addr->Nat->Nat->HP}(hs:Sat h0 A h)(rd:∀h',Sat h0 A h'->RdS h' a b c s)(sm:s.small)
  (k:∀(a' b' c':Sl) h',Sat h0 (stL a' b' c' s++A) h'->Q a'.1 a'.2.1 a'.2.2 b'.1 b'.2.1 b'.2.2 c'.1 c'.2.1 c'.2.2 h'):
  JV a.1 a.2.1 a.2.2 b.1 b.2.1 b.2.2 c.1 c.2.1 c.2.2 Q h:=by
 unfold JV fJ
 try simp only[AF,Nat.zero_add]
 intro n1 _ hn;replace hs:=Sat.new hs hn
 intro n2 _ hn;replace hs:=Sat.new hs hn
 intro J hJ
 have fin:∀q b2 b3 c2 c3 h',Sat h0 (blk q [.slice none 0 0,.slice b2 b.2.1 b3,.slice c2 c.2.1 c3]::sE (b2,b.2.1,b3) 1 (AA .i64 s.erases)::sE (c2,c.2.1,c3) 1 (A3 s.blown) ::
   blk n1 [a.v,b.v,c.v]::blk n2 [.slice none 0 0,.slice none 0 0,.slice none 0 0]::A) h'->J [SV.dv (DV.addr ⟨q,0,none⟩)] h':=by
  intro q b2 b3 c2 c3 h' hs
  apply hJ
  (repeat first | refine⟨_,Sat.ld hs (by repeat constructor) (by rfl),?_⟩ | refine⟨_,_,_,Sat.ld hs (by repeat constructor) (by rfl),?_⟩ | (intro _ _ hn;replace hs:=Sat.new hs hn) | refine⟨Sat.cs hs (by repeat constructor) (by rfl),?_⟩ | (refine⟨Sat.can hs (by repeat constructor) (by simp),?_⟩;intro _ e;replace hs:=Sat.wr hs (by repeat constructor) e;clear e;simp only[put,AR,List.set]at hs))
  intro J2 hJ2
  have hlen:=(rd _ hs.drop.drop.drop.drop.drop).pg.len
  replace hs:=hs.mat_nil 32 none
  refine BB a.2.1 (fun i h=>∃hd:Sl,hd.2.1=i/\Sat h0 (BR 32 hd (s.pages.take i)::blk q [hd.v,.slice b2 b.2.1 b3,.slice c2 c.2.1 c3]::sE (b2,b.2.1,b3) 1 (AA .i64 s.erases)::sE (c2,c.2.1,c3) 1 (A3 s.blown) ::
   blk n1 [a.v,b.v,c.v]::blk n2 [.slice none 0 0,.slice none 0 0,.slice none 0 0]::A) h) ?_ ?_ 0 _ (by omega) ⟨_,rfl,hs⟩
  ·rintro i h1 hi ⟨⟨hp,hl,hc⟩,e,hs⟩ hk
   simp only at e;subst e
   apply hJ2
   rw[AD,if_pos (by simp;omega)]
   have hlt:hl<s.pages.length:=by omega
   obtain⟨q',x,e1,e2,e3⟩:=(rd _ hs.drop.drop.drop.drop.drop.drop).pg.at hlt
   rw[e1]
   refine⟨_,rfl,by omega,by omega,?_⟩
   refine⟨_,_,_,e2,?_⟩
   refine⟨_,_,_,Sat.ld hs (by repeat constructor) (by rfl),?_⟩
   refine AcD hs e3 (Nat.le_trans (Nat.le_add_right _ _) (sm.rows _ (List.getElem_mem hlt))) ?_
   intro p' c' h2 hs
   refine⟨Sat.cs hs (by repeat constructor) (by rfl),?_⟩
   (intro _ _ hn;replace hs:=Sat.new hs hn)
   refine⟨Sat.cs hs (by repeat constructor) (by rfl),?_⟩
   refine⟨_,Sat.bv hs (.z) (by simp) (by simp),?_⟩
   replace hs:=Sat.front hs zs1
   have hpl:=sm.pages
   refine Sat.app_row hs zs1 (by dsimp only;omega) ?_
   intro p2 c2' h4 hs
   simp only[put,del]at hs
   (refine⟨Sat.can hs (by repeat constructor) (by simp),?_⟩;intro _ e;replace hs:=Sat.wr hs (by repeat constructor) e;clear e;simp only[put,AR,List.set]at hs)
   rw[AU (by omega)]
   refine hk _ ⟨(p2,hl+1,c2'),rfl,?_⟩
   rw[List.take_succ_eq_append_getElem hlt]
   exact hs.sub (by(repeat (first | exact List.Sublist.refl _ | apply List.Sublist.cons_cons | apply List.Sublist.cons)))
  ·rintro h1 ⟨⟨hp,hl,hc⟩,e,hs⟩
   simp only at e;subst e
   apply hJ2
   rw[AD,if_neg (by simp)]
   (repeat first | refine⟨_,Sat.ld hs (by repeat constructor) (by rfl),?_⟩ | refine⟨_,_,_,Sat.ld hs (by repeat constructor) (by rfl),?_⟩ | (intro _ _ hn;replace hs:=Sat.new hs hn) | refine⟨Sat.cs hs (by repeat constructor) (by rfl),?_⟩ | (refine⟨Sat.can hs (by repeat constructor) (by simp),?_⟩;intro _ e;replace hs:=Sat.wr hs (by repeat constructor) e;clear e;simp only[put,AR,List.set]at hs))
   refine k (hp,_,hc) (b2,_,b3) (c2,_,c3) _ ?_
   rw[←hlen,List.take_length]at hs
   replace hs:=Sat.front hs (e:=blk n2 _) (by repeat constructor)
   replace hs:=Sat.front hs (e:=blk n1 _) (by repeat constructor)
   replace hs:=Sat.front hs (e:=blk q _) (by repeat constructor)
   simp only[del]at hs
   have:=hs.drop.drop.drop
   rw[hlen]at this
   exact this
 repeat' (first | refine⟨_,Sat.ld hs (by repeat constructor) (by rfl),?_⟩ | refine⟨_,_,_,Sat.ld hs (by repeat constructor) (by rfl),?_⟩ | (intro _ _ hn;replace hs:=Sat.new hs hn) | refine⟨Sat.cs hs (by repeat constructor) (by rfl),?_⟩ | (refine⟨Sat.can hs (by repeat constructor) (by simp),?_⟩;intro _ e;replace hs:=Sat.wr hs (by repeat constructor) e;clear e;simp only[put,AR,List.set]at hs) | (refine AcF hs (rd _ (hs.sub (by(repeat (first | exact List.Sublist.refl _ | apply List.Sublist.cons_cons | apply List.Sublist.cons))))).er (Nat.le_trans (Nat.le_add_right _ _) sm.erases) ?_;intro _ _ _ hs) | (refine AcA hs (rd _ (hs.sub (by(repeat (first | exact List.Sublist.refl _ | apply List.Sublist.cons_cons | apply List.Sublist.cons))))).bl (Nat.le_trans (Nat.le_add_right _ _) sm.blown) ?_;intro _ _ _ hs) | refine And.intro ?_ ?_)
 all_goals
  replace hs:=Sat.front hs (e:=blk n2 _) (by repeat constructor)
  replace hs:=Sat.front hs (e:=blk n1 _) (by repeat constructor)
  replace hs:=Sat.front hs (e:=slE _ _ _ 1 (A3 _)) (by repeat constructor)
  replace hs:=Sat.front hs (e:=slE _ _ _ 1 (AA .i64 _)) (by repeat constructor)
  replace hs:=Sat.front hs (e:=blk _ [.slice none 0 0,.slice _ b.2.1 _,.slice _ c.2.1 _]) (by repeat constructor)
  exact fin _ _ _ _ _ _ hs
theorem vW{a b c m:Sl}(ok:C.ok)(hs:Sat h0 (blk p (C.cells a b c m)::BR 32 a C.s.pages::sE b 1 (AA .i64 C.s.erases)::sE c 1 (A3 C.s.blown)::sE m 1 (AA .u8 C.mask)::A) h):Sat h0 (AH p C::A) h:=
 Sat.close ⟨a,b,c,m⟩ ok hs
theorem AiF{Q:Option Addr->Nat->Nat->Option Addr->Nat->Nat->Option Addr->Nat->Nat->HP}(hs:Sat h0 A h)(ci:At A i (AH p C))
  (k:∀(a' b' c':Sl) h',Sat h0 (stL a' b' c' C.s++A) h'->Q a'.1 a'.2.1 a'.2.2 b'.1 b'.2.1 b'.2.2 c'.1 c'.2.1 c'.2.2 h'):O6 ⟨p,0,none⟩ Q h:=by
 unfold O6 eX
 try simp only[AF,Nat.zero_add]
 obtain⟨w,ok,hs⟩:=(hs.front ci).open_;dsimp only[DB,List.cons_append,List.nil_append,Cm.cells]at hs
 intro nl _ hn;replace hs:=Sat.new hs hn
 refine⟨_,_,_,Sat.ld hs (by repeat constructor) (by rfl),?_⟩
 refine⟨_,_,_,Sat.ld hs (by repeat constructor) (by rfl),?_⟩
 refine⟨_,_,_,Sat.ld hs (by repeat constructor) (by rfl),?_⟩
 refine vZ (a:=w.a) (b:=w.b) (c:=w.c) (s:=C.s) hs (fun h' hs'=>YE hs' (i:=2) (j:=3) (k:=4) zs2 zs3 zs4) ok.small ?_
 intro a' b' c' h' hs
 replace hs:Sat h0 (BR 32 a' C.s.pages::sE b' 1 (AA .i64 C.s.erases)::sE c' 1 (A3 C.s.blown)::blk nl [.slice none 0 0,.slice none 0 0,.slice none 0 0]::DB p C w++del A i) h':=hs
 dsimp only[DB,List.cons_append,List.nil_append,Cm.cells]at hs
 (repeat first | refine⟨_,Sat.ld hs (by repeat constructor) (by rfl),?_⟩ | refine⟨_,_,_,Sat.ld hs (by repeat constructor) (by rfl),?_⟩ | (intro _ _ hn;replace hs:=Sat.new hs hn) | refine⟨Sat.cs hs (by repeat constructor) (by rfl),?_⟩ | (refine⟨Sat.can hs (by repeat constructor) (by simp),?_⟩;intro _ e;replace hs:=Sat.wr hs (by repeat constructor) e;clear e;simp only[put,AR,List.set]at hs))
 refine k a' b' c' _ ?_
 replace hs:=Sat.front hs (e:=slE w.m.1 _ _ 1 (AA .u8 C.mask)) (by repeat constructor)
 replace hs:=Sat.front hs (e:=slE w.c.1 w.c.2.1 w.c.2.2 1 (A3 C.s.blown)) (by repeat constructor)
 replace hs:=Sat.front hs (e:=slE w.b.1 w.b.2.1 w.b.2.2 1 (AA .i64 C.s.erases)) (by repeat constructor)
 replace hs:=Sat.front hs (e:=BR 32 w.a C.s.pages) (by repeat constructor)
 replace hs:=Sat.front hs (e:=blk p _) (by repeat constructor)
 simp only[del]at hs
 have hC:=I5 (a:=w.a) (b:=w.b) (c:=w.c) (m:=w.m) ok ci.s.s.s.s hs
 simp only[AS,ci.put_self]at hC
 exact hC.sub (by(repeat (first | exact List.Sublist.refl _ | apply List.Sublist.cons_cons | apply List.Sublist.cons)))
end
end Go.Proofs.YteedolonhdbieaaGreatDoor
end
section
namespace Go.Proofs.YteedolonhdbieaaGreatDoor
open Go Go.Vc Go.ChangeShapes Go.WideShapes Go.ChangeAt Go.RowKit
set_option maxRecDepth 100000
theorem Ar8:xsh PP 8 95=some [.slc 178,.slc 3,.slc 4]:=by kernel_rfl
theorem Ar6:xsh PP 8 178=some [.slc 180]:=by kernel_rfl
theorem Ar5:xsh PP 8 180=some [.row .u8 32]:=by kernel_rfl
theorem Ar9:xsh PP 8 3=some [.int .i64]:=by kernel_rfl
theorem Ar2:xsh PP 8 4=some [.bool]:=by kernel_rfl
section
variable {D:Type} {enc:TypeId×Value->D} {W:World}
theorem AlV{p:Option Addr}{l c:Nat}(h:Sli enc PP W 3 p l c):∃ns:List Int,hsv W.heap p 1 l (AA .i64 ns)/\(∀n,n∈ns->-(2^63)≤n/\n<2^63)/\ns.length*8+4096≤2^47:=by
 have hb:Tryz.prog.bytesOf 3=8:=by kernel_rfl
 have hc:Tryz.prog.cellsOf 3=1:=by kernel_rfl
 obtain⟨ess,h1,h2,h3,_⟩:=h.els Ar9
 have hlc:=h.1
 have hr:=h.2.1
 rw[hb]at hr
 rw[hc]at h3
 have key:∀ess:List (List Value),(∀es,es∈ess->es.length=Tryz.prog.cellsOf 3/\XM enc PP W [XSh.int .i64] es)->∃ns:List Int,ess.flatten=AA .i64 ns/\∀n,n∈ns->-(2^63)≤n/\n<2^63:=by
  intro ess
  induction ess with
  | nil=>intro _;exact⟨[],rfl,by intro n hn;simp at hn⟩
  | cons x r ih=>
   intro h
   obtain⟨ns,e,hn⟩:=ih fun es hes=>h es (by simp[hes])
   obtain⟨n,rest,rfl,hh,hr⟩:=(h x (by simp)).2
   simp only[XM]at hr
   subst hr
   refine⟨n::ns,by simp[e],?_⟩
   intro m hm
   rcases List.mem_cons.1 hm with rfl | hm
   ·exact xB hh
   ·exact hn m hm
 obtain⟨ns,e,hn⟩:=key ess h2
 rw[e]at h3
 have:ns.length=l:=by have:=h3.1;simpa using this
 refine⟨ns,h3,hn,?_⟩
 unfold reachBytes at hr
 omega
theorem Aj9{p:Option Addr}{l c:Nat}(h:Sli enc PP W 4 p l c):∃ns:List Bool,hsv W.heap p 1 l (A3 ns)/\ns.length+4096≤2^47:=by
 have hb:Tryz.prog.bytesOf 4=1:=by kernel_rfl
 have hc:Tryz.prog.cellsOf 4=1:=by kernel_rfl
 obtain⟨ess,h1,h2,h3,_⟩:=h.els Ar2
 have hlc:=h.1
 have hr:=h.2.1
 rw[hb]at hr
 rw[hc]at h3
 have key:∀ess:List (List Value),(∀es,es∈ess->es.length=Tryz.prog.cellsOf 4/\XM enc PP W [XSh.bool] es)->∃ns:List Bool,ess.flatten=A3 ns:=by
  intro ess
  induction ess with
  | nil=>intro _;exact⟨[],rfl⟩
  | cons x r ih=>
   intro h
   obtain⟨ns,e⟩:=ih fun es hes=>h es (by simp[hes])
   obtain⟨n,rest,rfl,hr⟩:=(h x (by simp)).2
   simp only[XM]at hr
   subst hr
   exact⟨n::ns,by simp[e,A3]⟩
 obtain⟨ns,e⟩:=key ess h2
 rw[e]at h3
 have:ns.length=l:=by have:=h3.1;simpa using this
 refine⟨ns,h3,?_⟩
 unfold reachBytes at hr
 omega
theorem AoZ{p:Option Addr}{l c:Nat}(h:Sli enc PP W 180 p l c):∃ns:List Int,hsv W.heap p 32 l (AA .u8 ns)/\A4 ns/\ns.length+4096≤2^47:=by
 have hb:Tryz.prog.bytesOf 180=32:=by kernel_rfl
 have hc:Tryz.prog.cellsOf 180=32:=by kernel_rfl
 obtain⟨ess,h1,h2,h3,_⟩:=h.els Ar5
 have hlc:=h.1
 have hr:=h.2.1
 rw[hb]at hr
 rw[hc]at h3
 have key:∀ess:List (List Value),(∀es,es∈ess->es.length=Tryz.prog.cellsOf 180/\XM enc PP W [XSh.row .u8 32] es)->∃ns:List Int,ess.flatten=AA .u8 ns/\A4 ns:=by
  intro ess
  induction ess with
  | nil=>intro _;exact⟨[],rfl,by intro n hn;simp at hn⟩
  | cons x r ih=>
   intro h
   obtain⟨ns,e,hn⟩:=ih fun es hes=>h es (by simp[hes])
   obtain⟨xs,rest,rfl,_,hh,hr⟩:=(h x (by simp)).2
   simp only[XM]at hr
   subst hr
   refine⟨xs++ns,by simp[e],?_⟩
   intro m hm
   rcases List.mem_append.1 hm with hm | hm
   ·exact pD (hh m hm)
   ·exact hn m hm
 obtain⟨ns,e,hn⟩:=key ess h2
 rw[e]at h3
 have:ns.length=l*32:=by have:=h3.1;simpa using this
 refine⟨ns,h3,hn,?_⟩
 unfold reachBytes at hr
 omega
theorem AmO{p:Option Addr}{l c:Nat}(h:Sli enc PP W 178 p l c):∃rows:List (List Int),RdM W.heap 32 (p,l,c) rows/\(∀r,r∈rows->A4 r/\r.length+4096≤2^47)/\rows.length*24+4096≤2^47:=by
 have hb:Tryz.prog.bytesOf 178=24:=by kernel_rfl
 have hc:Tryz.prog.cellsOf 178=1:=by kernel_rfl
 obtain⟨ess,h1,h2,h3,_⟩:=h.els Ar6
 have hlc:=h.1
 have hr:=h.2.1
 rw[hb]at hr
 rw[hc]at h3
 have key:∀ess:List (List Value),(∀es,es∈ess->es.length=Tryz.prog.cellsOf 178/\XM enc PP W [XSh.slc 180] es)->∃pgs:List Pg,ess.flatten=DU pgs/\(∀x,x∈pgs->x.rd W.heap 32)/\∀x,x∈pgs->A4 x.bytes/\x.bytes.length+4096≤2^47:=by
  intro ess
  induction ess with
  | nil=>intro _;exact⟨[],rfl,by simp,by simp⟩
  | cons x r ih=>
   intro h
   obtain⟨pgs,e,hn,hn2⟩:=ih fun es hes=>h es (by simp[hes])
   obtain⟨xp,xl,xc,rest,rfl,hh,hr⟩:=(h x (by simp)).2
   simp only[XM]at hr
   subst hr
   obtain⟨bs,b1,b2,b3⟩:=AoZ hh
   refine⟨⟨(xp,xl,xc),bs⟩::pgs,by simp[e,DU],?_,?_⟩
   ·intro y hy
    rcases List.mem_cons.1 hy with rfl | hy
    ·exact b1
    ·exact hn y hy
   ·intro y hy
    rcases List.mem_cons.1 hy with rfl | hy
    ·exact⟨b2,b3⟩
    ·exact hn2 y hy
 obtain⟨pgs,e,hn,hn2⟩:=key ess h2
 rw[e]at h3
 have:pgs.length=l:=by have:=h3.1;simpa using this
 refine⟨GU pgs,⟨pgs,rfl,h3,hn⟩,?_,?_⟩
 ·intro r hr
  obtain⟨x,hx,rfl⟩:=List.mem_map.1 hr
  exact hn2 x hx
 ·unfold reachBytes at hr
  simp;omega
theorem AjS{v:Value}{base:Nat}(h:Rdt enc PP W 95 v.cells.toList)(ho:Value.okWide PP W .any base 95 v):
  ∃(a b c:Sl) (s:St),v=.agg #[a.v,b.v,c.v]/\RdS W.heap a b c s/\s.typed/\s.small:=by
 have e:=zD (by kernel_rfl) ho
 obtain⟨p1,l1,c1,r1,e1,s1,p2,l2,c2,r2,rfl,s2,p3,l3,c3,r3,rfl,s3,hr⟩:=Rdt.xm 8 _ _ _ Ar8 h
 simp only[XM]at hr
 subst hr
 obtain⟨rows,m1,m2,m3⟩:=AmO s1
 obtain⟨es,i1,i2,i3⟩:=AlV s2
 obtain⟨bs,b1,b2⟩:=Aj9 s3
 refine⟨(p1,l1,c1),(p2,l2,c2),(p3,l3,c3),⟨rows,es,bs⟩,?_,⟨m1,i1,b1⟩,⟨fun l hl=>(m2 l hl).1,i2⟩,⟨m3,fun l hl=>(m2 l hl).2,i3,b2⟩⟩
 rw[e]
 congr 1
 rw[←Array.toArray_toList (xs:=v.cells),e1]
theorem An7(c:Cfg):(DV.agg (c.vals.map .c)).ok:=by
 intro y hy;simp only[Cfg.vals,List.map_cons,List.map_nil,List.mem_cons,List.not_mem_nil,or_false]at hy
 rcases hy with rfl | rfl | rfl | rfl | rfl | rfl | rfl <;> rfl
theorem An8(a b c:Sl):(DV.agg [.c a.v,.c b.v,.c c.v]).ok:=by
 intro y hy;simp only[List.mem_cons,List.not_mem_nil,or_false]at hy
 rcases hy with rfl | rfl | rfl <;> rfl
end
end Go.Proofs.YteedolonhdbieaaGreatDoor
end
section
namespace Go.Vc
abbrev b8(x:Int):BitVec 8:=BitVec.ofInt 8 x
theorem vK(v:BitVec 8):b8 (v.toNat:Int)=v:=by simp[b8]
theorem cQ(v:BitVec 8):IntKind.u8.wrap (v.toNat:Int)=(v.toNat:Int):=by
 have:=v.isLt
 rw[IntKind.wrap_u8];omega
theorem vL(x y:Int):bits .and .u8 x y=((b8 x &&& b8 y).toNat:Int):=cQ (b8 x &&& b8 y)
theorem vO(x y:Int):bits .or .u8 x y=((b8 x ||| b8 y).toNat:Int):=cQ (b8 x ||| b8 y)
theorem Aj3(x y:Int):bits .xor .u8 x y=((b8 x ^^^ b8 y).toNat:Int):=cQ (b8 x ^^^ b8 y)
theorem vN(x y:Int):bits .andNot .u8 x y=((b8 x &&& ~~~ b8 y).toNat:Int):=cQ (b8 x &&& ~~~ b8 y)
theorem AkA(w m x:Int):bits .or .u8 (bits .andNot .u8 w m) (bits .and .u8 (bits .and .u8 w x) m)=bits .andNot .u8 w (bits .andNot .u8 m x):=by
 simp only[vL,vO,vN,vK]
 congr 1;congr 1
 ext i hi
 simp[hi]
 cases (b8 w)[i] <;> cases (b8 m)[i] <;> cases (b8 x)[i] <;> rfl
theorem Al5(w x:Int):bits .and .u8 w x=bits .andNot .u8 w (bits .andNot .u8 255 x):=by
 simp only[vL,vN,vK]
 congr 1;congr 1
 have:b8 255=BitVec.allOnes 8:=by decide
 rw[this]
 ext i hi
 simp only[BitVec.getElem_and,BitVec.getElem_not,BitVec.getElem_allOnes,Bool.true_and,Bool.not_not]
theorem wR(b:Int):bits .or .u8 b 255=255:=by
 rw[vO]
 have:b8 255=BitVec.allOnes 8:=by decide
 rw[this,BitVec.or_allOnes]
 decide
@[irreducible] def X3(r:Nat)(es:List (Value×DV))(h:H)(f:Nat->Prop):Prop:=N6 h r es/\∀x,f x↔x=r
theorem xI{h:H}{r:Nat}{es:List (Value×DV)}(m:N6 h r es):r<h.size:=by
 obtain⟨a,cl,e,_⟩:=m
 exact (Array.getElem?_eq_some_iff.1 e).1
def ED(r:Nat)(es:List (Value×DV)):Ent where
 tag:=.of r
 P:=X3 r es
 st:=by unfold X3;rintro h h' f ⟨⟨a,cl,k,ke⟩,e⟩ hs;exact⟨⟨a,cl,by rw[hs r ((e r).2 rfl)];exact k,ke⟩,e⟩
 lt:=by unfold X3;rintro h f x ⟨k,e⟩ hx;rw[(e x).1 hx];exact xI k
theorem mapE_P{r:Nat}{es:List (Value×DV)}{h:H}{f:Nat->Prop}:(ED r es).P h f↔N6 h r es/\∀x,f x↔x=r:=by
 show X3 r es h f↔_;unfold X3;rfl
theorem Sat.mapNew{h0 h h':H}{A:List Ent}(s:Sat h0 A h){b:Nat}(n:pH h b h'):Sat h0 (ED b []::A) h':=by
 obtain⟨rfl,rfl⟩:=n
 refine s.add ⟨by simp,fun x hx _=>by rw[Array.getElem?_push,if_neg (by omega)]⟩ (f:=fun x=>x=h.size) (mapE_P.2 ⟨⟨#[],0,by simp,rfl,fun e he=>by cases he⟩,fun _=>Iff.rfl⟩) fun x hx=>by rw[hx];exact Nat.le_refl _
theorem Sat.mapAt{h0 h:H}{A:List Ent}(s:Sat h0 A h){i r:Nat}{es:List (Value×DV)}(a:At A i (ED r es)):N6 h r es:=by
 obtain⟨f,hp,_⟩:=s.take a
 exact (mapE_P.1 hp).1
theorem Sat.mapSet{h0 h h':H}{A:List Ent}(s:Sat h0 A h){i r:Nat}{es es':List (Value×DV)}(a:At A i (ED r es))(e:pJ h r es' h'):Sat h0 (Vc.put A i (ED r es')) h':=by
 refine s.upd a fun f hp=>?_
 obtain⟨k,hf⟩:=mapE_P.1 hp
 have hlt:=xI k
 obtain⟨m,cl,rfl,hent⟩:=e
 refine⟨f,mapE_P.2 ⟨⟨m,cl,by rw[Array.getElem?_setIfInBounds_self_of_lt hlt],hent⟩,hf⟩,fun _=>Or.inl,⟨by simp,fun x _ hx=>?_⟩⟩
 rw[Array.getElem?_setIfInBounds_ne]
 intro y;exact hx ((hf x).2 y.symm)
theorem AqC(l:List Int)(n:Nat)(h:n<l.length):l.take n++[l.getD n 0]=l.take (n+1):=by
 rw[List.take_succ];simp[List.getD,List.getElem?_eq_getElem h]
end Go.Vc
end
section
namespace Go.Proofs.YteedolonhdbieaaGreatDoor
open Go Go.Vc
set_option maxRecDepth 100000
theorem WI(n:Int):IntKind.u64.wrap n=n % 18446744073709551616:=by simp[IntKind.wrap,IntKind.signed,IntKind.bits]
theorem Z8{h:H}{p:Option Addr}{l:Nat}{k:IntKind}{ns:List Int}{x:Nat}(rd:hsv h p 1 l (AA k ns))(hx:x<l):∃q,p=some q/\hc h (q.add x)=some (.int k (ns.getD x 0)):=by
 have hl:ns.length=l:=by have:=rd.1;simpa using this
 obtain⟨q,hq,g⟩:=FP rd (i:=x) (v:=.int k (ns.getD x 0)) (by rw[BA,List.getElem?_eq_getElem (by omega)];simp[List.getD,List.getElem?_eq_getElem (show x<ns.length by omega)])
 exact⟨q,hq,g⟩
/-! ### The model -/
def kM:List Int:=[1116352408,1899447441,3049323471,3921009573,961987163,1508970993,2453635748,2870763221,3624381080,310598401,607225278,1426881987,1925078388,2162078206,2614888103,3248222580,3835390401,4022224774,264347078,604807628,770255983,1249150122,1555081692,1996064986,2554220882,2821834349,2952996808,3210313671,3336571891,3584528711,113926993,338241895,666307205,773529912,1294757372,1396182291,1695183700,1986661051,2177026350,2456956037,2730485921,2820302411,3259730800,3345764771,3516065817,3600352804,4094571909,275423344,430227734,506948616,659060556,883997877,958139571,1322822218,1537002063,1747873779,1955562222,2024104815,2227730452,2361852424,2428436474,2756734187,3204031479,3329325298]
def sM:List Int:=[1779033703,3144134277,1013904242,2773480762,1359893119,2600822924,528734635,1541459225]
def FH(x:Int)(n:Nat):Int:=bits .or .u32 (IntKind.u32.wrap (x*2^(32-n))) (x.fdiv (2^n))
def x3(a b c:Int):Int:=bits .xor .u32 (bits .xor .u32 a b) c
def ApR(x:Int):Int:=x3 (FH x 7) (FH x 18) (x.fdiv (2^3))
def ApS(x:Int):Int:=x3 (FH x 17) (FH x 19) (x.fdiv (2^10))
def FO(bs:List Int):Nat->Int
 | 0=>0
 | j+1=>bits .or .u32 (IntKind.u32.wrap (FO bs j*2^8)) (IntKind.u32.wrap (bs.getD j 0))
def An2(w:List Int)(t:Nat):Int:=
 IntKind.u32.wrap (IntKind.u32.wrap (IntKind.u32.wrap (w.getD (t-16) 0+ApR (w.getD (t-15) 0))+w.getD (t-7) 0)+ApS (w.getD (t-2) 0))
def wM(bs:List Int):Nat->List Int
 | 0=>AB 64
 | t+1=>(wM bs t).set t (if t<16 then FO ((bs.drop (4*t)).take 4) 4 else An2 (wM bs t) t)
def An1(x:Int):Int:=bits .xor .u32 (if IntKind.u32.signed=true then -1 else IntKind.u32.max) x
def uM(a b c d e f g h k w:Int):Int:=
 IntKind.u32.wrap (IntKind.u32.wrap (IntKind.u32.wrap (IntKind.u32.wrap (h+x3 (FH e 6) (FH e 11) (FH e 25))+bits .xor .u32 (bits .and .u32 e f) (bits .and .u32 (An1 e) g))+k)+w)
def vM(a b c:Int):Int:=IntKind.u32.wrap (x3 (FH a 2) (FH a 13) (FH a 22)+x3 (bits .and .u32 a b) (bits .and .u32 a c) (bits .and .u32 b c))
def cG(s:List Int)(k w:Int):List Int:=
 match s with
 | [a,b,c,d,e,f,g,h]=>[IntKind.u32.wrap (uM a b c d e f g h k w+vM a b c),a,b,c,IntKind.u32.wrap (d+uM a b c d e f g h k w),e,f,g]
 | s=>s
def rM(w s:List Int):Nat->List Int
 | 0=>s
 | t+1=>cG (rM w s t) (kM.getD t 0) (w.getD t 0)
def aM(s r:List Int):Nat->List Int
 | 0=>s
 | i+1=>(aM s r i).set i (IntKind.u32.wrap ((aM s r i).getD i 0+r.getD i 0))
def HW(s bs:List Int):List Int:=aM s (rM (wM bs 64) s 64) 8
theorem JI(bs:List Int)(t:Nat):(wM bs t).length=64:=by
 induction t with
 | zero=>simp[wM,AB]
 | succ t ih=>simp[wM,ih]
theorem pU{s:List Int}(h:s.length=8):∃a b c d e f g i,s=[a,b,c,d,e,f,g,i]:=by
 match s,h with
 | [a,b,c,d,e,f,g,i],_=>exact⟨a,b,c,d,e,f,g,i,rfl⟩
theorem aX(w s:List Int)(h:s.length=8)(t:Nat):(rM w s t).length=8:=by
 induction t with
 | zero=>exact h
 | succ t ih=>
  obtain⟨a,b,c,d,e,f,g,i,hx⟩:=pU ih
  show (cG (rM w s t) _ _).length=8
  rw[hx];rfl
theorem ZA(s r:List Int)(h:s.length=8)(i:Nat):(aM s r i).length=8:=by
 induction i with
 | zero=>exact h
 | succ i ih=>simp[aM,ih]
theorem zJ{s bs:List Int}(h:s.length=8):(HW s bs).length=8:=ZA _ _ h _
theorem HS:kM.length=64:=by decide
theorem E3{k:IntKind}{l:List Int}{i:Nat}(h:i<l.length):(AA k l)[i]?=some (.int k (l.getD i 0)):=by
 rw[BA,List.getElem?_eq_getElem h];simp[List.getD,List.getElem?_eq_getElem h]
theorem HQ(k:IntKind)(l:List Int)(i:Nat)(v:Int):AR (AA k l) i [.int k v]=AA k (l.set i v):=by
 show (AA k l).set i (.int k v)=_
 rw[E4]
/-! ### The digest in memory -/
abbrev dgL(s sm:List Int)(n:Int):List Value:=AA .u32 s++(AA .u8 sm++.int .u64 n::(AA .u32 kM++[]))
section
variable {s sm:List Int} {n:Int}
theorem N1(h1:s.length=8)(h2:sm.length=64):(dgL s sm n).length=137:=by simp[h1,h2,HS]
theorem R9(h1:s.length=8){i:Nat}(hi:i<8):(dgL s sm n)[i]?=some (.int .u32 (s.getD i 0)):=by
 rw[List.getElem?_append_left (by simp[h1,hi]),E3 (by omega)]
theorem ZU(h1:s.length=8)(h2:sm.length=64){i:Nat}(hi:i<64):(dgL s sm n)[8+i]?=some (.int .u8 (sm.getD i 0)):=by
 rw[List.getElem?_append_right (by simp[h1]),List.getElem?_append_left (by simp[h1,h2,hi])]
 rw[show 8+i-(AA .u32 s).length=i by simp[h1],E3 (by omega)]
theorem N2(h1:s.length=8)(h2:sm.length=64):(dgL s sm n)[72]?=some (.int .u64 n):=by
 rw[List.getElem?_append_right (by simp[h1]),List.getElem?_append_right (by simp[h1,h2])]
 simp[h1,h2]
theorem ZT(h1:s.length=8)(h2:sm.length=64){i:Nat}(hi:i<64):(dgL s sm n)[73+i]?=some (.int .u32 (kM.getD i 0)):=by
 rw[List.getElem?_append_right (by simp[h1];omega),List.getElem?_append_right (by simp[h1,h2];omega)]
 rw[show 73+i-(AA .u32 s).length-(AA .u8 sm).length=i+1 by simp[h1,h2];omega,List.getElem?_cons_succ,List.append_nil,E3 (by rw[HS];omega)]
theorem AkD(h1:s.length=8){i:Nat}(hi:i<8)(v:Int):AR (dgL s sm n) i [.int .u32 v]=dgL (s.set i v) sm n:=by
 show (dgL s sm n).set i _=_
 rw[List.set_append_left _ _ (by simp[h1,hi]),E4]
theorem AkC(h1:s.length=8)(h2:sm.length=64)(v:Int):AR (dgL s sm n) 72 [.int .u64 v]=dgL s sm v:=by
 show (dgL s sm n).set 72 _=_
 rw[List.set_append_right _ _ (by simp[h1]),List.set_append_right _ _ (by simp[h1,h2])]
 simp[h1,h2]
end
section
variable {h0 h:H} {A:List Ent} {i d:Nat}
theorem AoU{Q:Int->HP}(x:Int)(k:Int)(m:Nat)(hm:bits .and .u64 (IntKind.u64.wrap k) 31=((32-m:Nat):Int))(h1:1≤m)(h2:m<32)(q:Q (FH x m) h):P6 x k Q h:=by
 unfold P6 iI
 rw[hm]
 have e:IntKind.u64.wrap (32-((32-m:Nat):Int))=(m:Int):=by rw[WI];omega
 rw[e]
 refine⟨by omega,by omega,?_⟩
 rw[Int.toNat_natCast,Int.toNat_natCast,Nat.min_eq_left (by omega),Nat.min_eq_left (by omega)]
 exact q
theorem ApQ{Q:Int->HP}(x:Int)(m:Nat)(hm:bits .and .u64 (IntKind.u64.wrap (IntKind.i64.wrap (0-(m:Int)))) 31=((32-m:Nat):Int))(h1:1≤m)(h2:m<32)(q:Q (FH x m) h):NQ x (m:Int) Q h:=by
 unfold NQ mO
 exact AoU x _ m hm h1 h2 q
end
theorem uY(a:Addr)(i j:Nat):(a.add i).add j=a.add (i+j):=by
 unfold Addr.add
 by_cases h:i=0
 ·subst h;simp
 ·by_cases h2:j=0
  ·subst h2;simp
  ·have:¬i+j=0:=by omega
   simp[h,h2];omega
theorem IK{h:H}{q:Option Addr}{l o n m:Nat}{k:IntKind}{bs:List Int}(rd:hsv h q 1 l (AA k bs))(ho:o+n≤l)(hm:m=o->n=0):hsv h (AJ q o m 1) 1 n (AA k ((bs.drop o).take n)):=by
 have hl:bs.length=l:=by have:=rd.1;simpa using this
 refine⟨by rw[A6,List.length_take,List.length_drop];omega,A5 _ _,?_⟩
 by_cases c:n=0
 ·subst c;exact Or.inl rfl
 unfold AJ
 rw[if_neg (fun y=>c (hm y))]
 obtain⟨_,_,rd⟩:=rd
 rcases rd with rd | ⟨q',rfl,g⟩
 ·have:=congrArg List.length rd
  rw[A6,List.length_nil]at this;omega
 ·refine Or.inr ⟨_,rfl,?_⟩
  intro i v hv
  have hi:i<n:=by
   have h1:i<(AA k ((bs.drop o).take n)).length:=(List.getElem?_eq_some_iff.1 hv).1
   rw[A6,List.length_take]at h1
   exact Nat.lt_of_lt_of_le h1 (Nat.min_le_left _ _)
  have e:=g (o+i) v (by
   rw[BA]at hv ⊢
   rw[List.getElem?_take_of_lt hi,List.getElem?_drop]at hv
   exact hv)
  rw[Nat.mul_one,uY]
  exact e
theorem YF(l:List Int)(j k:Nat)(v:Int):(l.set j v).getD k 0=if j=k/\k<l.length then v else l.getD k 0:=by
 rw[List.getD_eq_getElem?_getD,List.getElem?_set]
 by_cases c:j=k
 ·subst c
  by_cases d:j<l.length
  ·simp[d]
  ·simp[d]
 ·simp[c]
theorem ApN(l:List Int)(k:Nat):l.set k (l.getD k 0)=l:=by
 apply List.ext_getElem?
 intro j
 rw[List.getElem?_set]
 by_cases c:k=j
 ·subst c
  by_cases d:k<l.length
  ·simp[d,List.getD,List.getElem?_eq_getElem d]
  ·simp[d]
 ·simp[c]
theorem AbR(bs:List Int):∀t k,t≤k->(wM bs t).getD k 0=0
 | 0,k,_=>by
  show (AB 64).getD k 0=0
  rw[List.getD_eq_getElem?_getD]
  unfold AB
  rw[List.getElem?_replicate];split <;> rfl
 | t+1,k,h=>by
  show ((wM bs t).set t _).getD k 0=0
  rw[YF,if_neg (by omega)]
  exact AbR bs t k (by omega)
theorem IM{h:H}{Q:Int->HP}(x:Int)(m:Nat){mi:Int}(e:mi=(m:Int))(hm:bits .and .u64 (IntKind.u64.wrap (IntKind.i64.wrap (0-(m:Int)))) 31=((32-m:Nat):Int))(h1:1≤m)(h2:m<32)(q:Q (FH x m) h):NQ x mi Q h:=by
 subst e
 exact ApQ x m hm h1 h2 q
section
variable {h0 h:H} {A:List Ent} {i d:Nat}
theorem AbG{Q:HP}{s sm bs:List Int}{n:Int}{bp:Option Addr}{bc:Nat}(hs:Sat h0 A h)(cd:At A i (blk d (dgL s sm n)))(l1:s.length=8)(l2:sm.length=64)(hbc:64≤bc)(rd:∀h',Sat h0 A h'->hsv h' bp 1 64 (AA .u8 bs))
  (k:∀h',Sat h0 (put A i (blk d (dgL (HW s bs) sm n))) h'->Q h'):NP ⟨d,0,none⟩ bp 64 bc Q h:=by
 unfold NP mH
 try simp only[AF,Nat.zero_add,List.append_nil]
 intro wn _ hn;replace hs:=Sat.new hs hn
 intro J10 hJ10
 refine BB 16 (fun t h=>Sat h0 (blk wn (AA .u32 (wM bs t))::A) h) ?_ ?_ 0 _ (by omega) hs
 ·intro t h1 ht hs hk
  apply hJ10
  rw[AD,if_pos (by simp;omega)]
  have e4:IntKind.i64.wrap (4*(t:Int))=((4*t:Nat):Int):=by rw[AL (by omega)];push_cast;rfl
  have e8:IntKind.i64.wrap (((4*t:Nat):Int)+4)=((4*t+4:Nat):Int):=by rw[AL (by omega)];push_cast;rfl
  rw[e4,e8]
  simp only[Int.toNat_natCast,Nat.mul_one]
  refine⟨by omega,by omega,by omega,?_⟩
  rw[show 4*t+4-4*t=4 by omega]
  obtain⟨pc,hpc⟩:∃pc,pc=(bs.drop (4*t)).take 4:=⟨_,rfl⟩
  have hlen:=JI bs t
  intro J13 hJ13
  refine BB 4 (fun j h=>Sat h0 (blk wn (AA .u32 ((wM bs t).set t (FO pc j)))::A) h) ?_ ?_ 0 _ (by omega) (by
   have:(wM bs t).set t (FO pc 0)=wM bs t:=by
    have:=ApN (wM bs t) t
    rw[AbR bs t t (Nat.le_refl _)]at this
    exact this
   rw[this];exact hs)
  ·intro j h2 hj hs hk2
   apply hJ13
   rw[AD,if_pos (by simp;omega)]
   obtain⟨q,hq,g⟩:=Z8 (IK (o:=4*t) (n:=4) (m:=bc) (rd _ hs.drop) (by omega) (by omega)) (x:=j) (by omega)
   rw[←hpc]at g
   refine⟨q,hq,by omega,by omega,_,g,by omega,by omega,?_⟩
   have gw:=hs.ld (i:=0) (b:=wn) .z (E3 (k:=.u32) (l:=(wM bs t).set t (FO pc j)) (i:=t) (by simp[hlen];omega))
   rw[YF,if_pos ⟨rfl,by omega⟩]at gw
   refine⟨_,gw,by decide,by omega,by omega,?_⟩
   refine⟨Sat.can hs .z (by simp[hlen];omega),?_⟩
   intro h3 e
   replace hs:=Sat.wr hs .z e
   clear e
   rw[HQ,List.set_set]at hs
   rw[AU (by omega)]
   exact hk2 _ hs
  ·intro h2 hs
   apply hJ13
   rw[AD,if_neg (by decide),AU (by omega)]
   refine hk _ ?_
   show Sat h0 (blk wn (AA .u32 ((wM bs t).set t _))::A) h2
   rw[if_pos ht,←hpc]
   exact hs
 ·intro h1 hs
  apply hJ10
  rw[AD,if_neg (by decide)]
  clear hJ10 J10
  intro J23 hJ23
  refine BB 64 (fun t h=>16≤t/\Sat h0 (blk wn (AA .u32 (wM bs t))::A) h) ?_ ?_ 16 _ (by omega) ⟨by omega,hs⟩
  ·rintro t h2 ht ⟨ht2,hs⟩ hk
   apply hJ23
   rw[AD,if_pos (by simp;omega)]
   have hlen:=JI bs t
   have e15:IntKind.i64.wrap ((t:Int)-15)=((t-15:Nat):Int):=by rw[AL (by omega)];omega
   have e2:IntKind.i64.wrap ((t:Int)-2)=((t-2:Nat):Int):=by rw[AL (by omega)];omega
   have e16:IntKind.i64.wrap ((t:Int)-16)=((t-16:Nat):Int):=by rw[AL (by omega)];omega
   have e7:IntKind.i64.wrap ((t:Int)-7)=((t-7:Nat):Int):=by rw[AL (by omega)];omega
   rw[e15,e2,e16,e7]
   simp only[Int.toNat_natCast,Nat.mul_one]
   have g:=fun(x:Nat) (hx:x<64)=>hs.ld (i:=0) (b:=wn) .z (E3 (k:=.u32) (l:=wM bs t) (i:=x) (by omega))
   refine⟨by omega,by omega,_,g _ (by omega),by omega,by omega,_,g _ (by omega),by omega,by omega,_,g _ (by omega),by decide,by omega,by omega,_,g _ (by omega),by decide,?_⟩
   refine IM _ 7 rfl (by decide +kernel) (by decide) (by decide) ?_
   refine⟨AI (g _ (by omega)),AI (g _ (by omega)),?_⟩
   refine IM _ 18 rfl (by decide +kernel) (by decide) (by decide) ?_
   refine⟨AI (g _ (by omega)),AI (g _ (by omega)),?_⟩
   refine IM _ 17 rfl (by decide +kernel) (by decide) (by decide) ?_
   refine⟨AI (g _ (by omega)),AI (g _ (by omega)),?_⟩
   refine IM _ 19 rfl (by decide +kernel) (by decide) (by decide) ?_
   refine⟨AI (g _ (by omega)),AI (g _ (by omega)),by omega,by omega,?_⟩
   refine⟨Sat.can hs .z (by simp[hlen];omega),?_⟩
   intro h3 e
   replace hs:=Sat.wr hs .z e
   clear e
   rw[HQ]at hs
   rw[AU (by omega)]
   refine hk _ ⟨by omega,?_⟩
   show Sat h0 (blk wn (AA .u32 ((wM bs t).set t _))::A) h3
   rw[if_neg (by omega)]
   exact hs
  ·rintro h2 ⟨_,hs⟩
   apply hJ23
   rw[AD,if_neg (by decide)]
   clear hJ23 J23
   refine⟨s,l1,hs.row (i:=i+1) (.s cd) (fun x hx=>by rw[Nat.zero_add,R9 l1 (by omega),List.getElem?_eq_getElem hx];simp[List.getD,List.getElem?_eq_getElem hx]),?_⟩
   intro sn _ hn;replace hs:=Sat.new hs hn
   refine⟨Sat.can hs .z (by simp[l1,AB]),?_⟩
   intro h3 e
   replace hs:=Sat.wra hs .z e (by simp[l1,AB])
   clear e
   simp only[AG]at hs
   obtain⟨w,hw⟩:∃w,w=wM bs 64:=⟨_,rfl⟩
   have hwl:w.length=64:=by rw[hw];exact JI _ _
   rw[←hw]at hs
   intro J46 hJ46
   refine BB 64 (fun t h=>Sat h0 (blk sn (AA .u32 (rM w s t))::blk wn (AA .u32 w)::A) h) ?_ ?_ 0 _ (by omega) hs
   ·intro t h4 ht hs hk
    apply hJ46
    rw[AD,if_pos (by simp;omega)]
    obtain⟨a,b,c,dd,e,f,g,hh,hr⟩:=pU (aX w s l1 t)
    rw[hr]at hs
    simp only[Int.toNat_natCast,Nat.mul_one]
    have gk:hc h4 ⟨d,73+t,none⟩=some (.int .u32 (kM.getD t 0)):=hs.ld (i:=i+2) (.s (.s cd)) (ZT l1 l2 ht)
    have gw:hc h4 ⟨wn,t,none⟩=some (.int .u32 (w.getD t 0)):=hs.ld zs1 (E3 (by omega))
    have g0:hc h4 ⟨sn,0,none⟩=some (.int .u32 a):=hs.ld .z rfl
    have g1:hc h4 ⟨sn,1,none⟩=some (.int .u32 b):=hs.ld .z rfl
    have g2:hc h4 ⟨sn,2,none⟩=some (.int .u32 c):=hs.ld .z rfl
    have g3:hc h4 ⟨sn,3,none⟩=some (.int .u32 dd):=hs.ld .z rfl
    have g4:hc h4 ⟨sn,4,none⟩=some (.int .u32 e):=hs.ld .z rfl
    have g5:hc h4 ⟨sn,5,none⟩=some (.int .u32 f):=hs.ld .z rfl
    have g6:hc h4 ⟨sn,6,none⟩=some (.int .u32 g):=hs.ld .z rfl
    have g7:hc h4 ⟨sn,7,none⟩=some (.int .u32 hh):=hs.ld .z rfl
    refine⟨by decide,by decide,_,g7,by decide,by decide,_,g4,by decide,by decide,_,g4,by decide,by decide,_,g4,by decide,by decide,_,g4,by decide,by decide,_,g5,by decide,by decide,_,g4,by decide,by decide,_,g6,by omega,by omega,_,gk,by omega,by omega,_,gw,?_⟩
    refine IM _ 6 rfl (by decide +kernel) (by decide) (by decide) ?_
    refine⟨AI gw,AI gk,AI g6,AI g4,AI g5,AI g4,AI g4,AI g4,AI g7,?_⟩
    refine IM _ 11 rfl (by decide +kernel) (by decide) (by decide) ?_
    refine⟨AI gw,AI gk,AI g6,AI g4,AI g5,AI g4,AI g4,AI g7,?_⟩
    refine IM _ 25 rfl (by decide +kernel) (by decide) (by decide) ?_
    refine⟨AI gw,AI gk,AI g6,AI g4,AI g5,AI g4,AI g7,?_⟩
    refine⟨by decide,by decide,_,g0,by decide,by decide,_,g0,by decide,by decide,_,g0,by decide,by decide,_,g0,by decide,by decide,_,g1,by decide,by decide,_,g0,by decide,by decide,_,g2,by decide,by decide,_,g1,by decide,by decide,_,g2,?_⟩
    refine IM _ 2 rfl (by decide +kernel) (by decide) (by decide) ?_
    refine⟨AI g2,AI g1,AI g2,AI g0,AI g1,AI g0,AI g0,AI g0,?_⟩
    refine IM _ 13 rfl (by decide +kernel) (by decide) (by decide) ?_
    refine⟨AI g2,AI g1,AI g2,AI g0,AI g1,AI g0,AI g0,?_⟩
    refine IM _ 22 rfl (by decide +kernel) (by decide) (by decide) ?_
    refine⟨AI g2,AI g1,AI g2,AI g0,AI g1,AI g0,?_⟩
    refine⟨by decide,by decide,_,g0,by decide,by decide,_,g1,by decide,by decide,_,g2,by decide,by decide,_,g3,by decide,by decide,_,g4,by decide,by decide,_,g5,by decide,by decide,_,g6,?_⟩
    refine⟨Sat.can hs .z (by simp),?_⟩
    intro h5 e5
    replace hs:=Sat.wra hs .z e5 rfl
    clear e5
    simp only[AG]at hs
    rw[AU (by omega)]
    refine hk _ ?_
    show Sat h0 (blk sn (AA .u32 (cG (rM w s t) _ _))::blk wn (AA .u32 w)::A) h5
    rw[hr]
    exact hs
   ·intro h4 hs
    apply hJ46
    rw[AD,if_neg (by decide)]
    clear hJ46 J46
    obtain⟨r,hr⟩:∃r,r=rM w s 64:=⟨_,rfl⟩
    have hrl:r.length=8:=by rw[hr];exact aX _ _ l1 _
    rw[←hr]at hs
    intro J89 hJ89
    refine BB 8 (fun x h=>Sat h0 (blk sn (AA .u32 r)::blk wn (AA .u32 w)::put A i (blk d (dgL (aM s r x) sm n))) h) ?_ ?_ 0 _ (by omega) (by
     have:put A i (blk d (dgL (aM s r 0) sm n))=A:=cd.put_self
     rw[this];exact hs)
    ·intro x h5 hx hs hk
     apply hJ89
     rw[AD,if_pos (by simp;omega)]
     have cd2:=cd.put (blk d (dgL (aM s r x) sm n))
     have hal:=ZA s r l1 x
     simp only[Int.toNat_natCast,Nat.mul_one]
     refine⟨by omega,by omega,_,hs.ld (i:=i+2) (.s (.s cd2)) (R9 hal hx),by omega,by omega,_,hs.ld .z (E3 (by omega)),by omega,by omega,?_⟩
     refine⟨Sat.can hs (i:=i+2) (.s (.s cd2)) (by rw[N1 hal l2];omega),?_⟩
     intro h6 e
     replace hs:=Sat.wr hs (i:=i+2) (.s (.s cd2)) e
     clear e
     rw[AkD hal hx]at hs
     simp only[AS,CD]at hs
     rw[AU (by omega)]
     exact hk _ hs
    ·intro h5 hs
     apply hJ89
     rw[AD,if_neg (by decide)]
     refine k _ ?_
     unfold HW
     rw[←hw,←hr]
     exact hs.drop.drop
end
def GA(ms:List Int)(i:Nat):List Int:=(ms.drop (64*i)).take 64
def stM(ms:List Int):Nat->List Int
 | 0=>sM
 | k+1=>HW (stM ms k) (GA ms k)
theorem YK(ms:List Int)(k:Nat):(stM ms k).length=8:=by
 induction k with
 | zero=>rfl
 | succ k ih=>exact zJ ih
theorem Aj5{ms xs:List Int}{i:Nat}(h:64*(i+1)≤ms.length):GA (ms++xs) i=GA ms i:=by
 unfold GA
 rw[List.drop_append_of_le_length (by omega),List.take_append_of_le_length (by rw[List.length_drop];omega)]
theorem Ab8{ms xs:List Int}:∀{k:Nat},64*k≤ms.length->stM (ms++xs) k=stM ms k
 | 0,_=>rfl
 | k+1,h=>by
  show HW (stM (ms++xs) k) (GA (ms++xs) k)=HW (stM ms k) (GA ms k)
  rw[Ab8 (k:=k) (by omega),Aj5 h]
structure DgOk (ms s sm:List Int) (n:Int):Prop where
 s:s=stM ms (ms.length / 64)
 n:n=(ms.length:Int)
 l:sm.length=64
 m:sm.take (ms.length % 64)=ms.drop (64*(ms.length / 64))
theorem DgOk.sl{ms s sm:List Int}{n:Int}(D:DgOk ms s sm n):s.length=8:=by rw[D.s];exact YK _ _
section
variable {s sm:List Int} {n:Int}
theorem v7(h1:s.length=8)(h2:sm.length=64){o:Nat}{xs:List Int}(hx:o+xs.length≤64):AR (dgL s sm n) (8+o) (AA .u8 xs)=dgL s (sm.take o++xs++sm.drop (o+xs.length)) n:=by
 have hl2:(sm.take o++xs++sm.drop (o+xs.length)).length=64:=by simp[h2];omega
 apply List.ext_getElem?
 intro j
 rw[YJ,A6,N1 h1 h2]
 by_cases c1:j<8
 ·rw[if_neg (by omega),R9 h1 c1,R9 h1 c1]
 by_cases c2:j<72
 ·obtain⟨y,rfl⟩:∃y,j=8+y:=⟨j-8,by omega⟩
  rw[ZU h1 h2 (by omega),ZU h1 hl2 (by omega)]
  by_cases c3:o≤y/\y<o+xs.length
  ·rw[if_pos (by omega),show 8+y-(8+o)=y-o by omega,E3 (by omega)]
   congr 2
   rw[List.getD_eq_getElem?_getD,List.getD_eq_getElem?_getD,List.getElem?_append_left (by simp[h2];omega),List.getElem?_append_right (by simp[h2];omega)]
   congr 2
   simp[h2];omega
  ·rw[if_neg (by omega)]
   congr 2
   rw[List.getD_eq_getElem?_getD,List.getD_eq_getElem?_getD]
   by_cases c4:y<o
   ·rw[List.append_assoc,List.getElem?_append_left (by simp[h2];omega),List.getElem?_take_of_lt c4]
   ·rw[List.getElem?_append_right (by simp[h2];omega),List.getElem?_drop]
    congr 2
    simp[h2];omega
 by_cases c3:j=72
 ·subst c3
  rw[if_neg (by omega),N2 h1 h2,N2 h1 hl2]
 by_cases c4:j<137
 ·obtain⟨y,rfl⟩:∃y,j=73+y:=⟨j-73,by omega⟩
  rw[if_neg (by omega),ZT h1 h2 (by omega),ZT h1 hl2 (by omega)]
 ·rw[if_neg (by omega),List.getElem?_eq_none (by rw[N1 h1 h2];omega),List.getElem?_eq_none (by rw[N1 h1 hl2];omega)]
end
section
variable {h0 h:H} {A:List Ent} {i d:Nat}
theorem AkE{s sm:List Int}{n:Int}(hs:Sat h0 A h)(cd:At A i (blk d (dgL s sm n)))(h1:s.length=8)(h2:sm.length=64):hsv h (some ⟨d,8,none⟩) 1 64 (AA .u8 sm):=by
 refine⟨by simp[h2],A5 _ _,Or.inr ⟨_,rfl,?_⟩⟩
 refine hs.cs1 cd ?_
 intro x hx
 rw[A6,h2]at hx
 rw[ZU h1 h2 hx,E3 (by omega)]
theorem AbU{Q:HP}{T sm:List Int}{N:Int}{j:Nat}{o:Option Addr}{l c:Nat}(hs:Sat h0 (put A i (blk d (dgL (stM T j) sm N))) h)(cd0:∃e,At A i e)(hN:N=(T.length:Int))(hl:64*j+l=T.length)(hc:l≤c)(h2:sm.length=64)
  (rd:∀s' sm' h',Sat h0 (put A i (blk d (dgL s' sm' N))) h'->hsv h' o 1 l (AA .u8 (T.drop (64*j))))
  (k:∀s' sm' h',DgOk T s' sm' N->Sat h0 (put A i (blk d (dgL s' sm' N))) h'->Q h'):
  ∀(J16:List SV->HP),(∀(o17:Option Addr) (n18 n19:Nat) (h20:H),(if leI 64 (n18:Int)=true then (0:Int)≤64/\64≤(n19:Int)/\NP ⟨d,0,none⟩ (AJ o17 0 n19 1) 64 (n19-0)
   (fun h21=>(0:Int)≤64/\64≤(n18:Int)/\J16 [.dv (.one (.slice (AJ o17 64 n19 1) (n18-64) (n19-64)))] h21) h20
   else ∃l22:List Value,hsv h20 o17 1 (n18.min 64) l22/\(l22=[]∨∃p23:Addr,AJ (some ⟨d,8,none⟩) 0 64 1=some p23/\AC h20 p23 (n18.min 64*1))/\∀h24:H,h24=E1 h20 (AJ (some ⟨d,8,none⟩) 0 64 1) l22->Q h24)->J16 [.dv (.one (.slice o17 n18 n19))] h20)->J16 [.dv (.one (.slice o l c))] h:=by
 intro J hJ
 obtain⟨e0,cd0⟩:=cd0
 induction hn:l / 64 generalizing j o l c h sm with
 | zero=>
  apply hJ
  have hl64:l<64:=by omega
  rw[A0,if_neg (by rw[decide_eq_true_iff];omega)]
  have cd:=cd0.put (blk d (dgL (stM T j) sm N))
  have hsl:=YK T j
  have R:=rd _ _ _ hs
  have hmin:l.min 64=l:=Nat.min_eq_left (by omega)
  rw[hmin]
  have EH:AJ (some ⟨d,8,none⟩) 0 64 1=some ⟨d,8,none⟩:=by unfold AJ;simp
  rw[EH]
  have hxl:(T.drop (64*j)).length=l:=by rw[List.length_drop];omega
  refine⟨_,R,Or.inr ⟨_,rfl,Sat.can hs cd (by rw[N1 hsl h2];omega)⟩,?_⟩
  intro h1 e
  replace hs:=Sat.wr hs cd e
  clear e
  have sp:=v7 (n:=N) (o:=0) (xs:=T.drop (64*j)) hsl h2 (by omega)
  rw[show 8+0=8 from rfl]at sp
  rw[sp]at hs
  simp only[CD,List.take_zero,List.nil_append,Nat.zero_add]at hs
  refine k _ _ _ ⟨?_,hN,by simp[h2];omega,?_⟩ hs
  ·rw[show T.length / 64=j by omega]
  ·rw[show T.length % 64=l by omega,show T.length / 64=j by omega,List.take_append_of_le_length (by omega),List.take_of_length_le (by omega)]
 | succ m ih=>
  apply hJ
  rw[A0,if_pos (by rw[decide_eq_true_iff];omega)]
  refine⟨by decide,by omega,?_⟩
  have cd:=cd0.put (blk d (dgL (stM T j) sm N))
  have hsl:=YK T j
  refine AbG (bs:=GA T j) hs cd hsl h2 (by omega) ?_ ?_
  ·intro h' hs'
   have:=IK (o:=0) (n:=64) (m:=c) (rd _ _ _ hs') (by omega) (by omega)
   rw[List.drop_zero]at this
   exact this
  ·intro h1 hs
   rw[CD]at hs
   refine⟨by decide,by omega,?_⟩
   refine ih (j:=j+1) (l:=l-64) hs (by omega) (by omega) h2 ?_ (by omega)
   intro s' sm' h' hs'
   have:=IK (o:=64) (n:=l-64) (m:=c) (rd _ _ _ hs') (by omega) (by omega)
   rw[List.drop_drop,List.take_of_length_le (by rw[List.length_drop];omega),show 64*j+64=64*(j+1) by omega]at this
   exact this
theorem WD{Q:HP}{ms xs s sm:List Int}{n:Int}{bp:Option Addr}{bl bc:Nat}(hs:Sat h0 A h)(cd:At A i (blk d (dgL s sm n)))(D:DgOk ms s sm n)(hml:ms.length+xs.length<2^61)(hbc:bl≤bc)
  (rd:∀s' sm' n' h',Sat h0 (put A i (blk d (dgL s' sm' n'))) h'->hsv h' bp 1 bl (AA .u8 xs))
  (k:∀s' sm' n' h',DgOk (ms++xs) s' sm' n'->Sat h0 (put A i (blk d (dgL s' sm' n'))) h'->Q h'):E7 ⟨d,0,none⟩ bp bl bc Q h:=by
 unfold E7 mG
 try simp only[AF,Nat.zero_add,List.append_nil]
 have l1:=D.sl
 have l2:=D.l
 have hn:=D.n
 have hxl:xs.length=bl:=by
  have:=(rd s sm n h (by rw[cd.put_self];exact hs)).1
  simpa using this
 refine⟨_,hs.ld cd (N2 l1 l2),by decide,_,hs.ld cd (N2 l1 l2),?_⟩
 refine⟨Sat.can hs cd (by rw[N1 l1 l2];omega),?_⟩
 intro h1 e
 replace hs:=Sat.wr hs cd e
 clear e
 rw[AkC l1 l2]at hs
 have eN:IntKind.u64.wrap (n+IntKind.u64.wrap (bl:Int))=((ms++xs).length:Int):=by
  rw[WI,WI,List.length_append,hn];push_cast;omega
 rw[eN]at hs
 obtain⟨hv,hhv⟩:∃hv,hv=ms.length % 64:=⟨_,rfl⟩
 have eH:IntKind.i64.wrap (n.tmod 64)=(hv:Int):=by
  have:n.tmod 64=(hv:Int):=by
   rw[hn,hhv,Int.tmod_eq_emod_of_nonneg (by omega)];omega
  rw[this,AL (by omega)]
 rw[eH]
 obtain⟨T,hT⟩:∃T,T=ms++xs:=⟨_,rfl⟩
 have hTl:T.length=ms.length+bl:=by rw[hT,List.length_append,hxl]
 rw[←hT]at hs k
 have hmod:=Nat.div_add_mod ms.length 64
 have est:s=stM T (ms.length / 64):=by rw[hT,Ab8 (by omega)];exact D.s
 have hdm:ms.drop (64*(ms.length / 64))=sm.take hv:=by rw[hhv];exact D.m.symm
 by_cases g:0<hv
 ·rw[AD,if_pos (by simp;exact g)]
  refine⟨by omega,by omega,?_⟩
  simp only[Int.toNat_natCast]
  obtain⟨m,hm⟩:∃m,m=bl.min (64-hv):=⟨_,rfl⟩
  have hm1:m≤bl:=by rw[hm];exact Nat.min_le_left _ _
  have hm2:m≤64-hv:=by rw[hm];exact Nat.min_le_right _ _
  have hm3:m=bl∨m=64-hv:=by rw[hm];rcases Nat.le_total bl (64-hv) with z | z;exact Or.inl (Nat.min_eq_left z);exact Or.inr (Nat.min_eq_right z)
  rw[←hm]
  have cd1:=cd.put (blk d (dgL s sm (T.length:Int)))
  have sub1:AJ (some ⟨d,8,none⟩) hv 64 1=some ⟨d,8+hv,none⟩:=by
   unfold AJ
   rw[if_neg (by omega)];simp
  rw[sub1]
  have R:=rd _ _ _ _ hs
  have R2:=IK (o:=0) (n:=m) (m:=m+1) R (by omega) (by omega)
  have EH:AJ bp 0 (m+1) 1=bp:=by
   unfold AJ
   rw[if_neg (by omega)]
   cases bp with
   | none=>rfl
   | some q=>simp[add_zero]
  rw[EH,List.drop_zero]at R2
  have hxt:(xs.take m).length=m:=by rw[List.length_take];omega
  refine⟨_,R2,Or.inr ⟨_,rfl,Sat.can hs cd1 (by rw[N1 l1 l2];omega)⟩,?_⟩
  intro h2 e
  replace hs:=Sat.wr hs cd1 e
  clear e
  rw[v7 l1 l2 (by omega)]at hs
  rw[CD,hxt]at hs
  refine⟨by omega,by omega,?_⟩
  rw[AL (n:=(hv:Int)+(m:Int)) (by omega),AD]
  obtain⟨sm1,hsm1⟩:∃sm1,sm1=sm.take hv++xs.take m++sm.drop (hv+m):=⟨_,rfl⟩
  rw[←hsm1]at hs
  have hl1:sm1.length=64:=by rw[hsm1];simp[l2];omega
  have hst:(sm.take hv).length=hv:=by rw[List.length_take];omega
  by_cases gs:hv+m<64
  ·rw[if_pos (by rw[decide_eq_true_iff];omega)]
   have hmb:m=bl:=by omega
   refine k _ _ _ _ ⟨?_,rfl,hl1,?_⟩ hs
   ·rw[est,show T.length / 64=ms.length / 64 by omega]
   ·rw[show T.length % 64=hv+m by omega,show T.length / 64=ms.length / 64 by omega,hsm1,List.take_append_of_le_length (by simp[l2];omega),List.take_of_length_le (by simp[l2];omega)]
    rw[hT,List.drop_append_of_le_length (by omega),hdm,List.take_of_length_le (l:=xs) (i:=m) (by omega)]
  ·rw[if_neg (by rw[decide_eq_true_iff];omega)]
   have hm64:hv+m=64:=by omega
   have cd2:=cd.put (blk d (dgL s sm1 (T.length:Int)))
   have AbA:AJ (some ⟨d,8,none⟩) 0 64 1=some ⟨d,8,none⟩:=by unfold AJ;simp
   rw[AbA]
   refine AbG (bs:=sm1) hs cd2 l1 hl1 (by omega) (fun h' hs'=>AkE hs' cd2 l1 hl1) ?_
   intro h3 hs
   rw[CD]at hs
   have hb:sm1=GA T (ms.length / 64):=by
    unfold GA
    rw[hT,List.drop_append_of_le_length (by omega),hdm,hsm1,List.drop_of_length_le (by omega),List.append_nil,List.take_append,List.take_of_length_le (l:=sm.take hv) (i:=64) (by omega),hst,show 64-hv=m by omega]
   rw[est,show HW (stM T (ms.length / 64)) sm1=stM T (ms.length / 64+1) by rw[hb];rfl]at hs
   refine AbU (T:=T) (j:=ms.length / 64+1) (l:=bl-m) (c:=bc-m) hs ⟨_,cd⟩ rfl (by omega) (by omega) hl1 ?_ (fun s' sm' h' D' hs'=>k s' sm' _ h' D' hs')
   intro s' sm' h' hs'
   have:=IK (o:=m) (n:=bl-m) (m:=bc) (rd _ _ _ _ hs') (by omega) (by omega)
   rw[List.take_of_length_le (by rw[List.length_drop];omega)]at this
   have hd:T.drop (64*(ms.length / 64+1))=xs.drop m:=by
    rw[hT,List.drop_append,List.drop_of_length_le (by omega),List.nil_append,show 64*(ms.length / 64+1)-ms.length=m by omega]
   rw[hd]
   exact this
 ·rw[AD,if_neg (by simp;omega)]
  have hv0:hv=0:=by omega
  rw[est]at hs
  refine AbU (T:=T) (j:=ms.length / 64) (l:=bl) (c:=bc) hs ⟨_,cd⟩ rfl (by omega) hbc l2 ?_ (fun s' sm' h' D' hs'=>k s' sm' _ h' D' hs')
  intro s' sm' h' hs'
  have hd:T.drop (64*(ms.length / 64))=xs:=by
   rw[hT,List.drop_append,List.drop_of_length_le (by omega),List.nil_append,show 64*(ms.length / 64)-ms.length=0 by omega,List.drop_zero]
  rw[hd]
  exact rd _ _ _ _ hs'
end
def zM(n:Nat):Nat:=(119-n % 64) % 64
def LE(n i:Nat):Int:=IntKind.u8.wrap ((IntKind.u64.wrap (8*(n:Int))).fdiv (2^min (56-8*i) 64))
def GB(n:Nat):Nat->List Int
 | 0=>(AB 73).set 0 128
 | i+1=>(GB n i).set (1+zM n+i) (LE n i)
def NB(n:Nat):List Int:=(GB n 8).take (9+zM n)
def X8(s:List Int)(t:Nat):Int:=IntKind.u8.wrap ((s.getD (t / 4) 0).fdiv (2^min (24-8*(t % 4)) 32))
def oM(s:List Int):Nat->List Int
 | 0=>AB 32
 | t+1=>(oM s t).set t (X8 s t)
def EA(ms:List Int):List Int:=ms++NB ms.length
def D3(ms:List Int):List Int:=oM (stM (EA ms) ((EA ms).length / 64)) 32
theorem ZW(n i:Nat):(GB n i).length=73:=by
 induction i with
 | zero=>simp[GB,AB]
 | succ i ih=>simp[GB,ih]
theorem SJ(s:List Int)(t:Nat):(oM s t).length=32:=by
 induction t with
 | zero=>simp[oM,AB]
 | succ t ih=>simp[oM,ih]
theorem CQ(ms:List Int):(D3 ms).length=32:=SJ _ _
theorem WJ(n:Nat):zM n<64:=Nat.mod_lt _ (by decide)
theorem cK(n:Nat):(NB n).length=9+zM n:=by
 have:=WJ n
 unfold NB
 rw[List.length_take,ZW];omega
theorem o4:DgOk [] sM (AB 64) 0:=⟨rfl,rfl,by simp[AB],rfl⟩
section
variable {h0 h:H} {A:List Ent} {i d:Nat}
theorem ZM{b:Nat}{k:IntKind}{ms:List Int}(hs:Sat h0 A h)(m:At A i (blk b (AA k ms))){n:Nat}(hn:n≤ms.length):hsv h (some ⟨b,0,none⟩) 1 n (AA k (ms.take n)):=by
 refine⟨by rw[A6,List.length_take];omega,A5 _ _,Or.inr ⟨_,rfl,?_⟩⟩
 refine hs.cs1 m ?_
 intro x hx
 rw[A6,List.length_take]at hx
 rw[Nat.zero_add,BA,BA,List.getElem?_take_of_lt (by omega)]
theorem Z2{l:List Int}{k:IntKind}{x:Nat}(hx:x<l.length):l[x]?.map (Value.int k)=some (.int k (l.getD x 0)):=by
 rw[List.getElem?_eq_getElem hx];simp[List.getD,List.getElem?_eq_getElem hx]
theorem Aq1{Q:List Int->HP}(hs:Sat h0 A h)(k:∀h',Sat h0 A h'->Q sM h'):RO Q h:=by
 unfold RO mN
 intro b _ hn;replace hs:=Sat.new hs hn
 refine⟨Sat.can hs .z (by simp[AB]),?_⟩
 intro h2 e
 replace hs:=Sat.wra hs .z e (by simp[AB])
 clear e
 simp only[AG]at hs
 exact⟨sM,rfl,hs.row0 .z,k _ hs.drop⟩
theorem AoV{Q:List Int->HP}(hs:Sat h0 A h)(k:∀h',Sat h0 A h'->Q kM h'):RN Q h:=by
 unfold RN mM
 intro b _ hn;replace hs:=Sat.new hs hn
 refine⟨Sat.can hs .z (by simp[AB]),?_⟩
 intro h2 e
 replace hs:=Sat.wra hs .z e (by simp[AB])
 clear e
 simp only[AG]at hs
 exact⟨kM,rfl,hs.row0 .z,k _ hs.drop⟩
theorem nG{Q:Option Addr->HP}(hs:Sat h0 A h)(k:∀d h',Sat h0 (blk d (dgL sM (AB 64) 0)::A) h'->Q (some ⟨d,0,none⟩) h'):HI Q h:=by
 unfold HI mJ
 refine Aq1 hs ?_
 intro h1 hs
 refine AoV hs ?_
 intro h2 hs
 intro d _ hn;replace hs:=Sat.new hs hn
 exact k _ _ hs
theorem ApP{Q:Option Addr->HP}{s sm:List Int}{n:Int}(hs:Sat h0 A h)(cd:At A i (blk d (dgL s sm n)))(l1:s.length=8)(l2:sm.length=64)
  (k:∀c h',Sat h0 (blk c (dgL s sm n)::A) h'->Q (some ⟨c,0,none⟩) h'):RL ⟨d,0,none⟩ Q h:=by
 unfold RL mD
 try simp only[AF,Nat.zero_add]
 refine⟨s,l1,hs.row cd (fun x hx=>by rw[Nat.zero_add,R9 l1 (by omega),Z2 hx]),sm,l2,hs.row cd (fun x hx=>by rw[ZU l1 l2 (by omega),Z2 hx]),n,hs.ld cd (N2 l1 l2),kM,HS,hs.row cd (fun x hx=>by rw[ZT l1 l2 (by rw[HS]at hx;exact hx),Z2 hx]),?_⟩
 intro c _ hn;replace hs:=Sat.new hs hn
 refine⟨Sat.can hs .z (by simp[AB,l1,l2,HS]),?_⟩
 intro h2 e
 replace hs:=Sat.wra hs .z e (by simp[AB,l1,l2,HS])
 clear e
 simp only[AG]at hs
 exact k _ _ hs
theorem oC{Q:List Int->HP}{ms s sm:List Int}{n:Int}(hs:Sat h0 A h)(cd:At A i (blk d (dgL s sm n)))(D:DgOk ms s sm n)(hml:ms.length<2^60)(k:∀h',Sat h0 A h'->Q (D3 ms) h'):K0 ⟨d,0,none⟩ Q h:=by
 unfold K0 mF
 try simp only[AF,Nat.zero_add,List.append_nil]
 have l1:=D.sl
 have l2:=D.l
 have hn:=D.n
 have hz:=WJ ms.length
 intro ob _ hn5;replace hs:=Sat.new hs hn5;clear hn5
 refine ApP hs cd.s l1 l2 ?_
 intro c h1 hs
 intro eb _ hn10;replace hs:=Sat.new hs hn10;clear hn10
 refine⟨by decide,by decide,?_⟩
 refine⟨Sat.can hs .z (by simp[AB]),?_⟩
 intro h2 e
 replace hs:=Sat.wr hs .z e
 clear e
 rw[HQ]at hs
 simp only[AG]at hs
 replace hs:Sat h0 (blk eb (AA .u8 (GB ms.length 0))::blk c (dgL s sm n)::blk ob (AA .u8 (AB 32))::A) h2:=hs
 refine⟨_,hs.ld cd.s.s.s (N2 l1 l2),by decide,by decide,?_⟩
 have e1:n.tmod 64=((ms.length % 64:Nat):Int):=by rw[hn,Int.tmod_eq_emod_of_nonneg (by omega)];omega
 have e2:(IntKind.i64.wrap (119-IntKind.i64.wrap (n.tmod 64))).tmod 64=(zM ms.length:Int):=by
  rw[e1,AL (n:=((ms.length % 64:Nat):Int)) (by omega),AL (by omega)]
  unfold zM
  rw[Int.tmod_eq_emod_of_nonneg (by omega)];omega
 rw[e2,AL (n:=1+(zM ms.length:Int)) (by omega)]
 intro J16 hJ16
 refine BB 8 (fun t h=>Sat h0 (blk eb (AA .u8 (GB ms.length t))::blk c (dgL s sm n)::blk ob (AA .u8 (AB 32))::A) h) ?_ ?_ 0 _ (by omega) hs
 ·intro t h3 ht hs hk
  apply hJ16
  rw[AD,if_pos (by simp;omega)]
  have hel:=ZW ms.length t
  have e3:IntKind.i64.wrap (56-IntKind.i64.wrap (8*(t:Int)))=((56-8*t:Nat):Int):=by rw[AL (n:=8*(t:Int)) (by omega),AL (by omega)];omega
  have e4:IntKind.i64.wrap (1+(zM ms.length:Int)+(t:Int))=((1+zM ms.length+t:Nat):Int):=by rw[AL (by omega)];push_cast;rfl
  rw[e3,e4]
  simp only[Int.toNat_natCast,Nat.mul_one]
  refine⟨_,hs.ld cd.s.s.s (N2 l1 l2),by omega,by omega,by omega,?_⟩
  refine⟨Sat.can hs .z (by simp[hel];omega),?_⟩
  intro h4 e
  replace hs:=Sat.wr hs .z e
  clear e
  rw[HQ]at hs
  simp only[AG]at hs
  rw[AU (by omega)]
  refine hk _ ?_
  rw[hn]at hs ⊢
  exact hs
 ·intro h3 hs
  apply hJ16
  rw[AD,if_neg (by decide)]
  clear hJ16 J16
  have hel:=ZW ms.length 8
  have e4:IntKind.i64.wrap (1+(zM ms.length:Int)+8)=((9+zM ms.length:Nat):Int):=by rw[AL (by omega)];push_cast;omega
  rw[e4]
  simp only[Int.toNat_natCast,Nat.mul_one]
  have EH:AJ (some ⟨eb,0,none⟩) 0 73 1=some ⟨eb,0,none⟩:=by unfold AJ;simp
  rw[EH,Nat.sub_zero]
  refine⟨by omega,by omega,_,rfl,?_⟩
  have htl:=cK ms.length
  refine WD (xs:=NB ms.length) hs zs1 D (by omega) (by omega) ?_ ?_
  ·intro s' sm' n' h' hs'
   simp only[AS,AG]at hs'
   exact ZM hs' .z (by omega)
  intro s' sm' n' h4 D' hs
  simp only[AS,AG]at hs
  intro hb _ hn24;replace hs:=Sat.new hs hn24;clear hn24
  refine⟨_,rfl,s',D'.sl,hs.row zs2 (fun x hx=>by rw[Nat.zero_add,R9 D'.sl (by have:=D'.sl;omega),Z2 hx]),?_⟩
  have hs8:=D'.sl
  have hst:s'=stM (EA ms) ((EA ms).length / 64):=D'.s
  intro J29 hJ29
  refine BB 8 (fun t h=>Sat h0 (blk hb (AA .u8 (oM s' (4*t)))::blk eb (AA .u8 (GB ms.length 8))::blk c (dgL s' sm' n')::blk ob (AA .u8 (AB 32))::A) h) ?_ ?_ 0 _ (by omega) hs
  ·intro t h5 ht hs hk
   apply hJ29
   rw[AD,if_pos (by simp;omega)]
   refine⟨by omega,by omega,?_⟩
   simp only[Int.toNat_natCast]
   intro J32 hJ32
   refine BB 4 (fun x h=>Sat h0 (blk hb (AA .u8 (oM s' (4*t+x)))::blk eb (AA .u8 (GB ms.length 8))::blk c (dgL s' sm' n')::blk ob (AA .u8 (AB 32))::A) h) ?_ ?_ 0 _ (by omega) hs
   ·intro x h6 hx hs hk2
    apply hJ32
    rw[AD,if_pos (by simp;omega)]
    have hol:=SJ s' (4*t+x)
    have e5:IntKind.i64.wrap (24-IntKind.i64.wrap (8*(x:Int)))=((24-8*x:Nat):Int):=by rw[AL (n:=8*(x:Int)) (by omega),AL (by omega)];omega
    have e6:IntKind.i64.wrap (IntKind.i64.wrap (4*(t:Int))+(x:Int))=((4*t+x:Nat):Int):=by rw[AL (n:=4*(t:Int)) (by omega),AL (by omega)];push_cast;rfl
    rw[e5,e6]
    simp only[Int.toNat_natCast,Nat.mul_one]
    refine⟨by omega,by omega,by omega,?_⟩
    refine⟨Sat.can hs .z (by simp[hol];omega),?_⟩
    intro h7 e
    replace hs:=Sat.wr hs .z e
    clear e
    rw[HQ]at hs
    simp only[AG]at hs
    rw[AU (by omega)]
    refine hk2 _ ?_
    have eo:X8 s' (4*t+x)=IntKind.u8.wrap ((s'.getD t 0).fdiv (2^min (24-8*x) 32)):=by
     unfold X8
     rw[show (4*t+x) / 4=t by omega,show (4*t+x) % 4=x by omega]
    rw[←eo]at hs
    exact hs
   ·intro h6 hs
    apply hJ32
    rw[AD,if_neg (by decide),AU (by omega)]
    exact hk _ hs
  ·intro h5 hs
   apply hJ29
   rw[AD,if_neg (by decide)]
   refine⟨_,SJ _ _,hs.row0 .z,?_⟩
   refine⟨Sat.can hs zs3 (by simp[AB]),?_⟩
   intro h6 e
   replace hs:=Sat.wra hs zs3 e (by simp[AB,SJ])
   clear e
   simp only[AS,AG]at hs
   refine⟨_,SJ _ _,hs.row0 zs3,?_⟩
   rw[hst]
   exact k _ hs.drop.drop.drop.drop
theorem AiE{Q:List Int->HP}{bs:List Int}{bp:Option Addr}{bl bc:Nat}(hs:Sat h0 A h)(hbc:bl≤bc)(hbl:bl<2^60)(rd:∀h',Sat h0 A h'->hsv h' bp 1 bl (AA .u8 bs))(k:∀h',Sat h0 A h'->Q (D3 bs) h'):RM bp bl bc Q h:=by
 unfold RM mL
 simp only[List.append_nil]
 have hxl:bs.length=bl:=by have:=(rd _ hs).1;simpa using this
 intro ob _ hn;replace hs:=Sat.new hs hn
 refine nG hs ?_
 intro d h1 hs
 refine⟨_,rfl,?_⟩
 refine WD (xs:=bs) hs .z o4 (by simp;omega) hbc (fun s' sm' n' h' hs'=>rd _ hs'.drop.drop) ?_
 intro s' sm' n' h2 D hs
 simp only[AG]at hs
 refine⟨_,rfl,?_⟩
 refine oC hs .z D (by simp;omega) ?_
 intro h3 hs
 rw[List.nil_append]
 refine⟨Sat.can hs zs1 (by simp[AB,CQ]),?_⟩
 intro h4 e
 replace hs:=Sat.wra hs zs1 e (by simp[AB,CQ])
 clear e
 simp only[AS,AG]at hs
 exact⟨_,CQ _,hs.row0 zs1,k _ hs.drop.drop⟩
end
def EP(key:List Int):List Int:=if 64<key.length then D3 key else key
def kbM(key:List Int):List Int:=EP key++AB (64-(EP key).length)
def xM(kb:List Int)(x:Int):Nat->List Int
 | 0=>AB 64
 | t+1=>(xM kb x t).set t (bits .xor .u8 (kb.getD t 0) x)
def OB(key:List Int):List Int:=xM (kbM key) 54 64
def JE(key:List Int):List Int:=xM (kbM key) 92 64
def BI(key b:List Int):List Int:=D3 (JE key++D3 (OB key++b))
theorem IP(kb:List Int)(x:Int)(t:Nat):(xM kb x t).length=64:=by
 induction t with
 | zero=>simp[xM,AB]
 | succ t ih=>simp[xM,ih]
theorem yL(key:List Int):(EP key).length≤64:=by
 unfold EP
 split
 ·rw[CQ];omega
 ·omega
theorem yI(key:List Int):(kbM key).length=64:=by
 have:=yL key
 unfold kbM
 simp[AB];omega
theorem FD(key b:List Int):(BI key b).length=32:=CQ _
theorem ApV{k:IntKind}{l xs:List Int}{o:Nat}(h:o+xs.length≤l.length):AR (AA k l) o (AA k xs)=AA k (l.take o++xs++l.drop (o+xs.length)):=by
 apply List.ext_getElem?
 intro j
 rw[YJ,A6,A6]
 by_cases c:o≤j/\j<o+xs.length/\j<l.length
 ·rw[if_pos c,BA,BA,List.getElem?_append_left (by simp;omega),List.getElem?_append_right (by simp;omega)]
  congr 2
  simp;omega
 ·rw[if_neg c,BA,BA]
  congr 1
  by_cases c2:j<o
  ·rw[List.append_assoc,List.getElem?_append_left (by simp;omega),List.getElem?_take_of_lt c2]
  ·by_cases c3:j<l.length
   ·rw[List.getElem?_append_right (by simp;omega),List.getElem?_drop]
    congr 1
    simp;omega
   ·rw[List.getElem?_eq_none (by omega),List.getElem?_eq_none (by simp;omega)]
section
variable {h0 h:H} {A:List Ent} {i d m:Nat}
abbrev yW(d:Nat)(key:List Int):List Value:=.pointer (some ⟨d,0,none⟩)::AA .u8 (JE key)
theorem Aj6{b:Nat}{k:IntKind}{pre:List Value}{ms:List Int}(hs:Sat h0 A h)(m:At A i (blk b (pre++AA k ms))):hsv h (some ⟨b,pre.length,none⟩) 1 ms.length (AA k ms):=by
 refine⟨by simp,A5 _ _,Or.inr ⟨_,rfl,?_⟩⟩
 refine hs.cs1 m ?_
 intro x hx
 rw[List.getElem?_append_right (by omega)]
 congr 1;omega
theorem AeF{Q:Option Addr->HP}{key:List Int}{kp:Option Addr}{kl kc:Nat}(hs:Sat h0 A h)(hkc:kl≤kc)(hkl:kl<2^60)(rd:∀h',Sat h0 A h'->hsv h' kp 1 kl (AA .u8 key))
  (k:∀m d s sm n h',DgOk (OB key) s sm n->Sat h0 (blk d (dgL s sm n)::blk m (yW d key)::A) h'->Q (some ⟨m,0,none⟩) h'):P3 kp kl kc Q h:=by
 unfold P3 iE
 try simp only[AF,Nat.zero_add,List.append_nil]
 have hxl:key.length=kl:=by have:=(rd _ hs).1;simpa using this
 intro kb _ hn;replace hs:=Sat.new hs hn
 intro J11 hJ11
 -- the block key
 have way:∀(p:Option Addr) (l c:Nat) h',Sat h0 (blk kb (AA .u8 (AB 64))::A) h'->hsv h' p 1 l (AA .u8 (EP key))->J11 [.dv (.one (.slice p l c))] h':=by
  intro p l c h2 hs rd2
  have hl2:(EP key).length=l:=by have:=rd2.1;simpa using this
  have hk64:=yL key
  apply hJ11
  have EH:∀x,AJ (some ⟨x,0,none⟩) 0 64 1=some ⟨x,0,none⟩:=by intro x;unfold AJ;simp
  rw[show l.min 64=l from Nat.min_eq_left (by omega),EH]
  refine⟨_,rd2,Or.inr ⟨_,rfl,Sat.can hs .z (by simp[AB];omega)⟩,?_⟩
  intro h3 e
  replace hs:=Sat.wr hs .z e
  clear e
  rw[ApV (by simp[AB];omega)]at hs
  have ekb:(AB 64).take 0++EP key++(AB 64).drop (0+(EP key).length)=kbM key:=by
   unfold kbM
   rw[List.take_zero,List.nil_append,Nat.zero_add]
   unfold AB
   rw[List.drop_replicate]
  rw[ekb]at hs
  simp only[AG]at hs
  refine nG hs ?_
  intro d h4 hs
  intro m _ hn;replace hs:=Sat.new hs hn
  intro ib _ hn;replace hs:=Sat.new hs hn
  have kl64:=yI key
  refine⟨_,kl64,hs.row0 zs3,?_⟩
  intro J29 hJ29
  refine BB 64 (fun t h=>Sat h0 (blk ib (AA .u8 (xM (kbM key) 54 t))::blk m (.pointer (some ⟨d,0,none⟩)::AA .u8 (xM (kbM key) 92 t))::blk d (dgL sM (AB 64) 0)::blk kb (AA .u8 (kbM key))::A) h) ?_ ?_ 0 _ (by omega) hs
  ·intro t h5 ht hs hk
   apply hJ29
   rw[AD,if_pos (by simp;omega)]
   have x1:=IP (kbM key) 54 t
   have x2:=IP (kbM key) 92 t
   simp only[Int.toNat_natCast,Nat.mul_one]
   refine⟨by omega,by omega,by omega,by omega,?_⟩
   refine⟨Sat.can hs .z (by simp[x1];omega),?_⟩
   intro h6 e
   replace hs:=Sat.wr hs .z e
   clear e
   rw[HQ]at hs
   simp only[AG]at hs
   refine⟨by omega,by omega,?_⟩
   refine⟨Sat.can hs zs1 (by simp[x2];omega),?_⟩
   intro h7 e
   replace hs:=Sat.wr hs zs1 e
   clear e
   have es:AR (.pointer (some ⟨d,0,none⟩)::AA .u8 (xM (kbM key) 92 t)) (1+t) [.int .u8 (bits .xor .u8 ((kbM key).getD t 0) 92)]=.pointer (some ⟨d,0,none⟩)::AA .u8 (xM (kbM key) 92 (t+1)):=by
    show (Value.pointer (some ⟨d,0,none⟩)::AA .u8 (xM (kbM key) 92 t)).set (1+t) _=_
    rw[show 1+t=t+1 by omega,List.set_cons_succ,E4];rfl
   rw[es]at hs
   simp only[AS,AG]at hs
   rw[AU (by omega)]
   exact hk _ hs
  ·intro h5 hs
   apply hJ29
   rw[AD,if_neg (by decide)]
   refine⟨_,hs.ld zs1 rfl,_,rfl,?_⟩
   have il:(OB key).length=64:=IP _ _ _
   refine WD (xs:=OB key) hs zs2 o4 (by simp[il]) (by omega) ?_ ?_
   ·intro s' sm' n' h' hs'
    simp only[AS,AG]at hs'
    have:=ZM hs' .z (n:=64) (by rw[IP];omega)
    rw[List.take_of_length_le (by rw[IP];omega)]at this
    exact this
   ·intro s' sm' n' h6 D hs
    simp only[AS,AG]at hs
    rw[List.nil_append]at D
    replace hs:=hs.front zs2
    simp only[del]at hs
    exact k m d s' sm' n' _ D (hs.sub (by(repeat (first | exact List.Sublist.refl _ | apply List.Sublist.cons_cons | apply List.Sublist.cons))))
 by_cases g:64<kl
 ·rw[AD,if_pos (by rw[decide_eq_true_iff];omega)]
  refine AiE (bs:=key) hs hkc hkl (fun h' hs'=>rd _ hs'.drop) ?_
  intro h2 hs
  intro hb _ hn;replace hs:=Sat.new hs hn
  refine⟨Sat.can hs .z (by simp[AB]),?_⟩
  intro h3 e
  replace hs:=Sat.wra hs .z e (by simp[AB,CQ])
  clear e
  simp only[AG]at hs
  have ek:EP key=D3 key:=by unfold EP;rw[if_pos (by omega)]
  refine way _ _ _ _ hs.drop ?_
  rw[ek]
  have:=ZM hs .z (n:=32) (by rw[CQ];omega)
  rw[List.take_of_length_le (by rw[CQ];omega)]at this
  have EH:AJ (some ⟨hb,0,none⟩) 0 32 1=some ⟨hb,0,none⟩:=by unfold AJ;simp
  rw[EH]
  exact this
 ·rw[AD,if_neg (by rw[decide_eq_true_iff];omega)]
  have ek:EP key=key:=by unfold EP;rw[if_neg (by omega)]
  refine way _ _ _ _ hs ?_
  rw[ek]
  exact rd _ hs.drop
theorem AeH{Q:List Int->HP}{key ms s sm:List Int}{n:Int}{j:Nat}(hs:Sat h0 A h)(cm:At A j (blk m (yW d key)))(cd:At A i (blk d (dgL s sm n)))(D:DgOk ms s sm n)(hml:ms.length<2^60)
  (k:∀h',Sat h0 A h'->Q (D3 (JE key++D3 ms)) h'):P0 ⟨m,0,none⟩ Q h:=by
 unfold P0 iD
 try simp only[AF,Nat.zero_add,List.append_nil]
 have EH:∀x o l,0<l->AJ (some ⟨x,o,none⟩) 0 l 1=some ⟨x,o,none⟩:=by
  intro x o l hl
  unfold AJ
  rw[if_neg (by omega)];simp
 have ol:(JE key).length=64:=IP _ _ _
 have cm2:At A j (blk m ([.pointer (some ⟨d,0,none⟩)]++AA .u8 (JE key))):=by simpa only[List.cons_append,List.nil_append]using cm
 intro ob _ hn;replace hs:=Sat.new hs hn
 refine⟨_,hs.ld cm.s rfl,_,rfl,?_⟩
 refine oC hs cd.s D hml ?_
 intro h1 hs
 intro hb _ hn;replace hs:=Sat.new hs hn
 refine⟨Sat.can hs .z (by simp[AB]),?_⟩
 intro h2 e
 replace hs:=Sat.wra hs .z e (by simp[AB,CQ])
 clear e
 simp only[AG]at hs
 refine nG hs ?_
 intro d2 h3 hs
 rw[EH _ _ _ (by decide),EH _ _ _ (by decide)]
 refine⟨_,rfl,?_⟩
 refine WD (xs:=JE key) hs .z o4 (by simp[ol]) (by omega) ?_ ?_
 ·intro s' sm' n' h' hs'
  simp only[AG]at hs'
  have:=Aj6 (k:=.u8) (ms:=JE key) (pre:=[.pointer (some ⟨d,0,none⟩)]) hs' cm2.s.s.s
  rw[ol]at this
  exact this
 intro s1 sm1 n1 h4 D1 hs
 simp only[AG]at hs
 rw[List.nil_append]at D1
 refine⟨_,rfl,?_⟩
 refine WD (xs:=D3 ms) hs .z D1 (by simp[ol,CQ]) (by omega) ?_ ?_
 ·intro s' sm' n' h' hs'
  simp only[AG]at hs'
  have:=ZM hs' zs1 (n:=32) (by rw[CQ];omega)
  rw[List.take_of_length_le (by rw[CQ];omega)]at this
  exact this
 intro s2 sm2 n2 h5 D2 hs
 simp only[AG]at hs
 refine⟨_,rfl,?_⟩
 refine oC hs .z D2 (by simp[ol,CQ]) ?_
 intro h6 hs
 refine⟨Sat.can hs zs2 (by simp[AB,CQ]),?_⟩
 intro h7 e
 replace hs:=Sat.wra hs zs2 e (by simp[AB,CQ])
 clear e
 simp only[AS,AG]at hs
 exact⟨_,CQ _,hs.row0 zs2,k _ hs.drop.drop.drop⟩
theorem AeG{Q:List Int->HP}{key b:List Int}{kp bp:Option Addr}{kl kc bl bc:Nat}(hs:Sat h0 A h)(hkc:kl≤kc)(hkl:kl<2^60)(hbc:bl≤bc)(hbl:bl<2^59)
  (rk:∀h',Sat h0 A h'->hsv h' kp 1 kl (AA .u8 key)) (rb:∀h',Sat h0 A h'->hsv h' bp 1 bl (AA .u8 b)) (k:∀h',Sat h0 A h'->Q (BI key b) h'):P4 kp kl kc bp bl bc Q h:=by
 unfold P4 iF
 try simp only[AF,Nat.zero_add,List.append_nil]
 have hxl:b.length=bl:=by have:=(rb _ hs).1;simpa using this
 have il:(OB key).length=64:=IP _ _ _
 intro ob _ hn;replace hs:=Sat.new hs hn
 refine AeF (key:=key) hs hkc hkl (fun h' hs'=>rk _ hs'.drop) ?_
 intro m d s sm n h1 D hs
 refine⟨_,rfl,_,hs.ld zs1 rfl,_,rfl,?_⟩
 refine WD (xs:=b) hs .z D (by rw[il];omega) hbc (fun s' sm' n' h' hs'=>rb _ hs'.drop.drop.drop) ?_
 intro s' sm' n' h2 D2 hs
 simp only[AG]at hs
 refine⟨_,rfl,?_⟩
 refine AeH hs (j:=1) zs1 .z D2 (by rw[List.length_append,il];omega) ?_
 intro h3 hs
 refine⟨Sat.can hs zs2 (by simp[AB,CQ]),?_⟩
 intro h4 e
 replace hs:=Sat.wra hs zs2 e (by simp[AB,CQ])
 clear e
 simp only[AS,AG]at hs
 exact⟨_,CQ _,hs.row0 zs2,k _ hs.drop.drop.drop⟩
end
structure CvM where
 kind:Int
 slot:Int
 frm:Int
 to:Int
 set:Int
abbrev cvV(c:CvM):List Value:=[.int .i64 c.kind,.int .i64 c.slot,.int .i64 c.frm,.int .i64 c.to,.int .u64 c.set]
def CvM.may(c:CvM):Prop:=
 (c.kind=1/\(0≤c.slot/\c.slot<8)/\c.frm=0/\c.to=0/\c.set=0) ∨
 (c.kind=2/\(0≤c.frm/\c.frm≤c.to/\c.to<4294967296)/\c.slot=0/\c.set=0) ∨
 (c.kind=3/\(c.set≠0/\bits .andNot .u64 c.set 16382=0)/\c.slot=0/\c.frm=0/\c.to=0) ∨
 (c.kind=4/\(0≤c.slot/\c.slot<8)/\(0≤c.frm/\c.frm≤4611686018427387904)/\c.to=0/\c.set=0) ∨
 (c.kind=5/\(0≤c.slot/\c.slot<8)/\(0≤c.to/\c.to≤4611686018427387904)/\c.frm=0/\c.set=0)
instance instDecCv (c:CvM):Decidable c.may:=by unfold CvM.may;infer_instance
section
variable {h0 h:H} {A:List Ent} {i d:Nat}
end
def o3:List CvM->List Value
 | []=>[]
 | c::r=>cvV c++o3 r
section
variable {h0 h:H} {A:List Ent} {i d:Nat}
end
theorem pW{J:List SV->HP}{σ:Type}(N:Nat)(S:Nat->σ->List SV)(Inv:Nat->σ->HP)(step:∀i s h,i<N->Inv i s h->(∀s' h',Inv (i+1) s' h'->J (S (i+1) s') h')->J (S i s) h)
  (exit:∀s h,Inv N s h->J (S N s) h) (i:Nat) (s:σ) (h:H) (hi:i≤N) (inv:Inv i s h):J (S i s) h:=by
 generalize e:N-i=n
 induction n generalizing i s h with
 | zero=>
  have:i=N:=by omega
  subst this;exact exit s h inv
 | succ n ih=>exact step i s h (by omega) inv fun s' h' inv'=>ih (i+1) s' h' (by omega) inv' (by omega)
theorem R5{h0 h:H}{A:List Ent}(hs:Sat h0 A h){i:Nat}{p:Option Addr}{l c sz:Nat}{vs:List Value}(m:At A i (slE p l c sz vs)):l≤c:=by
 obtain⟨f,hp,_⟩:=hs.take m
 obtain⟨bs,o,_⟩:=slE_P.1 hp
 exact o.2.1
section
variable {h0 h:H} {A:List Ent} {i d:Nat}
theorem AjW{Q:Option Addr->Nat->Nat->HP}{p:Option Addr}{l c:Nat}{vs:List Value}(hs:Sat h0 A h)(hl:l<2^47)(rd:∀h',Sat h0 A h'->hsv h' p 1 l vs)
  (k:∀p' c' h',(p.isNone=true->p'=none/\l=0)->Sat h0 (slE p' l c' 1 vs::A) h'->Q p' l c' h'):HJ p l c Q h:=by
 unfold HJ mP
 have R:=rd _ hs
 by_cases g:p.isNone=true
 ·rw[if_pos g]
  have hp:p=none:=by simpa using g
  subst hp
  have e:=xL R
  subst e
  have hl0:l=0:=by have:=R.1;simp at this;omega
  subst hl0
  exact k none 0 h (fun _=>⟨rfl,rfl⟩) (hs.sl_nil 1 none)
 ·rw[if_neg g]
  intro b _ hn;replace hs:=Sat.new hs hn
  have R2:=rd _ hs.drop
  refine⟨vs,R2,?_⟩
  refine Sat.app_new hs R2.1 rfl R2.2.1 (by omega) ?_
  intro p' c' h1 hs
  exact k _ _ _ (fun y=>absurd y g) (hs.sub (by(repeat (first | exact List.Sublist.refl _ | apply List.Sublist.cons_cons | apply List.Sublist.cons))))
def uS(key:Int)(id:List Int)(cs:List CvM):Prop:=(0≤key/\key<64)/\(1≤id.length/\id.length≤64)/\cs.length≤32/\∀c∈cs,c.may
instance (key:Int) (id:List Int) (cs:List CvM):Decidable (uS key id cs):=by unfold uS;infer_instance
theorem FC(k:IntKind)(a b:List Int):AA k (a++b)=AA k a++AA k b:=by unfold AA;rw[List.map_append]
end
theorem BQ(n:Nat):(AB n).length=n:=by simp[AB]
section
variable {h0 h:H} {A:List Ent} {i j d r m:Nat}
theorem xC{Q:Bool->HP}(key:Int){es:List (Value×DV)}{b:Bool}{op:Option Addr}{ol oc:Nat}(hs:Sat h0 A h)(cr:At A i (blk r [.map (some m)]))(cm:At A j (ED m es))(hl:DT (.int .i64 key) (.one (.slice none 0 0)) es=some (.one (.slice op ol oc),b))
  (q:Q b h):IX ⟨r,0,none⟩ key Q h:=by
 unfold IX gM
 exact⟨_,hs.ld cr rfl,_,_,_,hs.mapAt cm,hl,_,_,_,rfl,q⟩
theorem ApT{Q:List Int->Int->HP}{key:Int}{es:List (Value×DV)}{sp bp:Option Addr}{sl sc bl bc:Nat}{secret b:List Int}(hs:Sat h0 A h)(cr:At A i (blk r [.map (some m)]))(cm:At A j (ED m es))(hl:DT (.int .i64 key) (.one (.slice none 0 0)) es=some (.one (.slice sp sl sc),true))
  (hsc:sl≤sc) (hsl:sl<2^40) (hbc:bl≤bc) (hbl:bl<2^40) (rs:∀h',Sat h0 A h'->hsv h' sp 1 sl (AA .u8 secret)) (rb:∀h',Sat h0 A h'->hsv h' bp 1 bl (AA .u8 b)) (k:∀h',Sat h0 A h'->Q (BI secret b) 0 h'):PS ⟨r,0,none⟩ key bp bl bc Q h:=by
 unfold PS gN
 simp only[List.append_nil]
 intro ob _ hn;replace hs:=Sat.new hs hn
 refine⟨_,hs.ld cr.s rfl,_,_,_,hs.mapAt cm.s,hl,_,_,_,rfl,?_⟩
 rw[if_neg (by decide)]
 refine AeG (key:=secret) (b:=b) hs hsc (by omega) hbc (by omega) (fun h' hs'=>rs _ hs'.drop) (fun h' hs'=>rb _ hs'.drop) ?_
 intro h2 hs
 refine⟨Sat.can hs .z (by simp[AB]),?_⟩
 intro h3 e
 replace hs:=Sat.wra hs .z e (by simp[AB,FD])
 clear e
 simp only[AG]at hs
 exact⟨_,FD _ _,hs.row0 .z,k _ hs.drop⟩
end
structure TkM where
 key:Int
 id:List Int
 cs:List CvM
 tag:List Int
def XY(bs:List Int):Prop:=∀n,n∈bs->0≤n/\n<256
section
variable {h0 h:H} {A:List Ent} {i j d:Nat}
end
set_option maxRecDepth 1000000
theorem nIF(t:TypeId)(v:Value):¬SE (.iface t v)=true:=Bool.false_ne_true
section
variable {h0 h:H} {A:List Ent} {i j d:Nat}
end
theorem q6{α:Type}(l:List α){t:Nat}(h:t<l.length):l.take (t+1)=l.take t++[l[t]]:=by rw[List.take_succ,List.getElem?_eq_getElem h];rfl
section
variable {h0 h:H} {A:List Ent} {i j d:Nat}
end
section
variable {h0 h:H} {A:List Ent} {i j d:Nat}
theorem AiT(hs:Sat h0 A h){i b c sz:Nat}{vs:List Value}(m:At A i (blk b vs))(hl:vs.length=c*sz):Sat h0 (put A i (slE (some ⟨b,0,none⟩) 0 c sz [])) h:=by
 refine hs.as m fun f hp=>?_
 obtain⟨k,hf⟩:=blk_P.1 hp
 refine slE_P.2 ⟨[b],⟨by simp,by omega,by intro v hv;simp at hv,Or.inr ⟨b,vs,rfl,rfl,by simpa using k,by rw[hl];simp⟩⟩,fun x=>?_⟩
 rw[hf];simp
end
def CvM.typed(c:CvM):Prop:=has .i64 c.kind/\has .i64 c.slot/\has .i64 c.frm/\has .i64 c.to/\has .u64 c.set
end Go.Proofs.YteedolonhdbieaaGreatDoor
end
section
namespace Go.Proofs.YteedolonhdbieaaGreatDoor
open Go Go.Vc Go.ChangeShapes Go.WideShapes Go.ChangeAt Go.RowKit
set_option maxRecDepth 100000
theorem Ar4:xsh PP 8 5=some [.int .u8]:=by kernel_rfl
section
variable {D:Type} {enc:TypeId×Value->D} {W:World}
theorem AjA{p:Option Addr}{l c:Nat}(h:Sli enc PP W 5 p l c):∃ns:List Int,hsv W.heap p 1 l (AA .u8 ns)/\XY ns/\l≤c/\l+4096≤2^47:=by
 have hb:Tryz.prog.bytesOf 5=1:=by kernel_rfl
 have hc:Tryz.prog.cellsOf 5=1:=by kernel_rfl
 obtain⟨ess,h1,h2,h3,_⟩:=h.els Ar4
 have hlc:=h.1
 have hr:=h.2.1
 rw[hb]at hr
 rw[hc]at h3
 have key:∀ess:List (List Value),(∀es,es∈ess->es.length=Tryz.prog.cellsOf 5/\XM enc PP W [XSh.int .u8] es)->∃ns:List Int,ess.flatten=AA .u8 ns/\XY ns:=by
  intro ess
  induction ess with
  | nil=>intro _;exact⟨[],rfl,by intro n hn;simp at hn⟩
  | cons x r ih=>
   intro h
   obtain⟨ns,e,hn⟩:=ih fun es hes=>h es (by simp[hes])
   obtain⟨n,rest,rfl,hh,hr⟩:=(h x (by simp)).2
   simp only[XM]at hr
   subst hr
   refine⟨n::ns,by simp[e],?_⟩
   intro m hm
   rcases List.mem_cons.1 hm with rfl | hm
   ·exact pD hh
   ·exact hn m hm
 obtain⟨ns,e,hn⟩:=key ess h2
 rw[e]at h3
 refine⟨ns,h3,hn,hlc,?_⟩
 unfold reachBytes at hr
 omega
theorem Ab4{t e:TypeId}{v:Value}{base:Nat}(u:Tryz.prog.underlying t=some (.slice e))(h:Rdt enc PP W t v.cells.toList)(ho:Value.okWide PP W .any base t v):∃p l c,v=.slice p l c/\Sli enc PP W e p l c:=by
 obtain⟨p,l,c,e1,hs⟩:=Rdt.slice u h
 exact⟨p,l,c,An9 (by rw[u]) ho e1,hs⟩
structure TokIn (h:H) (key:Int) (id tag:List Int) (cs:List CvM) (ip:Option Addr) (il:Nat) (cp:Option Addr) (cl:Nat):Prop where
 key:has .i64 key
 ri:hsv h ip 1 il (AA .u8 id)
 rb:XY id
 ii:il+4096≤2^47
 rc:hsv h cp 5 cl (o3 cs)
 ct:∀c,c∈cs->c.typed
 cc:cl*40+4096≤2^47
 tl:tag.length=32
 tb:XY tag
end
end Go.Proofs.YteedolonhdbieaaGreatDoor
end
