/- LoaderDoes and its parts, laid together by a program of ours: Rf3 Rf4 Rf6 Rf8 La2 La5 Fu3 Fu4 -/
import Derived.Test.YteedolonhdbieaaGreatDoorK12
set_option autoImplicit false
set_option linter.all false
section
namespace Go.Proofs.YteedolonhdbieaaGreatDoor
open Go Go.Vc
section
variable {h0 h:H} {A:List Ent} {i p:Nat} {C:Cm}
theorem AaS(n a b:Int)(Q:Bool->HP)(h:H):QV n a b Q h=Q (decide (a≤n)&&decide (n≤b)) h:=by
 unfold QV jX
 by_cases h1:a≤n <;> simp[h1]
theorem qJ(c:Cfg){Q:Int->HP}(hs:Sat h0 A h)(k:∀h',Sat h0 A h'->Q c.may? h'):
  HD c.cells c.slots c.fuses c.step c.keys c.erases c.area Q h:=by
 unfold HD jT
 try simp only[AF,Nat.zero_add]
 intro n1 h' hn;replace hs:=Sat.new hs hn
 replace k:=k h' hs.drop
 have kb:=hs.blkOf .z
 have hc0:=kb.hc
 intro J hJ
 have w3:1≤c.slots/\c.slots≤8->IntKind.i64.wrap (c.slots+3)=c.slots+3:=by
  intro h1;rw[IntKind.wrap_i64];omega
 have fin:∀r:Bool,(r=true↔(1≤c.slots/\c.slots≤8)/\(c.slots+3≤c.cells/\c.cells≤256)/\(1≤c.fuses/\c.fuses≤64)/\(1≤c.step/\c.step≤65536))->J [SV.dv (DV.one (Value.bool r))] h':=by
  intro r hr
  apply hJ
  simp only[hc0,AaS,List.getElem?_cons_succ,List.getElem?_cons_zero,Option.some.injEq,Value.int.injEq,true_and,exists_eq_left',Bool.and_eq_true,decide_eq_true_eq]
  have bad:¬c.may->Q 1 h':=fun hm=>by unfold Cfg.may? at k;rwa [if_neg hm]at k
  have good:c.may->Q 0 h':=fun hm=>by unfold Cfg.may? at k;rwa [if_pos hm]at k
  by_cases h4:1≤c.keys/\c.keys≤64
  case neg=>rw[if_neg h4];split <;> exact bad fun m=>h4 m.keys
  rw[if_pos h4]
  by_cases h5:0≤c.erases/\c.erases≤65536
  case neg=>rw[if_neg h5];split <;> exact bad fun m=>h5 m.erases
  rw[if_pos h5]
  cases r with
  | false=>
   have:=mt hr.2 (by simp)
   simp only[Bool.not_false,if_true]
   exact bad fun m=>this ⟨m.slots,m.cells,m.fuses,m.step⟩
  | true=>
   obtain⟨a1,a2,a3,a4⟩:=hr.1 rfl
   rw[if_neg (by simp)]
   by_cases h6:0≤c.area/\c.area≤64
   ·rw[if_neg (by simp;omega)];exact good ⟨a1,a2,a3,a4,h4,h5,h6⟩
   ·rw[if_pos (by simp;omega)];exact bad fun m=>h6 m.area
 simp only[hc0,AaS,List.getElem?_cons_succ,List.getElem?_cons_zero,Option.some.injEq,Value.int.injEq,true_and,exists_eq_left',Bool.and_eq_true,decide_eq_true_eq]
 split
 case isFalse h1=>exact fin false (by simp;intro a b;exact absurd ⟨a,b⟩ h1)
 rename_i h1
 rw[w3 h1]
 split
 case isFalse h2=>exact fin false (by simp;intro _ _ a b;exact absurd ⟨a,b⟩ h2)
 rename_i h2
 split
 case isFalse h3=>exact fin false (by simp;intro _ _ _ _ a b;exact absurd ⟨a,b⟩ h3)
 rename_i h3
 refine fin _ ?_
 simp only[Bool.and_eq_true,decide_eq_true_eq]
 exact⟨fun h4=>⟨h1,h2,h3,h4⟩,fun m=>m.2.2.2⟩
theorem qH{Q:List Int->HP}(hs:Sat h0 A h)(k:∀h',Sat h0 A h'->Q B9 h'):G8 Q h:=by
 unfold G8 jG
 try simp only[AF,Nat.zero_add,List.append_nil]
 (intro _ _ hn;replace hs:=Sat.new hs hn)
 (intro _ _ hn;replace hs:=Sat.new hs hn)
 (refine⟨Sat.can hs (by repeat constructor) (by simp),?_⟩;intro _ e;replace hs:=Sat.wra hs (by repeat constructor) e (by simp[*]);clear e;simp only[put]at hs)
 intro J hJ
 refine BB 32 (fun i h=>Sat h0 (blk _ (AA .u8 (BP (fun _ _=>255) i (AB 32)))::blk _ (AA .u8 (AB 32))::A) h) ?_ ?_ 0 _ (by omega) (by rw[aO];exact hs)
 ·intro j h7 hjl hs hk'
  apply hJ
  rw[AD,if_pos (by simp;omega)]
  simp only[Int.toNat_natCast,Nat.mul_one]
  refine⟨by omega,by omega,hs.can .z (by simp;omega),?_⟩
  intro h8 e8
  replace hs:=hs.wr .z e8
  rw[AU (by omega)]
  refine hk' _ ?_
  simp only[FN,OR,E4,put]at hs
  rw[SH (fun _ _=>255) j (AB 32) (by simpa using hjl)]at hs
  exact hs
 ·intro h7 hs
  apply hJ
  rw[AD,if_neg (by simp)]
  rw[yX 32 255 _ (by simp)]at hs
  refine⟨B9,by simp[B9],hs.row0 .z,?_⟩
  have:(AA .u8 B9).length=32:=by simp[B9]
  refine⟨hs.can zs1 (by simp),?_⟩
  intro _ e
  replace hs:=Sat.wra hs zs1 e (by simp[B9])
  simp only[put]at hs
  refine⟨B9,by simp[B9],hs.row0 zs1,k _ hs.drop.drop⟩
theorem rK{a b c:Sl}{s:St}{Q:Option Addr->Nat->Nat->Option Addr->Nat->Nat->Option Addr->Nat->Nat->HP}(hs:Sat h0 A h)(rd:∀h',Sat h0 A h'->RdS h' a b c s)(sm:s.small)
  (k:∀(a' b' c':Sl) h',Sat h0 (stL a' b' c' s++A) h'->Q a'.1 a'.2.1 a'.2.2 b'.1 b'.2.1 b'.2.2 c'.1 c'.2.1 c'.2.2 h'):
  HC a.1 a.2.1 a.2.2 b.1 b.2.1 b.2.2 c.1 c.2.1 c.2.2 Q h:=by
 unfold HC jQ
 try simp only[AF,Nat.zero_add]
 intro n1 _ hn;replace hs:=Sat.new hs hn
 intro n2 _ hn;replace hs:=Sat.new hs hn
 intro J hJ
 have rd0:=rd _ hs.drop.drop
 have l2:s.erases.length=b.2.1:=by have:=rd0.er.1;simpa using this
 have l3:s.blown.length=c.2.1:=by have:=rd0.bl.1;simpa using this
 have s2:=sm.erases
 have s3:=sm.blown
 have fin:∀q b2 b3 c2 c3 h',Sat h0 (blk q [.slice none 0 0,.slice b2 b.2.1 b3,.slice c2 c.2.1 c3]::sE (b2,b.2.1,b3) 1 (AA .i64 s.erases)::sE (c2,c.2.1,c3) 1 (A3 s.blown) ::
   blk n1 [a.v,b.v,c.v]::blk n2 [.slice none 0 0,.slice none 0 0,.slice none 0 0]::A) h'->J [SV.dv (DV.addr ⟨q,0,none⟩)] h':=by
  intro q b2 b3 c2 c3 h' hs
  apply hJ
  intro J2 hJ2
  have hlen:=(rd _ hs.drop.drop.drop.drop.drop).pg.len
  replace hs:=hs.mat_nil 32 none
  refine BB a.2.1 (fun i h=>∃hd:Sl,hd.2.1=i/\Sat h0 (BR 32 hd (s.pages.take i)::blk q [hd.v,.slice b2 b.2.1 b3,.slice c2 c.2.1 c3]::sE (b2,b.2.1,b3) 1 (AA .i64 s.erases)::sE (c2,c.2.1,c3) 1 (A3 s.blown) ::
   blk n1 [a.v,b.v,c.v]::blk n2 [.slice none 0 0,.slice none 0 0,.slice none 0 0]::A) h) ?_ ?_ 0 _ (by omega) ⟨_,rfl,hs⟩
  ·rintro i h1 hi ⟨⟨hp,hl,hc⟩,e,hs⟩ hk
   simp only at e;subst e
   apply hJ2
   refine⟨_,_,_,Sat.ld hs (by repeat constructor) (by rfl),?_⟩
   rw[AD,if_pos (by simp;omega)]
   have hlt:hl<s.pages.length:=by omega
   obtain⟨q',x,e1,e2,e3⟩:=(rd _ hs.drop.drop.drop.drop.drop.drop).pg.at hlt
   refine⟨_,_,_,Sat.ld hs (by repeat constructor) (by rfl),?_⟩
   refine⟨_,_,_,Sat.ld hs (by repeat constructor) (by rfl),?_⟩
   obtain⟨ap,al,ac⟩:=a
   dsimp only at e1
   subst e1
   refine⟨_,rfl,by omega,by omega,?_⟩
   refine⟨_,_,_,e2,?_⟩
   intro n36 h37 hn
   have e2':=AI (I6 hn.ext e2 (fun x=>x))
   have e3':=EC hn.ext e3 (fun _ _ x=>x)
   replace hs:=Sat.new hs hn
   refine⟨e2',?_⟩
   refine⟨Sat.cs hs (by repeat constructor) (by rfl),?_⟩
   refine⟨Sat.cs hs (by repeat constructor) (by rfl),?_⟩
   have hr:=sm.rows _ (List.getElem_mem hlt)
   have hx:=e3.1
   simp only[A6]at hx
   refine⟨_,e3',Sat.app_new hs e3'.1 (by simp) (A5 _ _) (by omega) ?_⟩
   intro p' c' h2 hs
   refine⟨Sat.cs hs (by repeat constructor) (by rfl),?_⟩
   (intro _ _ hn;replace hs:=Sat.new hs hn)
   refine⟨Sat.cs hs (by repeat constructor) (by rfl),?_⟩
   refine⟨_,Sat.bv hs (.z) (by simp) (by simp),?_⟩
   replace hs:=Sat.front (e:=sE (p',x.2.1,c') 32 _) hs zs1
   have hpl:=sm.pages
   refine Sat.app_row hs zs2 (by dsimp only;omega) ?_
   intro p2 c2' h4 hs
   simp only[put,del]at hs
   (refine⟨Sat.can hs (by repeat constructor) (by simp),?_⟩;intro _ e;replace hs:=Sat.wr hs (by repeat constructor) e;clear e;simp only[put,AR,List.set]at hs)
   rw[AU (by omega)]
   refine hk _ ⟨(p2,hl+1,c2'),rfl,?_⟩
   rw[List.take_succ_eq_append_getElem hlt]
   exact hs.sub (by(repeat (first | exact List.Sublist.refl _ | apply List.Sublist.cons_cons | apply List.Sublist.cons)))
  ·rintro h1 ⟨⟨hp,hl,hc⟩,e,hs⟩
   simp only at e;subst e
   apply hJ2
   refine⟨_,_,_,Sat.ld hs (by repeat constructor) (by rfl),?_⟩
   rw[AD,if_neg (by simp)]
   (repeat first | refine⟨_,Sat.ld hs (by repeat constructor) (by rfl),?_⟩ | refine⟨_,_,_,Sat.ld hs (by repeat constructor) (by rfl),?_⟩ | (intro _ _ hn;replace hs:=Sat.new hs hn) | refine⟨Sat.cs hs (by repeat constructor) (by rfl),?_⟩ | (refine⟨Sat.can hs (by repeat constructor) (by simp),?_⟩;intro _ e;replace hs:=Sat.wr hs (by repeat constructor) e;clear e;simp only[put,AR,List.set]at hs))
   refine k (hp,_,hc) (b2,_,b3) (c2,_,c3) _ ?_
   rw[←hlen,List.take_length]at hs
   replace hs:=Sat.front hs (e:=blk n2 _) (by repeat constructor)
   replace hs:=Sat.front hs (e:=blk n1 _) (by repeat constructor)
   replace hs:=Sat.front hs (e:=blk q _) (by repeat constructor)
   simp only[del]at hs
   have:=hs.drop.drop.drop
   rw[hlen]at this
   exact this
 repeat' (first
  | refine⟨_,Sat.ld hs (by repeat constructor) (by rfl),?_⟩
  | refine⟨_,_,_,Sat.ld hs (by repeat constructor) (by rfl),?_⟩
  | (intro _ _ hn;replace hs:=Sat.new hs hn)
  | refine⟨Sat.cs hs (by repeat constructor) (by rfl),?_⟩
  | (refine⟨Sat.can hs (by repeat constructor) (by simp),?_⟩;intro _ e;replace hs:=Sat.wr hs (by repeat constructor) e;clear e;simp only[put,AR,List.set]at hs)
  | (refine⟨_,(rd _ (hs.sub (by(repeat (first | exact List.Sublist.refl _ | apply List.Sublist.cons_cons | apply List.Sublist.cons))))).er,Sat.app_new hs (by simp;omega) rfl (A5 _ _) (by omega) ?_⟩;intro _ _ _ hs)
  | (refine⟨_,(rd _ (hs.sub (by(repeat (first | exact List.Sublist.refl _ | apply List.Sublist.cons_cons | apply List.Sublist.cons))))).bl,Sat.app_new hs (by simp;omega) rfl (oU _) (by omega) ?_⟩;intro _ _ _ hs)
  | refine And.intro ?_ ?_)
 all_goals
  replace hs:=Sat.front hs (e:=blk n2 _) (by repeat constructor)
  replace hs:=Sat.front hs (e:=blk n1 _) (by repeat constructor)
  replace hs:=Sat.front hs (e:=slE _ _ _ 1 (A3 _)) (by repeat constructor)
  replace hs:=Sat.front hs (e:=slE _ _ _ 1 (AA .i64 _)) (by repeat constructor)
  replace hs:=Sat.front hs (e:=blk _ [.slice none 0 0,.slice _ b.2.1 _,.slice _ c.2.1 _]) (by repeat constructor)
  simp only[del]at hs
  exact fin _ _ _ _ _ _ (hs.sub (by(repeat (first | exact List.Sublist.refl _ | apply List.Sublist.cons_cons | apply List.Sublist.cons))))
end
end Go.Proofs.YteedolonhdbieaaGreatDoor
/- Contracts of the document's chip: new ones,laid ones,copies. Own work. -/
namespace Go.Proofs.YteedolonhdbieaaGreatDoor
open Go Go.Vc
section
variable {h0 h:H} {A:List Ent} {i p:Nat} {C:Cm}
theorem wnp{c:Cfg}(m:c.may):IntKind.i64.wrap (2+IntKind.i64.wrap (2*c.area))=c.np:=by
 have:=m.area;unfold Cfg.np;simp only[IntKind.wrap_i64];omega
theorem wnf{c:Cfg}(m:c.may):IntKind.i64.wrap (IntKind.i64.wrap (c.slots*c.fuses)+c.keys)=c.nf:=by
 have h1:=m.slots;have h2:=m.fuses;have h3:=m.keys
 have e1:0≤c.slots*c.fuses:=Int.mul_nonneg (by omega) (by omega)
 have e2:c.slots*c.fuses≤8*64:=Int.mul_le_mul (by omega) (by omega) (by omega) (by omega)
 unfold Cfg.nf;simp only[IntKind.wrap_i64];omega
theorem Al3(c:Cfg)(hm:c.may){Q:Option Addr->Nat->Nat->Option Addr->Nat->Nat->Option Addr->Nat->Nat->HP}(hs:Sat h0 A h)
  (k:∀(a' b' c':Sl) h',Sat h0 (stL a' b' c' (DM c)++A) h'->Q a'.1 a'.2.1 a'.2.2 b'.1 b'.2.1 b'.2.2 c'.1 c'.2.1 c'.2.2 h'):
  QU c.cells c.slots c.fuses c.step c.keys c.erases c.area Q h:=by
 unfold QU jW
 try simp only[AF,Nat.zero_add,List.append_nil]
 intro g _ hn;replace hs:=Sat.new hs hn
 intro n2 _ hn;replace hs:=Sat.new hs hn
 intro J hJ
 have hnp:=hm.np
 have hnf:=hm.nf
 have hmc:=hm.cells
 have hms:=hm.slots
 have fin:∀p a b h',Sat h0 (blk p [.slice none 0 0,.slice (some ⟨a,0,none⟩) c.np.toNat c.np.toNat,.slice (some ⟨b,0,none⟩) c.nf.toNat c.nf.toNat]::blk a (List.replicate c.np.toNat [Value.int .i64 0]).flatten::blk b (List.replicate c.nf.toNat [Value.bool false]).flatten ::
   blk g c.vals::blk n2 [.slice none 0 0,.slice none 0 0,.slice none 0 0]::A) h'->J [SV.dv (DV.addr ⟨p,0,none⟩)] h':=by
  intro p a b h' hs
  apply hJ
  simp only[Cfg.vals]at hs
  intro J2 hJ2
  replace hs:=hs.mat_nil 32 none
  refine BB c.np.toNat (fun i h=>∃hd:Sl,hd.2.1=i/\Sat h0 (BR 32 hd (List.replicate i (K5 c))::blk p [hd.v,.slice (some ⟨a,0,none⟩) c.np.toNat c.np.toNat,.slice (some ⟨b,0,none⟩) c.nf.toNat c.nf.toNat]::blk a (List.replicate c.np.toNat [Value.int .i64 0]).flatten::blk b (List.replicate c.nf.toNat [Value.bool false]).flatten ::
   blk g c.vals::blk n2 [.slice none 0 0,.slice none 0 0,.slice none 0 0]::A) h) ?_ ?_ 0 _ (by omega) ⟨_,rfl,hs⟩
  ·rintro i h1 hi ⟨⟨hp,hl,hc⟩,e,hs⟩ hk
   simp only at e;subst e
   apply hJ2
   simp only[Cfg.vals]at hs
   refine⟨_,Sat.ld hs (by repeat constructor) (by rfl),?_⟩
   rw[wnp hm,AD,if_pos (by simp;omega)]
   refine⟨_,Sat.ld hs (by repeat constructor) (by rfl),?_⟩
   refine⟨by omega,by omega,by omega,by omega,?_⟩
   intro nr _ hn;replace hs:=Sat.new hs hn
   intro J3 hJ3
   have hrl:∀i,((List.replicate i B9).flatten++(List.replicate (c.cells.toNat-i) (AB 32)).flatten).length=i*32+(c.cells.toNat-i)*32:=fun i=>by
    simp[B9]
   refine BB c.cells.toNat (fun i h=>Sat h0 (blk nr (AA .u8 ((List.replicate i B9).flatten++(List.replicate (c.cells.toNat-i) (AB 32)).flatten))::BR 32 (hp,hl,hc) (List.replicate hl (K5 c))::blk p [.slice hp hl hc,.slice (some ⟨a,0,none⟩) c.np.toNat c.np.toNat,.slice (some ⟨b,0,none⟩) c.nf.toNat c.nf.toNat]::blk a (List.replicate c.np.toNat [Value.int .i64 0]).flatten::blk b (List.replicate c.nf.toNat [Value.bool false]).flatten ::
    blk g c.vals::blk n2 [.slice none 0 0,.slice none 0 0,.slice none 0 0]::A) h) ?_ ?_ 0 _ (by omega) ?_
   ·intro j h2 hj hs hk2
    apply hJ3
    simp only[Cfg.vals]at hs
    refine⟨_,Sat.ld hs (by repeat constructor) (by rfl),?_⟩
    rw[AD,if_pos (by simp;omega)]
    refine qH hs ?_
    intro h3 hs
    refine⟨_,rfl,by omega,by omega,?_⟩
    try simp only[AF,Nat.zero_add,Int.toNat_natCast]
    refine⟨hs.can .z (by rw[A6,hrl];omega),?_⟩
    intro h4 e4
    replace hs:=hs.wr .z e4
    rw[AU (by omega)]
    refine hk2 _ ?_
    have esp:AR (AA .u8 ((List.replicate j B9).flatten++(List.replicate (c.cells.toNat-j) (AB 32)).flatten)) (j*32) (AA .u8 B9)=AA .u8 ((List.replicate (j+1) B9).flatten++(List.replicate (c.cells.toNat-(j+1)) (AB 32)).flatten):=by
     have e1:(List.replicate (c.cells.toNat-j) (AB 32)).flatten=AB 32++(List.replicate (c.cells.toNat-(j+1)) (AB 32)).flatten:=by
      rw[show c.cells.toNat-j=1+(c.cells.toNat-(j+1)) by omega,YD];simp
     have e2:(AA .u8 (List.replicate j B9).flatten).length=j*32:=by simp[B9]
     rw[e1,aA,aA,←List.append_assoc,←e2,M9 _ _ _ _ (by simp[B9]),YD j 1]
     simp
    rw[esp]at hs
    exact hs
   ·intro h2 hs
    apply hJ3
    simp only[Cfg.vals]at hs
    refine⟨_,Sat.ld hs (by repeat constructor) (by rfl),?_⟩
    rw[AD,if_neg (by simp;omega)]
    refine⟨_,_,_,Sat.ld hs (by repeat constructor) (by rfl),?_⟩
    intro nh _ hn;replace hs:=Sat.new hs hn
    refine⟨_,Sat.bv hs (.z) (by simp) (by simp),?_⟩
    replace hs:=hs.as_sl (i:=1) (l:=c.cells.toNat) (sz:=32) zs1 (by rw[A6,hrl];omega) (A5 _ _)
    simp only[put]at hs
    replace hs:=Sat.front (e:=sE (some ⟨nr,0,none⟩,c.cells.toNat,c.cells.toNat) 32 _) hs zs1
    refine Sat.app_row hs zs1 (by omega) ?_
    intro p2 c2' h4 hs
    simp only[put,del]at hs
    (refine⟨Sat.can hs (by repeat constructor) (by simp),?_⟩;intro _ e;replace hs:=Sat.wr hs (by repeat constructor) e;clear e;simp only[put,AR,List.set]at hs)
    rw[AU (by omega)]
    refine hk _ ⟨(p2,hl+1,c2'),rfl,?_⟩
    have e1:(List.replicate c.cells.toNat B9).flatten++(List.replicate (c.cells.toNat-c.cells.toNat) (AB 32)).flatten=K5 c:=by simp[K5]
    rw[e1]at hs
    rw[List.replicate_succ']
    exact hs.sub (by(repeat (first | exact List.Sublist.refl _ | apply List.Sublist.cons_cons | apply List.Sublist.cons)))
   ·have e0:(List.replicate c.cells.toNat (AA .u8 (AB 32))).flatten=AA .u8 ((List.replicate 0 B9).flatten++(List.replicate (c.cells.toNat-0) (AB 32)).flatten):=by
     simp[AA,List.map_flatten]
    rw[e0]at hs
    exact hs
  ·rintro h1 ⟨⟨hp,hl,hc⟩,e,hs⟩
   simp only at e;subst e
   apply hJ2
   simp only[Cfg.vals]at hs
   refine⟨_,Sat.ld hs (by repeat constructor) (by rfl),?_⟩
   rw[wnp hm,AD,if_neg (by simp;omega)]
   (repeat first | refine⟨_,Sat.ld hs (by repeat constructor) (by rfl),?_⟩ | refine⟨_,_,_,Sat.ld hs (by repeat constructor) (by rfl),?_⟩ | (intro _ _ hn;replace hs:=Sat.new hs hn) | refine⟨Sat.cs hs (by repeat constructor) (by rfl),?_⟩ | (refine⟨Sat.can hs (by repeat constructor) (by simp),?_⟩;intro _ e;replace hs:=Sat.wr hs (by repeat constructor) e;clear e;simp only[put,AR,List.set]at hs))
   refine k (hp,_,hc) (some ⟨a,0,none⟩,_,_) (some ⟨b,0,none⟩,_,_) _ ?_
   have eb:(List.replicate c.nf.toNat [Value.bool false]).flatten=A3 (DM c).blown:=by simp[DM,A3]
   have ea:(List.replicate c.np.toNat [Value.int .i64 0]).flatten=AA .i64 (DM c).erases:=by simp[DM,AB,AA]
   rw[ea,eb]at hs
   replace hs:=Sat.front hs (e:=blk p _) (by repeat constructor)
   replace hs:=Sat.front hs (e:=blk g _) (by repeat constructor)
   replace hs:=Sat.front hs (e:=blk n2 _) (by repeat constructor)
   simp only[del]at hs
   replace hs:=hs.drop.drop.drop
   replace hs:=hs.as_sl (i:=1) (l:=c.np.toNat) (sz:=1) zs1 (by simp[DM]) (A5 _ _)
   replace hs:=hs.as_sl (i:=2) (l:=c.nf.toNat) (sz:=1) zs2 (by simp[DM]) (oU _)
   exact hs
 (repeat first | refine⟨_,Sat.ld hs (by repeat constructor) (by rfl),?_⟩ | refine⟨_,_,_,Sat.ld hs (by repeat constructor) (by rfl),?_⟩ | (intro _ _ hn;replace hs:=Sat.new hs hn) | refine⟨Sat.cs hs (by repeat constructor) (by rfl),?_⟩ | (refine⟨Sat.can hs (by repeat constructor) (by simp),?_⟩;intro _ e;replace hs:=Sat.wr hs (by repeat constructor) e;clear e;simp only[put,AR,List.set]at hs))
 simp only[wnp hm,wnf hm]
 repeat' (first
  | refine⟨_,Sat.ld hs (by repeat constructor) (by rfl),?_⟩
  | (intro _ _ hn;replace hs:=Sat.new hs hn)
  | refine⟨Sat.cs hs (by repeat constructor) (by rfl),?_⟩
  | (refine⟨Sat.can hs (by repeat constructor) (by simp),?_⟩;intro _ e;replace hs:=Sat.wr hs (by repeat constructor) e;clear e;simp only[put,AR,List.set]at hs)
  | refine⟨by omega,?_⟩
  | refine And.intro ?_ ?_)
 all_goals
  replace hs:=Sat.front hs (e:=blk n2 _) (by repeat constructor)
  replace hs:=Sat.front hs (e:=blk g _) (by repeat constructor)
  replace hs:=Sat.front hs (e:=blk _ (List.replicate c.nf.toNat [Value.bool false]).flatten) (by repeat constructor)
  replace hs:=Sat.front hs (e:=blk _ (List.replicate c.np.toNat [Value.int .i64 0]).flatten) (by repeat constructor)
  replace hs:=Sat.front hs (e:=blk _ [Value.slice none 0 0,Value.slice (some ⟨_,0,none⟩) _ _,Value.slice (some ⟨_,0,none⟩) _ _]) (by repeat constructor)
  exact fin _ _ _ _ hs
theorem AnY(c:Cfg){Q:Option Addr->Int->HP}(hs:Sat h0 A h)
  (k1:¬c.may->∀h',Sat h0 A h'->Q none 1 h')
  (k2:c.may->∀p h',Sat h0 (AH p (B6 c)::A) h'->Q (some ⟨p,0,none⟩) 0 h'):
  QS c.cells c.slots c.fuses c.step c.keys c.erases c.area Q h:=by
 unfold QS jU
 try simp only[AF,Nat.zero_add]
 intro g _ hn;replace hs:=Sat.new hs hn
 (repeat first | refine⟨_,Sat.ld hs (by repeat constructor) (by rfl),?_⟩ | refine⟨_,_,_,Sat.ld hs (by repeat constructor) (by rfl),?_⟩ | (intro _ _ hn;replace hs:=Sat.new hs hn) | refine⟨Sat.cs hs (by repeat constructor) (by rfl),?_⟩ | (refine⟨Sat.can hs (by repeat constructor) (by simp),?_⟩;intro _ e;replace hs:=Sat.wr hs (by repeat constructor) e;clear e;simp only[put,AR,List.set]at hs))
 refine qJ c hs ?_
 intro h1 hs
 unfold Cfg.may?
 by_cases hm:c.may
 case neg=>
  rw[if_neg hm,if_pos (by decide)]
  exact k1 hm _ hs.drop
 rw[if_pos hm,if_neg (by decide)]
 (repeat first | refine⟨_,Sat.ld hs (by repeat constructor) (by rfl),?_⟩ | refine⟨_,_,_,Sat.ld hs (by repeat constructor) (by rfl),?_⟩ | (intro _ _ hn;replace hs:=Sat.new hs hn) | refine⟨Sat.cs hs (by repeat constructor) (by rfl),?_⟩ | (refine⟨Sat.can hs (by repeat constructor) (by simp),?_⟩;intro _ e;replace hs:=Sat.wr hs (by repeat constructor) e;clear e;simp only[put,AR,List.set]at hs))
 refine Al3 c hm hs ?_
 intro a b c' h2 hs
 replace hs:Sat h0 (BR 32 a (DM c).pages::sE b 1 (AA .i64 (DM c).erases)::sE c' 1 (A3 (DM c).blown)::blk g c.vals::A) h2:=hs
 simp only[Cfg.vals]at hs
 (repeat first | refine⟨_,Sat.ld hs (by repeat constructor) (by rfl),?_⟩ | refine⟨_,_,_,Sat.ld hs (by repeat constructor) (by rfl),?_⟩ | (intro _ _ hn;replace hs:=Sat.new hs hn) | refine⟨Sat.cs hs (by repeat constructor) (by rfl),?_⟩ | (refine⟨Sat.can hs (by repeat constructor) (by simp),?_⟩;intro _ e;replace hs:=Sat.wr hs (by repeat constructor) e;clear e;simp only[put,AR,List.set]at hs))
 refine k2 hm _ _ ?_
 replace hs:=hs.sl_nil 1 none
 replace hs:=Sat.front hs (e:=slE _ _ _ 1 (A3 _)) (by repeat constructor)
 replace hs:=Sat.front hs (e:=slE _ _ _ 1 (AA .i64 _)) (by repeat constructor)
 replace hs:=Sat.front hs (e:=BR 32 _ _) (by repeat constructor)
 replace hs:=Sat.front hs (e:=blk _ [_,_,_,_,_,_,_,_,_,_,_,_,_,_]) (by repeat constructor)
 simp only[del]at hs
 exact (vW (C:=B6 c) (a:=a) (b:=b) (c:=c') (m:=(none,0,0)) (Z1 hm) hs).sub (by(repeat (first | exact List.Sublist.refl _ | apply List.Sublist.cons_cons | apply List.Sublist.cons)))
end
end Go.Proofs.YteedolonhdbieaaGreatDoor
/- Contracts of the document's chip: its methods. Own work. -/
namespace Go.Proofs.YteedolonhdbieaaGreatDoor
open Go Go.Vc
structure RefW (C:Cm) (w:Pl×List Int):Prop where
 ok:C.ok
 b:A4 w.2
 l:w.2.length≤2^47
 m:0≤C.left->w.2=C.mask
abbrev EF(p:Nat)(C:Cm)(w:Pl×List Int):List Ent:=[blk p (C.cells w.1.a w.1.b w.1.c w.1.m),BR 32 w.1.a C.s.pages,sE w.1.b 1 (AA .i64 C.s.erases),sE w.1.c 1 (A3 C.s.blown),sE w.1.m 1 (AA .u8 w.2)]
def AK(p:Nat)(C:Cm):Ent:=exE 4 (RefW C) (EF p C)
section
variable {h0 h:H} {A:List Ent} {i p:Nat} {C:Cm}
theorem SL{C0:Cm}{a b c m:Sl}{ms:List Int}(ok:C.ok)(mb:A4 ms)(ml:ms.length≤2^47)(me:0≤C.left->ms=C.mask)(ci:At A i (AK p C0))
  (hs:Sat h0 (blk p (C.cells a b c m)::BR 32 a C.s.pages::sE b 1 (AA .i64 C.s.erases)::sE c 1 (A3 C.s.blown)::sE m 1 (AA .u8 ms)::del A i) h):Sat h0 (put A i (AK p C)) h:=
 Sat.back ci (Sat.close (⟨a,b,c,m⟩,ms) ⟨ok,mb,ml,me⟩ hs)
theorem Aa7{a b c m:Sl}{ms:List Int}(ok:C.ok)(mb:A4 ms)(ml:ms.length≤2^47)(me:0≤C.left->ms=C.mask)
  (hs:Sat h0 (blk p (C.cells a b c m)::BR 32 a C.s.pages::sE b 1 (AA .i64 C.s.erases)::sE c 1 (A3 C.s.blown)::sE m 1 (AA .u8 ms)::A) h):Sat h0 (AK p C::A) h:=
 Sat.close (⟨a,b,c,m⟩,ms) ⟨ok,mb,ml,me⟩ hs
theorem AjT(hs:Sat h0 A h)(ci:At A i (AH p C)):Sat h0 (put A i (AK p C)) h:=by
 obtain⟨w,ok,hs⟩:=(hs.front ci).open_;dsimp only[DB,List.cons_append,List.nil_append,Cm.cells]at hs
 exact Sat.back ci (Aa7 (a:=w.a) (b:=w.b) (c:=w.c) (m:=w.m) ok ok.mask ok.mlen (fun _=>rfl) hs)
theorem oG{Q:Bool->HP}{a b c m:Sl}(hs:Sat h0 A h)(ci:At A i (blk p (C.cells a b c m)))(ok:C.ok)(k:∀h',Sat h0 (put A i (blk p (C.act.cells a b c m))) h'->Q (decide (C.left=0)) h'):HA ⟨p,0,none⟩ Q h:=by
 unfold HA jM
 try simp only[AF,Nat.zero_add]
 have hl:=ok.left
 have hl2:=ok.left2
 have ea:C.act.cells a b c m=[.int .i64 C.cfg.cells,.int .i64 C.cfg.slots,.int .i64 C.cfg.fuses,.int .i64 C.cfg.step,.int .i64 C.cfg.keys,.int .i64 C.cfg.erases,.int .i64 C.cfg.area,a.v,b.v,c.v,
   .int .i64 (w64 (C.acts+1)),.bool C.act.out,.int .i64 C.act.left,m.v]:=by unfold Cm.act;split <;> rfl
 rw[ea]at k
 replace hs:=(hs.front ci)
 simp only[Cm.cells]at hs
 (repeat first | refine⟨_,Sat.ld hs (by repeat constructor) (by rfl),?_⟩ | refine⟨_,_,_,Sat.ld hs (by repeat constructor) (by rfl),?_⟩ | (intro _ _ hn;replace hs:=Sat.new hs hn) | refine⟨Sat.cs hs (by repeat constructor) (by rfl),?_⟩ | (refine⟨Sat.can hs (by repeat constructor) (by simp),?_⟩;intro _ e;replace hs:=Sat.wr hs (by repeat constructor) e;clear e;simp only[put,AR,List.set]at hs))
 have back:∀{vs h},Sat h0 (blk p vs::del A i) h->Sat h0 (put A i (blk p vs)) h:=fun hs=>Sat.back ci hs
 by_cases h1:C.left=0
 ·rw[if_pos (by simp[h1])]
  (repeat first | refine⟨_,Sat.ld hs (by repeat constructor) (by rfl),?_⟩ | refine⟨_,_,_,Sat.ld hs (by repeat constructor) (by rfl),?_⟩ | (intro _ _ hn;replace hs:=Sat.new hs hn) | refine⟨Sat.cs hs (by repeat constructor) (by rfl),?_⟩ | (refine⟨Sat.can hs (by repeat constructor) (by simp),?_⟩;intro _ e;replace hs:=Sat.wr hs (by repeat constructor) e;clear e;simp only[put,AR,List.set]at hs))
  have e1:C.act.out=true:=by simp[Cm.act,h1]
  have e2:C.act.left=-1:=by simp[Cm.act,h1]
  rw[e1,e2]at k
  have:=k _ (back hs)
  simpa[h1]using this
 ·rw[if_neg (by simp[h1])]
  (repeat first | refine⟨_,Sat.ld hs (by repeat constructor) (by rfl),?_⟩ | refine⟨_,_,_,Sat.ld hs (by repeat constructor) (by rfl),?_⟩ | (intro _ _ hn;replace hs:=Sat.new hs hn) | refine⟨Sat.cs hs (by repeat constructor) (by rfl),?_⟩ | (refine⟨Sat.can hs (by repeat constructor) (by simp),?_⟩;intro _ e;replace hs:=Sat.wr hs (by repeat constructor) e;clear e;simp only[put,AR,List.set]at hs))
  have e1:C.act.out=C.out:=by simp[Cm.act,h1]
  have e3:decide (C.left=0)=false:=by simp[h1]
  rw[e1,e3]at k
  by_cases h2:0<C.left
  ·rw[AD,if_pos (by simpa using h2)]
   (repeat first | refine⟨_,Sat.ld hs (by repeat constructor) (by rfl),?_⟩ | refine⟨_,_,_,Sat.ld hs (by repeat constructor) (by rfl),?_⟩ | (intro _ _ hn;replace hs:=Sat.new hs hn) | refine⟨Sat.cs hs (by repeat constructor) (by rfl),?_⟩ | (refine⟨Sat.can hs (by repeat constructor) (by simp),?_⟩;intro _ e;replace hs:=Sat.wr hs (by repeat constructor) e;clear e;simp only[put,AR,List.set]at hs))
   have e2:C.act.left=C.left-1:=by simp[Cm.act,h1];omega
   rw[e2]at k
   rw[show IntKind.i64.wrap (C.left-1)=C.left-1 by rw[IntKind.wrap_i64];omega]at hs
   exact k _ (back hs)
  ·rw[AD,if_neg (by simpa using h2)]
   have e2:C.act.left=C.left:=by simp[Cm.act,h1];omega
   rw[e2]at k
   exact k _ (back hs)
theorem ZL{Q:Int->HP}{j:Nat}{a b c m:Sl}{mask:List Int}(hs:Sat h0 A h)(ci:At A i (blk p (C.cells a b c m)))(mi:At A j (sE m 1 (AA .u8 mask)))(n:Nat){x:Int}(hx:x=n)
  (k:Q (if mask=[] then 0 else mask.getD (n % mask.length) 0) h):HB ⟨p,0,none⟩ x Q h:=by
 unfold HB jO
 subst hx
 try simp only[AF,Nat.zero_add]
 have hl:=hs.sl_len mi
 simp only[A6,Nat.mul_one]at hl
 refine⟨_,_,_,hs.ld ci rfl,?_⟩
 by_cases h1:mask=[]
 ·rw[if_pos h1]at k
  subst h1
  rw[if_pos (by simp at hl;simp[←hl])]
  exact k
 ·rw[if_neg h1]at k
  have hp:0<mask.length:=List.length_pos_iff.2 h1
  rw[if_neg (by simp;omega)]
  refine⟨_,_,_,hs.ld ci rfl,?_⟩
  refine⟨_,_,_,hs.ld ci rfl,?_⟩
  obtain⟨q,hq⟩:=hs.sl_some mi (by omega)
  obtain⟨mp,ml,mc⟩:=m
  simp only at hq hl
  subst hq
  have e:(n:Int).tmod (ml:Int)=((n % ml:Nat):Int):=by rw[Int.tmod_eq_emod_of_nonneg (by omega)];omega
  rw[hl]at k
  have hlt:n % ml<ml:=Nat.mod_lt _ (by omega)
  refine⟨by dsimp only;omega,_,rfl,by dsimp only;rw[e];omega,by dsimp only;rw[e];omega,_,?_,k⟩
  dsimp only
  rw[e]
  try simp only[AF,Nat.zero_add,Int.toNat_natCast,Nat.mul_one]
  refine hs.sld mi ?_
  rw[BA,List.getElem?_eq_getElem (by omega)]
  simp[List.getD,List.getElem?_eq_getElem (show n % ml<mask.length by omega)]
theorem Al6{Q:Int->HP}{a b c m:Sl}(hs:Sat h0 A h)(ci:At A i (blk p (C.cells a b c m)))(hl:C.s.blown.length=c.2.1)(j:Int)(k:Q (AT C j C.s.blown.length) h):QP ⟨p,0,none⟩ j Q h:=by
 unfold QP jP
 try simp only[AF,Nat.zero_add]
 refine⟨_,hs.ld ci rfl,?_⟩
 unfold AT at k
 rw[hl]at k
 simp only[AD,A0,decide_eq_true_eq]
 split
 ·simpa[*]using k
 ·rename_i h1
  rw[if_neg h1]at k
  split
  ·rename_i h2;rw[if_pos h2]at k;exact k
  ·rename_i h2;rw[if_neg h2]at k
   refine⟨_,_,_,hs.ld ci rfl,?_⟩
   split
   ·rename_i h3;rw[if_pos h3]at k;exact k
   ·rename_i h3;rw[if_neg h3]at k;exact k
theorem vG{Q:Int->HP}{a b c m:Sl}(hs:Sat h0 A h)(ci:At A i (blk p (C.cells a b c m)))(hl:C.s.pages.length=a.2.1)(page cell:Int)(k:Q (CZ C page cell) h):KI ⟨p,0,none⟩ page cell Q h:=by
 unfold KI jN
 try simp only[AF,Nat.zero_add]
 refine⟨_,hs.ld ci rfl,?_⟩
 unfold CZ AT at k
 rw[hl]at k
 simp only[AD,A0,decide_eq_true_eq]
 split
 ·rename_i h1;simp only[if_pos h1]at k;simpa using k
 ·rename_i h1
  simp only[if_neg h1]at k
  split
  ·rename_i h2;simp only[if_pos h2]at k;simpa using k
  ·rename_i h2;simp only[if_neg h2]at k
   refine⟨_,_,_,hs.ld ci rfl,?_⟩
   split
   ·rename_i h3;simp only[if_pos h3]at k;simpa using k
   ·rename_i h3;simp only[if_neg h3]at k
    simp only[ne_eq,not_true,if_false]at k
    split
    ·rename_i h4;simp only[if_pos h4]at k;exact k
    ·rename_i h4;simp only[if_neg h4]at k
     refine⟨_,hs.ld ci rfl,?_⟩
     split
     ·rename_i h5;simp only[if_pos h5]at k;exact k
     ·rename_i h5;simp only[if_neg h5]at k;exact k
end
end Go.Proofs.YteedolonhdbieaaGreatDoor
end
section
namespace Go.Proofs.YteedolonhdbieaaGreatDoor
open Go Go.Vc
section
variable {h0 h:H} {A:List Ent} {i p:Nat} {C:Cm}
theorem AiV(ok:C.ok)(page:Int):CZ C page 0=AT C page C.s.pages.length:=by
 have h1:=ok.may.cells;have h2:=ok.may.slots
 unfold CZ
 split
 ·rfl
 ·rename_i h3
  have h3:AT C page C.s.pages.length=0:=by simpa using h3
  obtain⟨h4,_,_⟩:=CV h3
  rw[h3]
  unfold AT
  rw[if_neg (by simp[h4]),if_neg (by omega),if_neg (by omega)]
theorem Ao4{Q:HP}(hs:Sat h0 A h)(ci:At A i (AK p C))(k:∀h',Sat h0 (put A i (AK p { C with out:=false })) h'->Q h'):QO ⟨p,0,none⟩ Q h:=by
 unfold QO jL
 obtain⟨⟨w,ms⟩,⟨ok,mb,ml,me⟩,hs⟩:=(hs.front ci).open_;dsimp only[EF,List.cons_append,List.nil_append,Cm.cells]at hs;dsimp only at mb ml me
 try simp only[AF,Nat.zero_add]
 (refine⟨Sat.can hs (by repeat constructor) (by simp),?_⟩;intro _ e;replace hs:=Sat.wr hs (by repeat constructor) e;clear e;simp only[put,AR,List.set]at hs)
 exact k _ (SL (C:={ C with out:=false }) (a:=w.a) (b:=w.b) (c:=w.c) (m:=w.m) ⟨ok.may,ok.fits,ok.typed,ok.left,ok.left2,ok.mask,ok.acts,ok.mlen⟩ mb ml me ci hs)
theorem AnU{Q:HP}{q:Option Addr}{l c:Nat}{bs:List Int}(hs:Sat h0 A h)(ci:At A i (AK p C))(n:Int)(hn:n<2^63)(rd:∀C' h',Sat h0 (put A i (AK p C')) h'->hsv h' q 1 l (AA .u8 bs))(hb:A4 bs)(hl:bs.length≤2^47)
  (k:∀h',Sat h0 (put A i (AK p (D8 C n bs))) h'->Q h'):NJ ⟨p,0,none⟩ n q l c Q h:=by
 unfold NJ jI
 obtain⟨⟨w,ms⟩,⟨ok,mb,ml,me⟩,hs⟩:=(hs.front ci).open_;dsimp only[EF,List.cons_append,List.nil_append,Cm.cells]at hs;dsimp only at mb ml me
 try simp only[AF,Nat.zero_add]
 (refine⟨Sat.can hs (by repeat constructor) (by simp),?_⟩;intro _ e;replace hs:=Sat.wr hs (by repeat constructor) e;clear e;simp only[put,AR,List.set]at hs)
 have ok1:({ D8 C n ms with acts:=C.acts }:Cm).ok:=⟨ok.may,ok.fits,ok.typed,by simp only[D8];split <;> omega,by simp only[D8];split <;> omega,mb,ok.acts,ml⟩
 have rd1:=rd _ _ (SL (C:=D8 C n ms) (a:=w.a) (b:=w.b) (c:=w.c) (m:=w.m) ok1 mb ml (fun _=>rfl) ci hs)
 intro n1 h1 hn
 have rd2:=EC hn.ext rd1 (fun _ _ x=>x)
 replace hs:=Sat.new hs hn
 have hlen:=rd1.1
 simp only[A6,Nat.mul_one]at hlen
 refine⟨_,rd2,Sat.app_new hs rd2.1 rfl (A5 _ _) (by omega) ?_⟩
 intro p' c' h2 hs
 (repeat first | refine⟨_,Sat.ld hs (by repeat constructor) (by rfl),?_⟩ | refine⟨_,_,_,Sat.ld hs (by repeat constructor) (by rfl),?_⟩ | (intro _ _ hn;replace hs:=Sat.new hs hn) | refine⟨Sat.cs hs (by repeat constructor) (by rfl),?_⟩ | (refine⟨Sat.can hs (by repeat constructor) (by simp),?_⟩;intro _ e;replace hs:=Sat.wr hs (by repeat constructor) e;clear e;simp only[put,AR,List.set]at hs))
 have okc:(D8 C n bs).ok:=⟨ok.may,ok.fits,ok.typed,by simp only[D8];split <;> omega,by simp only[D8];split <;> omega,hb,ok.acts,hl⟩
 refine k _ ?_
 replace hs:=Sat.front hs (e:=slE p' _ _ 1 (AA .u8 bs)) (by repeat constructor)
 replace hs:=Sat.front hs (e:=slE _ _ _ 1 (A3 C.s.blown)) (by repeat constructor)
 replace hs:=Sat.front hs (e:=slE _ _ _ 1 (AA .i64 C.s.erases)) (by repeat constructor)
 replace hs:=Sat.front hs (e:=BR 32 _ _) (by repeat constructor)
 replace hs:=Sat.front hs (e:=blk p _) (by repeat constructor)
 simp only[del]at hs
 exact (SL (C:=D8 C n bs) (a:=w.a) (b:=w.b) (c:=w.c) (m:=(p',l,c')) okc hb hl (fun _=>rfl) ci.s.s hs).drop.drop
theorem oH{ms:List Int}(ok:C.ok)(me:0≤C.left->ms=C.mask):0≤C.act.left->ms=C.act.mask:=by
 have:=ok.left
 unfold Cm.act
 split
 ·intro h;dsimp only at h ⊢;exact me (by omega)
 ·intro h;dsimp only at h;omega
theorem pX{ms:List Int}(me:0≤C.left->ms=C.mask)(h:C.left=0)(n:Nat):BS C n=if ms=[] then 0 else ms.getD (n % ms.length) 0:=by
 rw[me (by omega)];unfold BS;rw[if_neg (by simpa using h)]
theorem pY(h:¬C.left=0)(n:Nat):BS C n=255:=by unfold BS;rw[if_pos h]
theorem zP{Q:Int->HP}(hs:Sat h0 A h)(ci:At A i (AK p C))(j:Int)(k:∀h',Sat h0 (put A i (AK p (D6 C j).1)) h'->Q (D6 C j).2 h'):KG ⟨p,0,none⟩ j Q h:=by
 unfold KG jH
 have hs':=hs
 obtain⟨⟨w,ms⟩,⟨ok,mb,ml,me⟩,hs⟩:=(hs.front ci).open_;dsimp only[EF,List.cons_append,List.nil_append,Cm.cells]at hs;dsimp only at mb ml me
 try simp only[AF,Nat.zero_add]
 have hl:=hs.sl_len zs3
 simp only[XK,Nat.mul_one]at hl
 refine Al6 (C:=C) hs .z hl _ ?_
 unfold D6 at k
 by_cases h1:AT C j C.s.blown.length=0
 case neg=>
  rw[if_pos (by simpa using h1)]
  rw[if_pos (by simpa using h1)]at k
  exact k _ (ci.put_self.symm ▸ hs')
 rw[if_neg (by simpa using h1)]
 rw[if_neg (by simpa using h1)]at k
 obtain⟨_,h2,h3⟩:=CV h1
 have hjb:j.toNat<C.s.blown.length:=by omega
 refine oG (C:=C) hs .z ok ?_
 intro h5 hs
 simp only[put]at hs
 obtain⟨q,hq⟩:=hs.sl_some zs3 (by omega)
 obtain⟨w1,w2,⟨cp,cl,cc⟩,w4⟩:=w
 simp only at hq hl
 subst hq
 refine⟨_,_,_,hs.ld .z rfl,?_⟩
 refine⟨_,_,_,hs.ld .z rfl,?_⟩
 refine⟨_,rfl,h2,by(try dsimp only);omega,?_⟩
 try simp only[AF,Nat.zero_add,Nat.mul_one]
 refine⟨_,hs.sld zs3 (by rw[XJ,List.getElem?_eq_getElem hjb];rfl),?_⟩
 have eact:=ok.act
 have fin:∀(b:Bool) h6,(b=(C.s.blown[j.toNat] || !decide (C.left=0) || (bits .and .u8 (if ms=[] then 0 else ms.getD (0 % ms.length) 0) 1 == 1)))->Sat h0 (blk p (C.act.cells w1 w2 (some ⟨q,0,none⟩,cl,cc) w4)::BR 32 w1 C.s.pages::sE w2 1 (AA .i64 C.s.erases)::sE (some ⟨q,0,none⟩,cl,cc) 1 ((A3 C.s.blown).set j.toNat (.bool b))::sE w4 1 (AA .u8 ms)::del A i) h6->
   if decide (C.left=0)=true then Q 8 h6 else Q 0 h6:=by
  intro b h6 hb hs
  have e6:(A3 C.s.blown).set j.toNat (Value.bool b)=A3 (C.s.blown.set j.toNat b):=by simp[A3,List.map_set]
  rw[e6]at hs
  have eb:(if bits .and .u8 (BS C 0) 1=1 then { C.act with s:={ C.s with blown:=C.s.blown.set j.toNat true } } else C.act)={ C.act with s:={ C.s with blown:=C.s.blown.set j.toNat b } }:=by
   by_cases hz:C.left=0
   ·have hb:b=(C.s.blown[j.toNat] || (bits .and .u8 (BS C 0) 1 == 1)):=by rw[hb,pX me hz];simp[hz]
    by_cases h7:bits .and .u8 (BS C 0) 1=1
    ·rw[if_pos h7]
     have:b=true:=by rw[hb];simp[h7]
     rw[this]
    ·rw[if_neg h7]
     have:b=C.s.blown[j.toNat]:=by rw[hb];simp[h7]
     rw[this,List.set_getElem_self hjb]
     have:=DA C
     conv=>rhs;rw[←this]
   ·have:b=true:=by rw[hb];simp[hz]
    rw[this,pY hz,if_pos (by decide)]
  rw[eb]at k
  have ec:({ C.act with s:={ C.s with blown:=C.s.blown.set j.toNat b } }:Cm).ok:=
   ⟨eact.may,⟨by have:=eact.fits.pages;rw[DA]at this;exact this,by have:=eact.fits.cells;rw[DA]at this;exact this,by have:=eact.fits.erases;rw[DA]at this;exact this,
    by have:=eact.fits.blown;rw[DA]at this;simpa using this⟩,by have:=eact.typed;rw[DA]at this;exact⟨this.bytes,this.erases⟩,eact.left,eact.left2,eact.mask,eact.acts,eact.mlen⟩
  have hk:=k _ (SL (C:={ C.act with s:={ C.s with blown:=C.s.blown.set j.toNat b } }) (a:=w1) (b:=w2) (c:=(some ⟨q,0,none⟩,cl,cc)) (m:=w4) ec mb ml (oH ok me) ci hs)
  unfold DL at hk
  by_cases hz:C.left=0
  ·simpa[hz]using hk
  ·simpa[hz]using hk
 have put1:∀(b:Bool) h6 (hs6:h6=hwr h5 ⟨q,j.toNat,none⟩ [.bool b]),Sat h0 (blk p (C.act.cells w1 w2 (some ⟨q,0,none⟩,cl,cc) w4)::BR 32 w1 C.s.pages::sE w2 1 (AA .i64 C.s.erases)::sE (some ⟨q,0,none⟩,cl,cc) 1 ((A3 C.s.blown).set j.toNat (.bool b))::sE w4 1 (AA .u8 ms)::del A i) h6:=by
  intro b h6 e6
  exact hs.swr zs3 e6 (by(try dsimp only);omega) (by simp;omega) (by simp)
 have can1:AC h5 ⟨q,j.toNat,none⟩ 1:=hs.scan zs3 (by(try dsimp only);omega) (by simp;omega)
 split
 ·rename_i h6
  refine⟨_,rfl,h2,by(try dsimp only);omega,?_⟩
  try simp only[AF,Nat.zero_add,Nat.mul_one]
  refine⟨can1,fun h7 e7=>fin true h7 (by simp[h6]) (put1 true h7 e7)⟩
 ·rename_i h6
  split
  ·rename_i h8
   refine⟨_,rfl,h2,by(try dsimp only);omega,?_⟩
   try simp only[AF,Nat.zero_add,Nat.mul_one]
   refine⟨can1,fun h7 e7=>fin true h7 (by simpa using Or.inl (Or.inr (by simpa using h8))) (put1 true h7 e7)⟩
  ·rename_i h8
   refine ZL (C:=C.act) hs .z zs4 0 rfl ?_
   refine⟨AI (hs.ld .z rfl),_,rfl,h2,by(try dsimp only);omega,?_⟩
   try simp only[AF,Nat.zero_add,Nat.mul_one]
   refine⟨can1,fun h7 e7=>fin _ h7 ?_ (put1 _ h7 e7)⟩
   have h9:C.s.blown[j.toNat]=false:=by simpa using h6
   have h10:(!decide (C.left=0))=false:=by simpa using h8
   rw[h9,h10];simp
end
end Go.Proofs.YteedolonhdbieaaGreatDoor
end
section
namespace Go.Proofs.YteedolonhdbieaaGreatDoor
open Go Go.Vc
theorem AoW{row c:List Int}{k i:Nat}{v:Int}(hk:(k+1)*32≤row.length)(hc:c.length=32)(hi:i<32):(D0 row k c).set (k*32+i) v=D0 row k (c.set i v):=by
 have h1:(row.take (k*32)).length=k*32:=by simp;omega
 simp only[D0]
 rw[List.append_assoc,List.append_assoc,List.set_append_right _ _ (by omega),List.set_append_left _ _ (by omega)]
 congr 3;omega
section
variable {h0 h:H} {A:List Ent} {i p:Nat} {C:Cm}
theorem aZ{Q:Int->HP}(hs:Sat h0 A h)(ci:At A i (AK p C))(page cell:Int)(x:List Int)(hx:x.length=32)(k:∀h',Sat h0 (put A i (AK p (CS C page cell x).1)) h'->Q (CS C page cell x).2 h'):
  G9 ⟨p,0,none⟩ page cell x Q h:=by
 unfold G9 jK
 try simp only[AF,Nat.zero_add,List.append_nil]
 intro nx _ hn
 replace hs:=Sat.new hs hn
 clear hn
 have hs':=hs
 obtain⟨⟨w,ms⟩,⟨ok,mb,ml,me⟩,hs⟩:=(hs.front ci.s).open_
 dsimp only[EF,List.cons_append,List.nil_append]at hs
 dsimp only at mb ml me
 have hlp:=(hs.rdM zs1).len
 refine vG (C:=C) hs .z hlp _ _ ?_
 unfold CS at k
 by_cases h1:CZ C page cell=0
 case neg=>
  rw[if_pos (by simpa using h1)]
  rw[if_pos (by simpa using h1)]at k
  exact k _ (ci.put_self.symm ▸ hs'.drop)
 rw[if_neg (by simpa using h1)]
 rw[if_neg (by simpa using h1)]at k
 obtain⟨_,h2,h3,h4,h5,hj,hl,hk⟩:=ZJ ok h1
 have erow:FI C page=C.s.pages[page.toNat]:=by simp[FI,List.getD,List.getElem?_eq_getElem hj]
 rw[erow]at k
 refine oG (C:=C) hs .z ok ?_
 intro h6 hs
 have eact:=ok.act
 simp only[put,Cm.cells]at hs
 refine⟨_,_,_,hs.ld .z rfl,?_⟩
 have rd:=hs.rdM zs1
 obtain⟨q,y,q',e1,e2,e3,e4,e5⟩:=rd.cell hj hk
 rw[e1]
 refine⟨_,rfl,h2,by omega,?_⟩
 refine⟨_,_,_,e2,?_⟩
 refine⟨_,e4,h4,by omega,?_⟩
 have hcl:=FA hk
 refine⟨_,hcl,e5,?_⟩
 clear e1 e2 e3 e4 e5 q q' y
 intro no _ hn
 replace hs:=Sat.new hs hn
 clear hn
 (refine⟨Sat.can hs (by repeat constructor) (by simp),?_⟩;intro _ e;replace hs:=Sat.wra hs (by repeat constructor) e (by simp[*]);clear e;simp only[put]at hs)
 intro J hJ
 have hob:=ok.typed.bytes _ (List.getElem_mem hj)
 obtain⟨⟨yp,yl,yc⟩,hd,R,e8,hs,give⟩:=(hs.front zs2).row_take hj
 obtain⟨⟨pp,pl,pc⟩,w2,w3,w4⟩:=w
 replace hlp:C.s.pages.length=pl:=hlp
 obtain⟨qb,hq⟩:=hs.sl_some zs1 (show 0<pl by omega)
 dsimp only at hq
 subst hq
 have hyl:=hs.sl_len .z
 simp only[A6]at hyl
 obtain⟨yb,hy⟩:=hs.sl_some .z (show 0<yl by omega)
 dsimp only at hy
 subst hy
 generalize C.s.pages[page.toNat]=row at *
 let g:=fun(i:Nat) (now:Int)=>bits .andNot .u8 now (bits .andNot .u8 (BS C i) (x.getD i 0))
 have hcl2:∀n,(BP g n (AX row cell.toNat)).length=32:=fun n=>by simpa using hcl
 have erow0:D0 row cell.toNat (AX row cell.toNat)=row:=by
  unfold D0 AX
  rw[List.append_assoc,←List.drop_drop,List.take_append_drop,List.take_append_drop]
 refine BB 32 (fun n h=>Sat h0 (sE (some ⟨yb,0,none⟩,yl,yc) 32 (AA .u8 (D0 row cell.toNat (BP g n (AX row cell.toNat))))::sE (some ⟨qb,0,none⟩,pl,pc) 1 hd::((blk no (AA .u8 (AX row cell.toNat))::blk p (C.act.cells (some ⟨qb,0,none⟩,pl,pc) w2 w3 w4) ::
   sE w2 1 (AA .i64 C.s.erases)::sE w3 1 (A3 C.s.blown)::sE w4 1 (AA .u8 ms)::blk nx (AA .u8 x)::del A i)++R)) h) ?_ ?_ 0 _ (by omega) (by rw[aO,erow0];exact hs)
 ·intro n h7 hn hs hk'
  apply hJ
  rw[AD,if_pos (by simp;omega)]
  simp only[Int.toNat_natCast,Nat.mul_one]
  have exn:x.getD n 0=x[n]:=by simp[List.getD,List.getElem?_eq_getElem (show n<x.length by omega)]
  have eno:(AA .u8 (AX row cell.toNat))[n]?=some (.int .u8 ((AX row cell.toNat)[n]'(by omega))):=by rw[BA,List.getElem?_eq_getElem (by omega)];rfl
  have enx:(AA .u8 x)[n]?=some (.int .u8 x[n]):=by rw[BA,List.getElem?_eq_getElem (by omega)];rfl
  refine⟨by omega,by omega,_,hs.ld zs2 eno,by omega,by omega,_,hs.ld zs7 enx,?_⟩
  have fin:∀v h8,v=g n ((AX row cell.toNat)[n]'(by omega))->h8=hwr h7 ⟨yb,cell.toNat*32+n,none⟩ [.int .u8 v]->J [SV.dv (DV.one (Value.int .i64 (IntKind.i64.wrap (n+1))))] h8:=by
   intro v h8 ev e8
   have hsW:=hs.swr .z e8 (show 0<yl by omega) (by rw[A6,bG hk (hcl2 n)];simp;omega) (by simp)
   rw[AU (by omega)]
   refine hk' _ ?_
   simp only[FN,OR,E4,put]at hsW
   rw[AoW hk (hcl2 n) hn,ev,SH g n _ (by omega)]at hsW
   exact hsW
  have hcan':AC h7 ⟨yb,cell.toNat*32+n,none⟩ 1:=hs.scan .z (show 0<yl by omega) (by rw[A6,bG hk (hcl2 n)];omega)
  have ld1:hc h7 ⟨p,7,none⟩=some (.slice (some ⟨qb,0,none⟩) pl pc):=hs.ld zs3 rfl
  have ld2:hc h7 ⟨qb,page.toNat,none⟩=some (.slice (some ⟨yb,0,none⟩) yl yc):=hs.sld zs1 e8
  split
  ·rename_i hcut
   have hcut:C.left=0:=by simpa using hcut
   refine⟨by omega,by omega,_,hs.ld zs2 eno,?_⟩
   refine ZL (C:=C.act) hs zs3 zs6 n rfl ?_
   refine⟨AI (hs.ld zs2 eno),?_⟩
   refine ZL (C:=C.act) hs zs3 zs6 n rfl ?_
   refine⟨AI (hs.ld zs2 eno),_,_,_,ld1,_,rfl,h2,by omega,?_⟩
   try simp only[AF,Nat.zero_add]
   refine⟨_,_,_,ld2,_,rfl,h4,by omega,by omega,by omega,?_⟩
   try simp only[AF,Nat.zero_add]
   refine⟨hcan',fun h8 e9=>fin _ h8 ?_ e9⟩
   rw[AkA]
   simp only[g]
   rw[pX me hcut,exn]
  ·rename_i hcut
   have hcut:¬C.left=0:=by simpa using hcut
   refine⟨_,_,_,ld1,_,rfl,h2,by omega,?_⟩
   try simp only[AF,Nat.zero_add,Nat.mul_one]
   refine⟨_,_,_,ld2,_,rfl,h4,by omega,by omega,by omega,?_⟩
   try simp only[AF,Nat.zero_add]
   refine⟨hcan',fun h8 e9=>fin _ h8 ?_ e9⟩
   rw[Al5]
   simp only[g]
   rw[pY hcut,exn]
 ·intro h7 hs
  apply hJ
  rw[AD,if_neg (by simp)]
  have okR:(C.act.setPage page.toNat (D0 row cell.toNat (BP g 32 (AX row cell.toNat)))).ok:=by
   refine eact.setPage ?_ ?_
   ·rw[bG hk (hcl2 32),E9];exact hl
   ·intro n hn
    rcases AaK hn with hn | hn
    ·exact hob n hn
    ·exact aN (P:=CC) (fun v hv=>hob v (XL hv)) (fun i v hv=>ZN _ _ _) n hn
  replace hs:=(give _ _ _ hs)
  replace hs:=Sat.front hs (e:=slE w4.1 _ _ 1 (AA .u8 ms)) (by repeat constructor)
  replace hs:=Sat.front hs (e:=slE w3.1 _ _ 1 (A3 C.s.blown)) (by repeat constructor)
  replace hs:=Sat.front hs (e:=slE w2.1 _ _ 1 (AA .i64 C.s.erases)) (by repeat constructor)
  replace hs:=Sat.front hs (e:=BR 32 _ _) (by repeat constructor)
  replace hs:=Sat.front hs (e:=blk p _) (by repeat constructor)
  simp only[del]at hs
  have hR:=SL (C:=C.act.setPage page.toNat (D0 row cell.toNat (BP g 32 (AX row cell.toNat)))) (a:=(some ⟨qb,0,none⟩,pl,pc)) (b:=w2) (c:=w3) (m:=w4) okR mb ml (oH ok me) ci.s.s (by rw[Cm.setPage,DA];exact hs)
  have hq:=k _ hR.drop.drop
  unfold DL at hq
  by_cases hz:C.left=0
  ·simpa[hz]using hq
  ·simpa[hz]using hq
end
end Go.Proofs.YteedolonhdbieaaGreatDoor
/- Contracts of the document's chip: Erase,Copy,Lay. Own work. -/
namespace Go.Proofs.YteedolonhdbieaaGreatDoor
open Go Go.Vc
section
variable {h0 h:H} {A:List Ent} {i p:Nat} {C:Cm}
theorem zR{Q:Int->HP}(hs:Sat h0 A h)(ci:At A i (AK p C))(page:Int)(k:∀h',Sat h0 (put A i (AK p (CA C page).1)) h'->Q (CA C page).2 h'):
  KH ⟨p,0,none⟩ page Q h:=by
 unfold KH jJ
 try simp only[AF,Nat.zero_add]
 have hs':=hs
 obtain⟨⟨w,ms⟩,⟨ok,mb,ml,me⟩,hs⟩:=(hs.front ci).open_
 dsimp only[EF,List.cons_append,List.nil_append]at hs
 dsimp only at mb ml me
 have hlp:=(hs.rdM zs1).len
 have hle:=hs.sl_len zs2
 simp only[A6,Nat.mul_one]at hle
 refine vG (C:=C) hs .z hlp _ _ ?_
 rw[AiV ok]
 unfold CA at k
 by_cases h1:AT C page C.s.pages.length=0
 case neg=>
  rw[if_pos (by simpa using h1)]
  rw[if_pos (by simpa using h1)]at k
  exact k _ (ci.put_self.symm ▸ hs')
 rw[if_neg (by simpa using h1)]
 rw[if_neg (by simpa using h1)]at k
 obtain⟨_,h2,h3⟩:=CV h1
 have hf1:=ok.fits.pages
 have hf2:=ok.fits.erases
 have hje:page.toNat<C.s.erases.length:=by omega
 have hjp:page.toNat<C.s.pages.length:=by omega
 have eer:C.s.erases.getD page.toNat 0=C.s.erases[page.toNat]:=by simp[List.getD,List.getElem?_eq_getElem hje]
 have erow:FI C page=C.s.pages[page.toNat]:=by simp[FI,List.getD,List.getElem?_eq_getElem hjp]
 rw[eer,erow]at k
 obtain⟨⟨pp,pl,pc⟩,⟨ep,el,ec⟩,w3,w4⟩:=w
 replace hle:C.s.erases.length=el:=hle
 replace hlp:C.s.pages.length=pl:=hlp
 obtain⟨eb,he⟩:=hs.sl_some zs2 (show 0<el by omega)
 dsimp only at he
 subst he
 refine⟨_,_,_,hs.ld .z rfl,_,rfl,h2,by(try dsimp only);omega,?_⟩
 try simp only[AF,Nat.zero_add,Nat.mul_one]
 refine⟨_,hs.sld zs2 (by rw[BA,List.getElem?_eq_getElem hje];rfl),_,hs.ld .z rfl,?_⟩
 by_cases h4:C.cfg.erases≤C.s.erases[page.toNat]
 case pos=>
  rw[A0,if_pos (by simpa using h4)]
  rw[if_pos h4]at k
  exact k _ (ci.put_self.symm ▸ hs')
 rw[A0,if_neg (by simpa using h4)]
 rw[if_neg h4]at k
 refine oG (C:=C) hs .z ok ?_
 intro h6 hs
 have eact:=ok.act
 simp only[put,Cm.cells]at hs
 refine⟨_,_,_,hs.ld .z rfl,_,rfl,h2,by(try dsimp only);omega,?_⟩
 try simp only[AF,Nat.zero_add,Nat.mul_one]
 refine⟨_,hs.sld zs2 (by rw[BA,List.getElem?_eq_getElem hje];rfl),_,rfl,h2,by(try dsimp only);omega,?_⟩
 try simp only[AF,Nat.zero_add,Nat.mul_one]
 refine⟨hs.scan zs2 (show 0<el by omega) (by simp;omega),?_⟩
 intro h7 e7
 replace hs:=hs.swr zs2 e7 (show 0<el by omega) (by simp;omega) (by simp)
 simp only[put,AR,E4]at hs
 have hce:=ok.typed.erases _ (List.getElem_mem hje)
 have hcm:=ok.may.erases
 rw[show IntKind.i64.wrap (C.s.erases[page.toNat]+1)=C.s.erases[page.toNat]+1 by rw[IntKind.wrap_i64];omega]at hs
 obtain⟨⟨yp,yl,yc⟩,hd,R,e8,hs,give⟩:=(hs.front zs1).row_take hjp
 obtain⟨qb,hq⟩:=hs.sl_some zs1 (show 0<pl by omega)
 dsimp only at hq
 subst hq
 have hcl:=ok.fits.cells _ (List.getElem_mem hjp)
 have hcc:=ok.may.cells
 have hcs':=ok.may.slots
 have hyl:=hs.sl_len .z
 simp only[A6]at hyl
 obtain⟨yb,hy⟩:=hs.sl_some .z (show 0<yl by omega)
 dsimp only at hy
 subst hy
 have hbr:=ok.typed.bytes _ (List.getElem_mem hjp)
 have ecells:C.act.cfg=C.cfg:=E9 C
 generalize C.s.pages[page.toNat]=row at *
 let g:=fun(i:Nat) (b:Int)=>bits .or .u8 b (BS C i)
 intro J hJ
 have hmg:∀n,(BP g n row).length=row.length:=fun n=>by simp
 refine BB C.cfg.cells.toNat (fun k h=>Sat h0 (sE (some ⟨yb,0,none⟩,yl,yc) 32 (AA .u8 (BP g (32*k) row))::sE (some ⟨qb,0,none⟩,pl,pc) 1 hd::((blk p (C.act.cells (some ⟨qb,0,none⟩,pl,pc) (some ⟨eb,0,none⟩,el,ec) w3 w4) ::
   sE (some ⟨eb,0,none⟩,el,ec) 1 (AA .i64 (C.s.erases.set page.toNat (C.s.erases[page.toNat]+1)))::sE w3 1 (A3 C.s.blown)::sE w4 1 (AA .u8 ms)::del A i)++R)) h) ?_ ?_ 0 _ (by omega) (by rw[Nat.mul_zero,aO];exact hs)
 ·intro k h8 hk hs hk'
  apply hJ
  refine⟨_,hs.ld zs2 rfl,?_⟩
  rw[AD,if_pos (by rw[ecells];simp;omega)]
  intro J2 hJ2
  refine BB 32 (fun j h=>Sat h0 (sE (some ⟨yb,0,none⟩,yl,yc) 32 (AA .u8 (BP g (32*k+j) row))::sE (some ⟨qb,0,none⟩,pl,pc) 1 hd::((blk p (C.act.cells (some ⟨qb,0,none⟩,pl,pc) (some ⟨eb,0,none⟩,el,ec) w3 w4) ::
   sE (some ⟨eb,0,none⟩,el,ec) 1 (AA .i64 (C.s.erases.set page.toNat (C.s.erases[page.toNat]+1)))::sE w3 1 (A3 C.s.blown)::sE w4 1 (AA .u8 ms)::del A i)++R)) h) ?_ ?_ 0 _ (by omega) (by rw[Nat.add_zero];exact hs)
  ·intro j h9 hj hs hk2
   apply hJ2
   rw[AD,if_pos (by simp;omega)]
   simp only[Int.toNat_natCast,Nat.mul_one]
   have hlt:k*32+j<row.length:=by omega
   have ea:(BP g (32*k+j) row)[k*32+j]?=some row[k*32+j]:=yZ (by omega) hlt
   have eb':(AA .u8 (BP g (32*k+j) row))[k*32+j]?=some (.int .u8 row[k*32+j]):=by rw[BA,ea];rfl
   have ld1:hc h9 ⟨p,7,none⟩=some (.slice (some ⟨qb,0,none⟩) pl pc):=hs.ld zs2 rfl
   have ld2:hc h9 ⟨qb,page.toNat,none⟩=some (.slice (some ⟨yb,0,none⟩) yl yc):=hs.sld zs1 e8
   have hcan':AC h9 ⟨yb,k*32+j,none⟩ 1:=hs.scan .z (show 0<yl by omega) (by simp;omega)
   have fin:∀v h8,v=g (k*32+j) row[k*32+j]->h8=hwr h9 ⟨yb,k*32+j,none⟩ [.int .u8 v]->J2 [SV.dv (DV.one (Value.int .i64 (IntKind.i64.wrap (j+1))))] h8:=by
    intro v h10 ev e10
    have hsW:=hs.swr .z e10 (show 0<yl by omega) (by simp;omega) (by simp)
    rw[AU (by omega)]
    refine hk2 _ ?_
    simp only[FN,OR,E4,put]at hsW
    have e11:(BP g (32*k+j) row).set (k*32+j) v=BP g (32*k+(j+1)) row:=by
     have:=SH g (32*k+j) row (by omega)
     rw[show 32*k+(j+1)=32*k+j+1 by omega,←this]
     have e12:32*k+j=k*32+j:=by omega
     simp only[e12,ev]
    rw[e11]at hsW
    exact hsW
   split
   ·rename_i hcut
    have hcut:C.left=0:=by simpa using hcut
    refine⟨_,_,_,ld1,_,rfl,h2,by(try dsimp only);omega,?_⟩
    try simp only[AF,Nat.zero_add]
    refine⟨_,_,_,ld2,_,rfl,by omega,by(try dsimp only);omega,by omega,by omega,?_⟩
    try simp only[AF,Nat.zero_add]
    refine⟨_,hs.sld .z eb',?_⟩
    have ew:IntKind.i64.wrap (IntKind.i64.wrap (32*(k:Int))+(j:Int))=((k*32+j:Nat):Int):=by rw[AL (n:=32*(k:Int)) (by omega),AL (by omega)];omega
    refine ZL (C:=C.act) hs zs2 zs5 (k*32+j) ew ?_
    refine⟨AI (hs.sld .z eb'),AI ld2,AI ld1,?_⟩
    refine⟨_,_,_,ld1,_,rfl,h2,by(try dsimp only);omega,?_⟩
    try simp only[AF,Nat.zero_add]
    refine⟨_,_,_,ld2,_,rfl,by omega,by(try dsimp only);omega,by omega,by omega,?_⟩
    try simp only[AF,Nat.zero_add]
    refine⟨hcan',fun h8 e9=>fin _ h8 ?_ e9⟩
    simp only[g]
    rw[pX me hcut]
   ·rename_i hcut
    have hcut:¬C.left=0:=by simpa using hcut
    refine⟨_,_,_,ld1,_,rfl,h2,by(try dsimp only);omega,?_⟩
    try simp only[AF,Nat.zero_add]
    refine⟨_,_,_,ld2,_,rfl,by omega,by(try dsimp only);omega,by omega,by omega,?_⟩
    try simp only[AF,Nat.zero_add]
    refine⟨hcan',fun h8 e9=>fin _ h8 ?_ e9⟩
    simp only[g]
    rw[pY hcut,wR]
  ·intro h9 hs
   apply hJ2
   rw[AD,if_neg (by simp)]
   rw[AU (by omega)]
   exact hk' _ hs
 ·intro h8 hs
  apply hJ
  refine⟨_,hs.ld zs2 rfl,?_⟩
  rw[AD,if_neg (by rw[ecells];simp;omega)]
  have e12:BP g (32*C.cfg.cells.toNat) row=D9 row (BS C):=by
   unfold D9
   have:32*C.cfg.cells.toNat=row.length:=by omega
   rw[this]
  rw[e12]at hs
  replace hs:=(give _ _ _ hs).front zs1
  have hce':((C.act.setErase page.toNat (C.s.erases[page.toNat]+1)).setPage page.toNat (D9 row (BS C))).ok:=by
   refine (eact.setErase (by omega)).setPage ?_ ?_
   ·show ((D9 row (BS C)).length:Int)=32*C.act.cfg.cells
    rw[E9,←e12,hmg];exact hcl
   ·refine aN (P:=CC) (fun v hv=>hbr v hv) (fun i v hv=>ZN _ _ _)
  have hR:=SL (C:=(C.act.setErase page.toNat (C.s.erases[page.toNat]+1)).setPage page.toNat (D9 row (BS C))) (a:=(some ⟨qb,0,none⟩,pl,pc)) (b:=(some ⟨eb,0,none⟩,el,ec)) (c:=w3) (m:=w4) hce' mb ml (oH ok me) ci (by rw[Cm.setPage,Cm.setErase,DA];exact hs)
  have hq:=k _ hR
  unfold DL at hq
  by_cases hz:C.left=0
  ·simpa[hz]using hq
  ·simpa[hz]using hq
end
end Go.Proofs.YteedolonhdbieaaGreatDoor
end
section
namespace Go.Proofs.YteedolonhdbieaaGreatDoor
open Go Go.Vc
section
variable {h0 h:H} {A:List Ent} {i p:Nat} {C:Cm}
theorem qN{h:H}{a:Sl}{rows:List (List Int)}(r:RdM h 32 a rows){j:Nat}(hj:j<rows.length):
  ∃q x,a.1=some q/\hc h (q.add (j*1))=some (Sl.v x)/\rows[j].length=x.2.1*32:=by
 obtain⟨q,x,h1,h2,h3⟩:=r.at hj
 exact⟨q,x,h1,h2,by have:=h3.1;simpa using this⟩
theorem AiD{a b c a2 b2 c2:Sl}{s:St}{Q:Bool->HP}(hs:Sat h0 A h)(rd1:∀h',Sat h0 A h'->RdS h' a b c s)(rd2:∀h',Sat h0 A h'->RdS h' a2 b2 c2 s)
  (sm1:s.pages.length<2^62) (sm2:s.erases.length<2^62) (sm3:s.blown.length<2^62) (sm4:∀l,l∈s.pages->l.length<2^62) (k:∀h',Sat h0 A h'->Q true h'):
  QT a.1 a.2.1 a.2.2 b.1 b.2.1 b.2.2 c.1 c.2.1 c.2.2 a2.1 a2.2.1 a2.2.2 b2.1 b2.2.1 b2.2.2 c2.1 c2.2.1 c2.2.2 Q h:=by
 unfold QT jV
 try simp only[AF,Nat.zero_add]
 intro n1 _ hn;replace hs:=Sat.new hs hn
 intro n2 h2 hn;replace hs:=Sat.new hs hn
 intro J26 hJ26
 have r1:=rd1 _ hs.drop.drop
 have r2:=rd2 _ hs.drop.drop
 have l1:=r1.pg.len;have l2:=r2.pg.len
 have l3:s.erases.length=b.2.1:=by have:=r1.er.1;simpa using this
 have l4:s.erases.length=b2.2.1:=by have:=r2.er.1;simpa using this
 have l5:s.blown.length=c.2.1:=by have:=r1.bl.1;simpa using this
 have l6:s.blown.length=c2.2.1:=by have:=r2.bl.1;simpa using this
 refine⟨_,_,_,Sat.ld hs (by repeat constructor) (by rfl),?_⟩
 refine⟨_,_,_,Sat.ld hs (by repeat constructor) (by rfl),?_⟩
 rw[if_neg (by simp;omega)]
 refine⟨_,_,_,Sat.ld hs (by repeat constructor) (by rfl),?_⟩
 refine⟨_,_,_,Sat.ld hs (by repeat constructor) (by rfl),?_⟩
 rw[if_neg (by simp;omega)]
 refine⟨_,_,_,Sat.ld hs (by repeat constructor) (by rfl),?_⟩
 refine⟨_,_,_,Sat.ld hs (by repeat constructor) (by rfl),?_⟩
 rw[if_neg (by simp;omega)]
 apply hJ26
 intro J28 hJ28
 refine BB a.2.1 (fun i h'=>h'=h2) ?_ ?_ 0 _ (by omega) rfl
 ·rintro j h' hj rfl hk
  apply hJ28
  refine⟨_,_,_,Sat.ld hs (by repeat constructor) (by rfl),?_⟩
  rw[AD,if_pos (by simp;omega)]
  have hj1:j<s.pages.length:=by omega
  obtain⟨q1,x1,e1,e2,e3⟩:=qN r1.pg hj1
  obtain⟨q2,x2,f1,f2,f3⟩:=qN r2.pg hj1
  refine⟨_,_,_,Sat.ld hs (by repeat constructor) (by rfl),?_⟩
  refine⟨_,e1,by omega,by omega,_,_,_,e2,?_⟩
  refine⟨_,_,_,Sat.ld hs (by repeat constructor) (by rfl),?_⟩
  refine⟨_,f1,by omega,by omega,_,_,_,f2,?_⟩
  have hxl:=sm4 _ (List.getElem_mem hj1)
  rw[if_neg (by simp;omega)]
  intro J48 hJ48
  refine BB x1.2.1 (fun i h2=>h2=h') ?_ ?_ 0 _ (by omega) rfl
  ·rintro m h2 hm rfl hk2
   apply hJ48
   have hmk:(m+1)*32≤s.pages[j].length:=by omega
   obtain⟨u1,y1,v1,g1,g2,g3,g4,g5⟩:=r1.pg.cell hj1 hmk
   obtain⟨u2,y2,v2,k1,k2,k3,k4,k5⟩:=r2.pg.cell hj1 hmk
   refine⟨_,_,_,Sat.ld hs (by repeat constructor) (by rfl),?_⟩
   refine⟨_,g1,by omega,by omega,_,_,_,g2,?_⟩
   rw[AD,if_pos (by simp;omega)]
   refine⟨_,_,_,Sat.ld hs (by repeat constructor) (by rfl),?_⟩
   refine⟨_,g1,by omega,by omega,_,_,_,g2,?_⟩
   refine⟨_,g4,by omega,by omega,_,FA hmk,by simpa using g5,?_⟩
   refine⟨_,_,_,Sat.ld hs (by repeat constructor) (by rfl),?_⟩
   refine⟨_,k1,by omega,by omega,_,_,_,k2,?_⟩
   refine⟨_,k4,by omega,by omega,_,FA hmk,by simpa using k5,?_⟩
   rw[if_neg (by simp),AU (by omega)]
   exact hk2 _ rfl
  ·rintro h2 rfl
   apply hJ48
   refine⟨_,_,_,Sat.ld hs (by repeat constructor) (by rfl),?_⟩
   refine⟨_,e1,by omega,by omega,_,_,_,e2,?_⟩
   rw[AD,if_neg (by simp),AU (by omega)]
   exact hk _ rfl
 ·rintro h' rfl
  apply hJ28
  refine⟨_,_,_,Sat.ld hs (by repeat constructor) (by rfl),?_⟩
  rw[AD,if_neg (by simp)]
  intro J78 hJ78
  refine BB b.2.1 (fun i h2=>h2=h') ?_ ?_ 0 _ (by omega) rfl
  ·rintro j h2 hj rfl hk
   apply hJ78
   have hj1:j<s.erases.length:=by omega
   obtain⟨q1,e1,e2⟩:=FP r1.er (i:=j) (v:=.int .i64 s.erases[j]) (by rw[BA,List.getElem?_eq_getElem hj1];rfl)
   obtain⟨q2,f1,f2⟩:=FP r2.er (i:=j) (v:=.int .i64 s.erases[j]) (by rw[BA,List.getElem?_eq_getElem hj1];rfl)
   refine⟨_,_,_,Sat.ld hs (by repeat constructor) (by rfl),?_⟩
   rw[AD,if_pos (by simp;omega)]
   refine⟨_,_,_,Sat.ld hs (by repeat constructor) (by rfl),?_⟩
   refine⟨_,e1,by omega,by omega,_,by simpa using e2,?_⟩
   refine⟨_,_,_,Sat.ld hs (by repeat constructor) (by rfl),?_⟩
   refine⟨_,f1,by omega,by omega,_,by simpa using f2,?_⟩
   rw[if_neg (by simp),AU (by omega)]
   exact hk _ rfl
  ·rintro h2 rfl
   apply hJ78
   refine⟨_,_,_,Sat.ld hs (by repeat constructor) (by rfl),?_⟩
   rw[AD,if_neg (by simp)]
   intro J94 hJ94
   refine BB c.2.1 (fun i h3=>h3=h2) ?_ ?_ 0 _ (by omega) rfl
   ·rintro j h3 hj rfl hk
    apply hJ94
    have hj1:j<s.blown.length:=by omega
    obtain⟨q1,e1,e2⟩:=FP r1.bl (i:=j) (v:=.bool s.blown[j]) (by rw[XJ,List.getElem?_eq_getElem hj1];rfl)
    obtain⟨q2,f1,f2⟩:=FP r2.bl (i:=j) (v:=.bool s.blown[j]) (by rw[XJ,List.getElem?_eq_getElem hj1];rfl)
    refine⟨_,_,_,Sat.ld hs (by repeat constructor) (by rfl),?_⟩
    rw[AD,if_pos (by simp;omega)]
    refine⟨_,_,_,Sat.ld hs (by repeat constructor) (by rfl),?_⟩
    refine⟨_,e1,by omega,by omega,_,by simpa using e2,?_⟩
    refine⟨_,_,_,Sat.ld hs (by repeat constructor) (by rfl),?_⟩
    refine⟨_,f1,by omega,by omega,_,by simpa using f2,?_⟩
    rw[if_neg (by simp),AU (by omega)]
    exact hk _ rfl
   ·rintro h3 rfl
    apply hJ94
    refine⟨_,_,_,Sat.ld hs (by repeat constructor) (by rfl),?_⟩
    rw[AD,if_neg (by simp)]
    exact k _ hs.drop.drop
end
end Go.Proofs.YteedolonhdbieaaGreatDoor
/- Contracts of the document's chip: Copy,Lay. Own work. -/
namespace Go.Proofs.YteedolonhdbieaaGreatDoor
open Go Go.Vc
section
variable {h0 h:H} {A:List Ent} {i p:Nat} {C:Cm}
theorem AdU{a b c':Sl}{s:St}(c:Cfg)(hm:c.may){Q:Bool->HP}(hs:Sat h0 A h)(rd:∀h',Sat h0 A h'->RdS h' a b c' s)
  (k1:¬s.lays c->∀h',Sat h0 A h'->Q false h') (k2:s.lays c->∀h',Sat h0 A h'->Q true h'):
  QQ c.cells c.slots c.fuses c.step c.keys c.erases c.area a.1 a.2.1 a.2.2 b.1 b.2.1 b.2.2 c'.1 c'.2.1 c'.2.2 Q h:=by
 unfold QQ jR
 try simp only[AF,Nat.zero_add]
 intro n1 _ hn;replace hs:=Sat.new hs hn
 intro n2 h2 hn;replace hs:=Sat.new hs hn
 refine⟨_,Sat.ld hs (by repeat constructor) (by rfl),?_⟩
 simp only[wnp hm,wnf hm]
 have hnp:=hm.np
 have hnf:=hm.nf
 have hcl:=hm.cells
 intro J25 hJ25
 have r1:=rd _ hs.drop.drop
 have l1:=r1.pg.len
 have l2:s.erases.length=b.2.1:=by have:=r1.er.1;simpa using this
 have l3:s.blown.length=c'.2.1:=by have:=r1.bl.1;simpa using this
 have bad:¬s.lays c->Q false h2:=fun nf=>k1 nf _ hs.drop.drop
 refine⟨_,_,_,Sat.ld hs (by repeat constructor) (by rfl),?_⟩
 by_cases e1:(s.pages.length:Int)=c.np
 case neg=>rw[if_pos (by simp;omega)];exact bad (fun f=>e1 f.fits.pages)
 rw[if_neg (by simp;omega)]
 refine⟨_,_,_,Sat.ld hs (by repeat constructor) (by rfl),?_⟩
 by_cases e2:(s.erases.length:Int)=c.np
 case neg=>rw[if_pos (by simp;omega)];exact bad (fun f=>e2 f.fits.erases)
 rw[if_neg (by simp;omega)]
 refine⟨_,_,_,Sat.ld hs (by repeat constructor) (by rfl),?_⟩
 refine⟨_,Sat.ld hs (by repeat constructor) (by rfl),?_⟩
 refine⟨_,Sat.ld hs (by repeat constructor) (by rfl),?_⟩
 refine⟨_,Sat.ld hs (by repeat constructor) (by rfl),?_⟩
 by_cases e3:(s.blown.length:Int)=c.nf
 case neg=>rw[wnf hm,if_pos (by simp;omega)];exact bad (fun f=>e3 f.fits.blown)
 rw[wnf hm,if_neg (by simp;omega)]
 apply hJ25
 intro J27 hJ27
 refine BB c.np.toNat (fun i h'=>h'=h2/\∀j (hj:j<s.pages.length) (hj2:j<s.erases.length),j<i->(s.pages[j].length:Int)=32*c.cells/\0≤s.erases[j]) ?_ ?_ 0 _ (by omega) ⟨rfl,fun j _ _ hj=>by omega⟩
 ·rintro j h' hj ⟨rfl,hinv⟩ hk
  apply hJ27
  rw[AD,if_pos (by simp;omega)]
  have hj1:j<s.pages.length:=by omega
  have hj2:j<s.erases.length:=by omega
  obtain⟨q1,x1,f1,f2,f3⟩:=qN r1.pg hj1
  obtain⟨q2,g1,g2⟩:=FP r1.er (i:=j) (v:=.int .i64 s.erases[j]) (by rw[BA,List.getElem?_eq_getElem hj2];rfl)
  refine⟨_,_,_,Sat.ld hs (by repeat constructor) (by rfl),?_⟩
  refine⟨_,f1,by omega,by omega,_,_,_,f2,?_⟩
  refine⟨_,Sat.ld hs (by repeat constructor) (by rfl),?_⟩
  by_cases e4:(s.pages[j].length:Int)=32*c.cells
  case neg=>rw[if_pos (by simp;omega)];exact bad (fun f=>e4 (f.fits.cells _ (List.getElem_mem hj1)))
  rw[if_neg (by simp;omega)]
  refine⟨_,_,_,Sat.ld hs (by repeat constructor) (by rfl),?_⟩
  refine⟨_,g1,by omega,by omega,_,by simpa using g2,?_⟩
  rw[AD]
  by_cases e5:s.erases[j]<0
  ·rw[if_pos (by simpa using e5)];exact bad (fun f=>by have:=f.pos _ (List.getElem_mem hj2);omega)
  ·rw[if_neg (by simpa using e5),AU (by omega)]
   refine hk _ ⟨rfl,fun m hm1 hm2 hmj=>?_⟩
   by_cases e:m=j
   ·subst e;exact⟨e4,by omega⟩
   ·exact hinv m hm1 hm2 (by omega)
 ·rintro h' ⟨rfl,hinv⟩
  apply hJ27
  rw[AD,if_neg (by simp;omega)]
  refine k2 ⟨⟨e1,?_,e2,e3⟩,?_⟩ _ hs.drop.drop
  ·intro l hl
   obtain⟨j,hj,rfl⟩:=List.mem_iff_getElem.1 hl
   exact (hinv j hj (by omega) (by omega)).1
  ·intro n hn
   obtain⟨j,hj,rfl⟩:=List.mem_iff_getElem.1 hn
   exact (hinv j (by omega) hj (by omega)).2
theorem AnX{a b c':Sl}{s:St}(c:Cfg){Q:Option Addr->Int->HP}(hs:Sat h0 A h)(rd:∀h',Sat h0 A h'->RdS h' a b c' s)(ty:s.typed)
  (k1:¬c.may->∀h',Sat h0 A h'->Q none 1 h') (k2:c.may->¬s.lays c->∀h',Sat h0 A h'->Q none 5 h')
  (k3:c.may->s.lays c->∀p h',Sat h0 (AK p (CW c s)::A) h'->Q (some ⟨p,0,none⟩) 0 h'):
  QR c.cells c.slots c.fuses c.step c.keys c.erases c.area a.1 a.2.1 a.2.2 b.1 b.2.1 b.2.2 c'.1 c'.2.1 c'.2.2 Q h:=by
 unfold QR jS
 try simp only[AF,Nat.zero_add]
 intro n1 _ hn;replace hs:=Sat.new hs hn
 intro n2 _ hn;replace hs:=Sat.new hs hn
 (repeat first | refine⟨_,Sat.ld hs (by repeat constructor) (by rfl),?_⟩ | refine⟨_,_,_,Sat.ld hs (by repeat constructor) (by rfl),?_⟩ | (intro _ _ hn;replace hs:=Sat.new hs hn) | refine⟨Sat.cs hs (by repeat constructor) (by rfl),?_⟩ | (refine⟨Sat.can hs (by repeat constructor) (by simp),?_⟩;intro _ e;replace hs:=Sat.wr hs (by repeat constructor) e;clear e;simp only[put,AR,List.set]at hs))
 refine qJ c hs ?_
 intro h1 hs
 unfold Cfg.may?
 by_cases hm:c.may
 case neg=>
  rw[if_neg hm,if_pos (by decide)]
  exact k1 hm _ hs.drop.drop
 rw[if_pos hm,if_neg (by decide)]
 (repeat first | refine⟨_,Sat.ld hs (by repeat constructor) (by rfl),?_⟩ | refine⟨_,_,_,Sat.ld hs (by repeat constructor) (by rfl),?_⟩ | (intro _ _ hn;replace hs:=Sat.new hs hn) | refine⟨Sat.cs hs (by repeat constructor) (by rfl),?_⟩ | (refine⟨Sat.can hs (by repeat constructor) (by simp),?_⟩;intro _ e;replace hs:=Sat.wr hs (by repeat constructor) e;clear e;simp only[put,AR,List.set]at hs))
 refine AdU (a:=a) (b:=b) (c':=c') c hm hs (fun h' hs'=>rd _ hs'.drop.drop) ?_ ?_
 ·intro nf h2 hs
  rw[if_pos (by decide)]
  exact k2 hm nf _ hs.drop.drop
 intro ly h2 hs
 rw[if_neg (by decide)]
 have ok:=pR hm ly ty
 (repeat first | refine⟨_,Sat.ld hs (by repeat constructor) (by rfl),?_⟩ | refine⟨_,_,_,Sat.ld hs (by repeat constructor) (by rfl),?_⟩ | (intro _ _ hn;replace hs:=Sat.new hs hn) | refine⟨Sat.cs hs (by repeat constructor) (by rfl),?_⟩ | (refine⟨Sat.can hs (by repeat constructor) (by simp),?_⟩;intro _ e;replace hs:=Sat.wr hs (by repeat constructor) e;clear e;simp only[put,AR,List.set]at hs))
 refine rK (a:=a) (b:=b) (c:=c') (s:=s) hs (fun h' hs'=>rd _ hs'.drop.drop) ok.small ?_
 intro a2 b2 c2 h5 hs
 replace hs:Sat h0 (BR 32 a2 s.pages::sE b2 1 (AA .i64 s.erases)::sE c2 1 (A3 s.blown)::blk n2 [a.v,b.v,c'.v]::blk n1 [.int .i64 c.cells,.int .i64 c.slots,.int .i64 c.fuses,.int .i64 c.step,.int .i64 c.keys,.int .i64 c.erases,.int .i64 c.area]::A) h5:=hs
 (repeat first | refine⟨_,Sat.ld hs (by repeat constructor) (by rfl),?_⟩ | refine⟨_,_,_,Sat.ld hs (by repeat constructor) (by rfl),?_⟩ | (intro _ _ hn;replace hs:=Sat.new hs hn) | refine⟨Sat.cs hs (by repeat constructor) (by rfl),?_⟩ | (refine⟨Sat.can hs (by repeat constructor) (by simp),?_⟩;intro _ e;replace hs:=Sat.wr hs (by repeat constructor) e;clear e;simp only[put,AR,List.set]at hs))
 refine k3 hm ly _ _ ?_
 replace hs:=hs.sl_nil 1 none
 replace hs:=Sat.front hs (e:=slE _ _ _ 1 (A3 _)) (by repeat constructor)
 replace hs:=Sat.front hs (e:=slE _ _ _ 1 (AA .i64 _)) (by repeat constructor)
 replace hs:=Sat.front hs (e:=BR 32 _ _) (by repeat constructor)
 replace hs:=Sat.front hs (e:=blk _ [_,_,_,_,_,_,_,_,_,_,_,_,_,_]) (by repeat constructor)
 simp only[del]at hs
 exact (Aa7 (C:=CW c s) (a:=a2) (b:=b2) (c:=c2) (m:=(none,0,0)) (ms:=[]) ok (by intro n hn;simp at hn) (by simp) (fun _=>rfl) hs).sub (by(repeat (first | exact List.Sublist.refl _ | apply List.Sublist.cons_cons | apply List.Sublist.cons)))
end
end Go.Proofs.YteedolonhdbieaaGreatDoor
end
section
namespace Go.Proofs.YteedolonhdbieaaGreatDoor
open Go Go.Vc
section
variable {h0 h:H} {A:List Ent} {i p:Nat} {C:Cm}
end
end Go.Proofs.YteedolonhdbieaaGreatDoor
/- Contracts of the chip's statements: pairs of chips. Own work. -/
set_option maxRecDepth 100000
namespace Go.Proofs.YteedolonhdbieaaGreatDoor
open Go Go.Vc
section
variable {h0 h:H} {A:List Ent} {i j p r:Nat} {C:Cm}
theorem CG(hs:Sat h0 A h)(ci:At A i (AH p C)):C.ok:=by
 obtain⟨w,ok,_⟩:=(hs.front ci).open_
 exact ok
end
end Go.Proofs.YteedolonhdbieaaGreatDoor
end
section
namespace Go.Proofs.YteedolonhdbieaaGreatDoor
open Go Go.Vc
set_option maxRecDepth 100000
structure Stp where
 kind:Int
 a:Int
 b:Int
 x:List Int
 mask:List Int
structure Stp.ok (s:Stp):Prop where
 a:-(2^63)≤s.a/\s.a<2^63
 x:s.x.length=32
 mb:A4 s.mask
 ml:s.mask.length+4096≤2^47
section
variable {h0 h:H} {A:List Ent} {i j p r:Nat} {C:Cm}
end
end Go.Proofs.YteedolonhdbieaaGreatDoor
/- Contracts of the chip's statements: games;calls whose answers are fixed. Own work. -/
set_option maxRecDepth 100000
namespace Go.Proofs.YteedolonhdbieaaGreatDoor
open Go Go.Vc
section
variable {h0 h:H} {A:List Ent} {i j p r:Nat} {C:Cm}
structure ScriptRd (h:H) (p:Option Addr) (l:Nat) (sc:List Stp):Prop where
 len:sc.length=l
 small:l<2^62
 el:∀i (hi:i<sc.length),∃(q:Addr) (mp:Option Addr) (ml mc:Nat),p=some q/\hc h (q.add (i*36))=some (.int .i64 sc[i].kind)/\hc h ((q.add (i*36)).add 1)=some (.int .i64 sc[i].a)/\
  hc h ((q.add (i*36)).add 2)=some (.int .i64 sc[i].b)/\hrow h ((q.add (i*36)).add 3) .u8 sc[i].x/\hc h ((q.add (i*36)).add 35)=some (.slice mp ml mc)/\hsv h mp 1 ml (AA .u8 sc[i].mask)/\sc[i].ok
end
end Go.Proofs.YteedolonhdbieaaGreatDoor
/- Contracts of the chip's statements: ChipLays. Own work. -/
set_option maxRecDepth 100000
namespace Go.Proofs.YteedolonhdbieaaGreatDoor
open Go Go.Vc
section
variable {h0 h:H} {A:List Ent} {i j p r:Nat} {C:Cm}
end
end Go.Proofs.YteedolonhdbieaaGreatDoor
end
section
namespace Go.Proofs.YteedolonhdbieaaGreatDoor
open Go Go.Vc
set_option maxRecDepth 100000
theorem DE{J:List SV->HP}{σ:Type}(N:Nat)(S:Nat->σ->List SV)(Inv:Nat->σ->HP)(step:∀i s h,i<N->Inv i s h->(∀s' h',Inv (i+1) s' h'->J (S (i+1) s') h')->J (S i s) h)
  (exit:∀s h,Inv N s h->J (S N s) h) (i:Nat) (s:σ) (h:H) (hi:i≤N) (inv:Inv i s h):J (S i s) h:=by
 generalize e:N-i=n
 induction n generalizing i s h with
 | zero=>
  have:i=N:=by omega
  subst this;exact exit s h inv
 | succ n ih=>exact step i s h (by omega) inv fun s' h' inv'=>ih (i+1) s' h' (by omega) inv' (by omega)
def cnt(bl:List Bool)(a:Nat):Nat->Nat
 | 0=>0
 | n+1=>cnt bl a n+(if bl.getD (a+n) false=true then 1 else 0)
def lst(bl:List Bool)(a:Nat):Nat->Option Nat
 | 0=>none
 | n+1=>match lst bl a n with | some k=>some k | none=>if bl.getD (a+n) false=true then none else some (a+n)
def LG:Option Nat->Int
 | none=>-1
 | some k=>k
theorem ZR(bl:List Bool)(a n:Nat):cnt bl a n≤n:=by
 induction n with
 | zero=>exact Nat.le_refl _
 | succ n ih=>unfold cnt;split <;> omega
theorem yV{bl:List Bool}{a n:Nat}(h:lst bl a n=none):cnt bl a n=n:=by
 induction n with
 | zero=>rfl
 | succ n ih=>
  unfold lst at h
  cases e:lst bl a n with
  | some k=>rw[e]at h;simp at h
  | none=>
   rw[e]at h
   dsimp only at h
   unfold cnt
   split at h
   ·rename_i h1;rw[if_pos h1,ih e]
   ·simp at h
theorem AmK{bl:List Bool}{a n k:Nat}(h:lst bl a n=some k):a≤k/\k<a+n/\bl.getD k false=false:=by
 induction n with
 | zero=>simp[lst]at h
 | succ n ih=>
  unfold lst at h
  cases e:lst bl a n with
  | some k'=>
   rw[e]at h
   dsimp only at h
   rw[h]at e
   obtain⟨h1,h2,h3⟩:=ih e
   exact⟨h1,by omega,h3⟩
  | none=>
   rw[e]at h
   dsimp only at h
   split at h
   ·simp at h
   ·rename_i h1
    injection h with h;subst h
    exact⟨by omega,by omega,by simpa using h1⟩
theorem yU{bl:List Bool}{a n:Nat}(h:∀j,j<n->bl.getD (a+j) false=true):lst bl a n=none:=by
 induction n with
 | zero=>rfl
 | succ n ih=>
  unfold lst
  rw[ih fun j hj=>h j (by omega)]
  dsimp only
  rw[if_pos (h n (by omega))]
theorem AmJ{bl:List Bool}{a n i:Nat}(hi:i<n)(h:∀j,j<i->bl.getD (a+j) false=true)(hf:bl.getD (a+i) false=false):lst bl a n=some (a+i):=by
 induction n with
 | zero=>omega
 | succ n ih=>
  unfold lst
  by_cases e:i=n
  ·subst e
   rw[yU h]
   dsimp only
   rw[if_neg (by rw[hf];simp)]
  ·rw[ih (by omega)]
theorem vY{bl:List Bool}{a k:Nat}(n:Nat)(hk:k<bl.length)(hf:bl.getD k false=false):cnt (bl.set k true) a n=cnt bl a n+(if a≤k/\k<a+n then 1 else 0):=by
 induction n with
 | zero=>rw[if_neg (by omega)];rfl
 | succ n ih=>
  unfold cnt
  rw[ih]
  by_cases e:a+n=k
  ·subst e
   have:(bl.set (a+n) true).getD (a+n) false=true:=by simp[List.getD,hk]
   rw[this,hf,if_neg (by omega),if_pos rfl,if_neg (by simp),if_pos (by omega)]
  ·have:(bl.set k true).getD (a+n) false=bl.getD (a+n) false:=by simp only[List.getD,List.getElem?_set_ne (Ne.symm e)]
   rw[this]
   by_cases h1:a≤k/\k<a+n
   ·rw[if_pos h1,if_pos (show a≤k/\k<a+(n+1) by omega)];omega
   ·rw[if_neg h1,if_neg (show ¬(a≤k/\k<a+(n+1)) by omega)];omega
theorem AjX{bl:List Bool}{a n:Nat}(h:∀j,j<n->bl.getD (a+j) false=true):cnt bl a n=n:=yV (yU h)
def C7(C:Cm)(slot:Int):Int×Int:=
 if AT C slot C.cfg.slots≠0 then (0,AT C slot C.cfg.slots) else (cnt C.s.blown (slot*C.cfg.fuses).toNat C.cfg.fuses.toNat,0)
def GV(a f:Nat)(n:Int):Nat->Cm->Cm×Int
 | 0,C=>(C,0)
 | m+1,C=>if n≤cnt C.s.blown a f then (C,0) else
  match lst C.s.blown a f with
  | none=>(C,0)
  | some k=>if (D6 C k).2≠0 then D6 C k else GV a f n m (D6 C k).1
def OO(C:Cm)(slot n:Int):Cm×Int:=
 if AT C slot C.cfg.slots≠0 then (C,AT C slot C.cfg.slots) else if n<0 then (C,2) else if C.cfg.fuses<n then (C,2)
 else GV (slot*C.cfg.fuses).toNat C.cfg.fuses.toNat n C.cfg.fuses.toNat C
def CL(C:Cm)(key:Int):Bool×Int:=
 if AT C key C.cfg.keys≠0 then (false,AT C key C.cfg.keys) else (C.s.blown.getD (C.cfg.slots*C.cfg.fuses+key).toNat false,0)
def HZ(C:Cm)(key:Int):Cm×Int:=
 if (CL C key).2≠0 then (C,(CL C key).2) else if (CL C key).1=true then (C,(CL C key).2) else D6 C (C.cfg.slots*C.cfg.fuses+key)
theorem EK{C:Cm}{i n:Int}(ho:C.out=false)(h1:0≤i)(h2:i<n):AT C i n=0:=by
 unfold AT;rw[if_neg (by simp[ho]),if_neg (by omega),if_neg (by omega)]
theorem vS{C:Cm}{k:Nat}(ho:C.out=false)(hk:k<C.s.blown.length)(hl:C.left≠0):
  D6 C k=({ C.act with s:={ C.s with blown:=C.s.blown.set k true } },0):=by
 unfold D6
 rw[if_neg (by rw[EK ho (by omega) (by omega)];simp),Int.toNat_natCast]
 unfold BS DL
 rw[if_pos hl,if_pos hl,if_pos (by decide)]
theorem vR{C:Cm}{k:Nat}(ho:C.out=false)(hk:k<C.s.blown.length)(hl:C.left=0):
  (D6 C k).2=8/\(D6 C k).1.cfg=C.cfg/\((D6 C k).1.s.blown=C.s.blown∨(D6 C k).1.s.blown=C.s.blown.set k true):=by
 unfold D6
 rw[if_neg (by rw[EK ho (by omega) (by omega)];simp),Int.toNat_natCast]
 have e8:DL C=8:=by unfold DL;rw[if_neg (by simpa using hl)]
 refine⟨e8,?_,?_⟩
 all_goals dsimp only
 ·split
  ·exact E9 C
  ·exact E9 C
 ·split
  ·exact Or.inr rfl
  ·exact Or.inl (by rw[DA])
theorem ZB{C:Cm}(ho:C.out=false)(hl:C.left≠0):C.act.out=false:=by
 unfold Cm.act;rw[if_pos hl];exact ho
theorem bH{C:Cm}(ok:C.ok){slot:Int}(h1:0≤slot)(h2:slot<C.cfg.slots):((slot*C.cfg.fuses).toNat:Int)=slot*C.cfg.fuses/\(C.cfg.fuses.toNat:Int)=C.cfg.fuses/\(slot*C.cfg.fuses).toNat+C.cfg.fuses.toNat≤C.s.blown.length/\
  C.s.blown.length≤576/\(slot*C.cfg.fuses).toNat+C.cfg.fuses.toNat≤(C.cfg.slots*C.cfg.fuses).toNat/\C.cfg.fuses.toNat≤64:=by
 have hb:=ok.fits.blown
 have hf:=ok.may.fuses
 have hn:=ok.may.nf
 have hk:=ok.may.keys
 unfold Cfg.nf at hb hn
 have e1:0≤slot*C.cfg.fuses:=Int.mul_nonneg h1 (by omega)
 have e2:(slot+1)*C.cfg.fuses≤C.cfg.slots*C.cfg.fuses:=Int.mul_le_mul_of_nonneg_right (by omega) (by omega)
 rw[Int.add_mul]at e2
 omega
structure Raised (a f:Nat) (n:Int) (C D:Cm) (e:Int):Prop where
 cfg:D.cfg=C.cfg
 len:D.s.blown.length=C.s.blown.length
 same:∀k,k<a∨a+f≤k->D.s.blown.getD k false=C.s.blown.getD k false
 up:∀k,C.s.blown.getD k false=true->D.s.blown.getD k false=true
 ge:cnt C.s.blown a f≤cnt D.s.blown a f
 le:(cnt D.s.blown a f:Int)≤max n (cnt C.s.blown a f)
 good:e=0->(cnt D.s.blown a f:Int)=max n (cnt C.s.blown a f)
 on:e=0->D.out=false
 bad:e≠0->e=8/\0≤C.left/\C.left<n-cnt C.s.blown a f
theorem ApO{bl:List Bool}{k j:Nat}(h:bl.getD j false=true):(bl.set k true).getD j false=true:=by
 by_cases e:k=j
 ·subst e
  have hk:k<bl.length:=by
   by_cases hk:k<bl.length
   ·exact hk
   ·rw[List.getD_eq_getElem?_getD,List.getElem?_eq_none (by omega)]at h;simp at h
  simp[List.getD,hk]
 ·simp only[List.getD,List.getElem?_set_ne e]at h ⊢;exact h
end Go.Proofs.YteedolonhdbieaaGreatDoor
/- Contracts of the fuses' package. Own work. -/
set_option maxRecDepth 100000
namespace Go.Proofs.YteedolonhdbieaaGreatDoor
open Go Go.Vc
section
variable {h0 h:H} {A:List Ent} {i j p r:Nat} {C:Cm}
theorem o7{Q:Int->HP}(hs:Sat h0 A h)(ci:At A i (AH p C))(n j:Int)(k:Q (AT C j n) h):G6 ⟨p,0,none⟩ j n Q h:=by
 unfold G6 fW
 refine RX hs ci ?_
 unfold AT at k
 simp only[AD,A0,decide_eq_true_eq]
 split
 ·simpa[*]using k
 ·split
  ·simpa[*]using k
  ·split <;> simpa[*]using k
abbrev bF(bl:List Bool)(a:Nat)(n:Nat):List SV:=[.dv (.one (.int .i64 (cnt bl a n:Int))),.dv (.one (.int .i64 (LG (lst bl a n)))),.dv (.one (.int .i64 (n:Int)))]
theorem AmL(bl:List Bool)(a n:Nat):lst bl a (n+1)=match lst bl a n with | some k=>some k | none=>if bl.getD (a+n) false=true then none else some (a+n):=rfl
theorem pA{Q:Int->Int->Int->HP}(hs:Sat h0 A h)(ci:At A i (AH p C))(ho:C.out=false){slot:Int}(h1:0≤slot)(h2:slot<C.cfg.slots)
  (k:∀h',Sat h0 A h'->Q (cnt C.s.blown (slot*C.cfg.fuses).toNat C.cfg.fuses.toNat) (LG (lst C.s.blown (slot*C.cfg.fuses).toNat C.cfg.fuses.toNat)) 0 h'):IW ⟨p,0,none⟩ slot Q h:=by
 unfold IW fY
 refine CE hs ci ?_
 intro h1' hs
 have ok:=CG hs ci
 obtain⟨e1,e2,e3,e4,e5,e6⟩:=bH ok h1 h2
 have hsl:=ok.may.slots
 intro J hJ
 generalize hf:C.cfg.fuses.toNat=f at *
 generalize ha:(slot*C.cfg.fuses).toNat=a at *
 refine DE f (fun n (_:Unit)=>bF C.s.blown a n) (fun _ _ h=>Sat h0 A h) ?_ ?_ 0 () _ (by omega) hs
 ·intro n _ h2 hn hs hk
  apply hJ
  rw[AD,if_pos (by simp;omega)]
  have ew:IntKind.i64.wrap (IntKind.i64.wrap (slot*C.cfg.fuses)+n)=((a+n:Nat):Int):=by
   rw[AL (n:=slot*C.cfg.fuses) (by omega),AL (by omega)];omega
  rw[ew]
  have eb:NX C ((a+n:Nat):Int)=(C.s.blown.getD (a+n) false,0):=by
   unfold NX;rw[EK ho (by omega) (by omega),if_neg (by simp),Int.toNat_natCast]
  refine rI hs ci _ ?_
  rw[eb]
  rw[if_neg (by simp)]
  have hcl:=ZR C.s.blown a n
  have hk:=hk () _ hs
  have ls:=AmL C.s.blown a n
  by_cases hb:C.s.blown.getD (a+n) false=true
  ·rw[if_pos (by simpa using hb),AU (by omega),AU (by omega)]
   have e7:cnt C.s.blown a (n+1)=cnt C.s.blown a n+1:=by rw[cnt,if_pos hb]
   have e8:lst C.s.blown a (n+1)=lst C.s.blown a n:=by
    rw[ls]
    cases lst C.s.blown a n with
    | none=>exact if_pos hb
    | some k=>rfl
   simp only[bF,e7,e8]at hk
   exact hk
  ·rw[if_neg (by simpa using hb),AU (by omega)]
   have e7:cnt C.s.blown a (n+1)=cnt C.s.blown a n:=by rw[cnt,if_neg hb];rfl
   cases e:lst C.s.blown a n with
   | none=>
    rw[e]at ls
    dsimp only at ls
    rw[if_neg hb]at ls
    rw[AD,if_pos (by simp[LG])]
    simp only[bF,e7,ls,LG]at hk
    exact hk
   | some x=>
    rw[e]at ls
    dsimp only at ls
    have e10:¬(decide (LG (some x)<0)=true):=by
     have:(0:Int)≤(x:Int):=Int.natCast_nonneg x
     rw[decide_eq_true_eq]
     exact Int.not_lt.2 this
    rw[AD,if_neg e10]
    simp only[bF,e7,ls,LG]at hk
    exact hk
 ·intro _ h2 hs
  apply hJ
  rw[AD,if_neg (by simp;omega)]
  exact k _ hs
theorem AcH{Q:Int->Int->HP}(hs:Sat h0 A h)(ci:At A i (AH p C))(slot:Int)(k:∀h',Sat h0 A h'->Q (C7 C slot).1 (C7 C slot).2 h'):PE ⟨p,0,none⟩ slot Q h:=by
 unfold PE fS
 refine CE hs ci ?_
 intro h1 hs
 refine o7 hs ci _ _ ?_
 unfold C7 at k
 by_cases e:AT C slot C.cfg.slots=0
 ·obtain⟨ho,h1,h2⟩:=CV e
  rw[if_neg (by simpa using e)]at k ⊢
  exact pA hs ci ho h1 h2 fun h' hs'=>k _ hs'
 ·rw[if_pos (by simpa using e)]at k ⊢
  exact k _ hs
theorem AoD{Q:Int->HP}{slot n:Int}(a f:Nat)(n2:n≤f):∀(m:Nat) (C:Cm) (h:H) (A:List Ent) (ci:At A i (AH p C)) (hs:Sat h0 A h) (ho:C.out=false) (h1:0≤slot) (h2:slot<C.cfg.slots) (ea:(slot*C.cfg.fuses).toNat=a) (ef:C.cfg.fuses.toNat=f) (hm:n-cnt C.s.blown a f≤m)
  (k:∀h',Sat h0 (put A i (AH p (GV a f n m C).1)) h'->Q (GV a f n m C).2 h') (J:List SV->HP)
  (hJ:∀h,IW ⟨p,0,none⟩ slot (fun x y e h=>if (e != 0)=true then Q e h else if leI n x=true then Q e h else IS ⟨p,0,none⟩ y (fun e h=>if (e != 0)=true then Q e h else J [] h) h) h->J [] h),J [] h:=by
 intro m
 induction m with
 | zero=>
  intro C h A ci hs ho h1 h2 ea ef hm k J hJ
  apply hJ
  refine pA hs ci ho h1 h2 ?_
  intro h3 hs
  rw[ea,ef]
  rw[if_neg (by simp),A0,if_pos (by simp;omega)]
  exact k _ (by unfold GV;rw[ci.put_self];exact hs)
 | succ m ih=>
  intro C h A ci hs ho h1 h2 ea ef hm k J hJ
  have ok:=CG hs ci
  obtain⟨e1,e2,e3,e4,e5,e6⟩:=bH ok h1 h2
  apply hJ
  refine pA hs ci ho h1 h2 ?_
  intro h3 hs
  rw[ea,ef]
  rw[ea,ef]at e3
  rw[ea]at e1
  rw[ef]at e2
  unfold GV at k
  by_cases hn:n≤cnt C.s.blown a f
  ·rw[if_pos hn]at k
   rw[if_neg (by simp),A0,if_pos (by simpa using hn)]
   exact k _ (by rw[ci.put_self];exact hs)
  ·rw[if_neg hn]at k
   rw[if_neg (by simp),A0,if_neg (by simpa using hn)]
   cases e:lst C.s.blown a f with
   | none=>have:=yV e;omega
   | some x=>
    rw[e]at k
    dsimp only at k
    obtain⟨k1,k2,k3⟩:=AmK e
    refine rH hs ci _ ?_
    intro h4 hs
    dsimp only[LG]
    dsimp only[LG]at hs
    by_cases hl:C.left=0
    ·obtain⟨b1,b2,b3⟩:=vR ho (show x<C.s.blown.length by omega) hl
     rw[if_pos (by rw[b1];simp)]at k ⊢
     exact k _ hs
    ·rw[vS ho (show x<C.s.blown.length by omega) hl]at k hs ⊢
     dsimp only at k hs ⊢
     rw[if_neg (by simp)]at k ⊢
     have hc:=vY (a:=a) f (show x<C.s.blown.length by omega) k3
     rw[if_pos ⟨k1,k2⟩]at hc
     refine ih _ _ _ (ci.put _) hs (ZB ho hl) h1 (by dsimp only;rw[E9];exact h2) (by dsimp only;rw[E9];exact ea) (by dsimp only;rw[E9];exact ef) (by dsimp only;rw[hc];omega) ?_ J hJ
     intro h5 hs
     rw[CD]at hs
     exact k _ hs
theorem Ai7{Q:Int->HP}(hs:Sat h0 A h)(ci:At A i (AH p C))(slot n:Int)(k:∀h',Sat h0 (put A i (AH p (OO C slot n).1)) h'->Q (OO C slot n).2 h'):PF ⟨p,0,none⟩ slot n Q h:=by
 unfold PF fT
 refine CE hs ci ?_
 intro h1 hs
 refine o7 hs ci _ _ ?_
 unfold OO at k
 by_cases e:AT C slot C.cfg.slots=0
 case neg=>
  rw[if_pos (by simpa using e)]at k ⊢
  exact k _ (by rw[ci.put_self];exact hs)
 obtain⟨ho,h1,h2⟩:=CV e
 rw[if_neg (by simpa using e)]at k ⊢
 intro J hJ
 by_cases hn:n<0
 ·rw[if_pos hn]at k
  rw[AD,if_pos (by simpa using hn)]
  exact k _ (by rw[ci.put_self];exact hs)
 rw[if_neg hn]at k
 rw[AD,if_neg (by simpa using hn)]
 refine CE hs ci ?_
 intro h3 hs
 by_cases hf:C.cfg.fuses<n
 ·rw[if_pos hf]at k
  rw[AD,if_pos (by simpa using hf)]
  exact k _ (by rw[ci.put_self];exact hs)
 rw[if_neg hf]at k
 rw[AD,if_neg (by simpa using hf)]
 apply hJ
 intro J2 hJ2
 exact AoD _ _ (by omega) _ C h3 A ci hs ho h1 h2 rfl rfl (by omega) k J2 hJ2
theorem aF(ok:C.ok){key:Int}(h1:0≤key)(h2:key<C.cfg.keys):IntKind.i64.wrap (IntKind.i64.wrap (C.cfg.slots*C.cfg.fuses)+key)=C.cfg.slots*C.cfg.fuses+key/\0≤C.cfg.slots*C.cfg.fuses+key/\C.cfg.slots*C.cfg.fuses+key<C.s.blown.length:=by
 have hb:=ok.fits.blown
 have hn:=ok.may.nf
 have hk:=ok.may.keys
 have hf:=ok.may.fuses
 have hsl:=ok.may.slots
 unfold Cfg.nf at hb hn
 have e1:0≤C.cfg.slots*C.cfg.fuses:=Int.mul_nonneg (by omega) (by omega)
 refine⟨?_,by omega,by omega⟩
 rw[AL (n:=C.cfg.slots*C.cfg.fuses) (by omega),AL (by omega)]
theorem zC{Q:Int->HP}(hs:Sat h0 A h)(ci:At A i (AH p C))(key:Int)(h1:0≤key)(h2:key<C.cfg.keys)(k:∀h',Sat h0 A h'->Q (C.cfg.slots*C.cfg.fuses+key) h'):JX ⟨p,0,none⟩ key Q h:=by
 unfold JX fX
 refine CE hs ci ?_
 intro h3 hs
 refine CE hs ci ?_
 intro h4 hs
 rw[(aF (CG hs ci) h1 h2).1]
 exact k _ hs
theorem uQ{Q:Bool->Int->HP}(hs:Sat h0 A h)(ci:At A i (AH p C))(key:Int)(k:∀h',Sat h0 A h'->Q (CL C key).1 (CL C key).2 h'):JW ⟨p,0,none⟩ key Q h:=by
 unfold JW fV
 refine CE hs ci ?_
 intro h1 hs
 refine o7 hs ci _ _ ?_
 unfold CL at k
 by_cases e:AT C key C.cfg.keys=0
 case neg=>
  rw[if_pos (by simpa using e)]at k ⊢
  exact k _ hs
 obtain⟨ho,h1,h2⟩:=CV e
 rw[if_neg (by simpa using e)]at k ⊢
 refine zC hs ci key h1 h2 ?_
 intro h3 hs
 obtain⟨x1,x2,x3⟩:=aF (CG hs ci) h1 h2
 refine rI hs ci _ ?_
 have eb:NX C (C.cfg.slots*C.cfg.fuses+key)=(C.s.blown.getD (C.cfg.slots*C.cfg.fuses+key).toNat false,0):=by
  unfold NX;rw[EK ho x2 x3,if_neg (by simp)]
 rw[eb]
 exact k _ hs
theorem AaB{key:Int}(e:(CL C key).2=0):0≤key/\key<C.cfg.keys:=by
 unfold CL at e
 split at e
 ·rename_i h1;exact absurd e h1
 ·rename_i h1
  obtain⟨_,h2,h3⟩:=CV (show AT C key C.cfg.keys=0 by simpa using h1)
  exact⟨h2,h3⟩
theorem AiC{Q:Int->HP}(hs:Sat h0 A h)(ci:At A i (AH p C))(key:Int)(k:∀h',Sat h0 (put A i (AH p (HZ C key).1)) h'->Q (HZ C key).2 h'):PG ⟨p,0,none⟩ key Q h:=by
 unfold PG fU
 refine uQ hs ci key ?_
 intro h1 hs
 unfold HZ at k
 by_cases e:(CL C key).2=0
 case neg=>
  rw[if_pos (by simpa using e)]at k ⊢
  exact k _ (by rw[ci.put_self];exact hs)
 obtain⟨h1,h2⟩:=AaB e
 rw[if_neg (by simpa using e)]at k ⊢
 by_cases e2:(CL C key).1=true
 ·rw[if_pos e2]at k ⊢
  exact k _ (by rw[ci.put_self];exact hs)
 rw[if_neg e2]at k ⊢
 refine zC hs ci key h1 h2 ?_
 intro h3 hs
 exact rH hs ci _ fun h' hs'=>k _ hs'
end
end Go.Proofs.YteedolonhdbieaaGreatDoor
/- Contracts of the document's fuses. Own work. -/
set_option maxRecDepth 100000
namespace Go.Proofs.YteedolonhdbieaaGreatDoor
open Go Go.Vc
section
variable {h0 h:H} {A:List Ent} {i j p r:Nat} {C:Cm}
theorem GF(hs:Sat h0 A h)(cj:At A j (AK r C)):∃w:Pl,C.ok/\(∀o v,(C.cells w.a w.b w.c w.m)[o]?=some v->hc h ⟨r,o,none⟩=some v)/\w.c.2.1=C.s.blown.length/\
  ∀k,k<C.s.blown.length->∃q,w.c.1=some ⟨q,0,none⟩/\hc h ⟨q,k,none⟩=some (.bool (C.s.blown.getD k false)):=by
 obtain⟨⟨w,ms⟩,⟨ok,_,_,_⟩,hs⟩:=(hs.front cj).open_
 dsimp only[EF,List.cons_append,List.nil_append]at hs
 have hl:=hs.sl_len zs3
 simp only[XK,Nat.mul_one]at hl
 refine⟨w,ok,fun o v e=>hs.ld .z e,hl.symm,?_⟩
 intro k hk
 obtain⟨q,hq⟩:=hs.sl_some zs3 (by omega)
 refine⟨q,hq,?_⟩
 obtain⟨w1,w2,⟨cp,cl,cc⟩,w4⟩:=w
 simp only at hq hl
 subst hq
 refine hs.sld zs3 ?_
 rw[XJ,List.getElem?_eq_getElem hk]
 simp[List.getD,List.getElem?_eq_getElem hk]
theorem AaI{Q:Int->HP}(hs:Sat h0 A h)(ci:At A i (AK p C))(n j:Int)(k:Q (AT C j n) h):KN ⟨p,0,none⟩ j n Q h:=by
 unfold KN kC
 try simp only[AF,Nat.zero_add]
 obtain⟨w,ok,ld,hl,el⟩:=GF hs ci
 refine⟨_,ld 11 _ rfl,?_⟩
 unfold AT at k
 simp only[AD,A0,decide_eq_true_eq]
 split
 ·simpa[*]using k
 ·split
  ·simpa[*]using k
  ·split <;> simpa[*]using k
theorem zQ{Q:Int->Int->HP}(hs:Sat h0 A h)(ci:At A i (AK p C))(slot:Int)(k:∀h',Sat h0 A h'->Q (C7 C slot).1 (C7 C slot).2 h'):KL ⟨p,0,none⟩ slot Q h:=by
 unfold KL j8
 try simp only[AF,Nat.zero_add]
 obtain⟨w,ok,ld,hl,el⟩:=GF hs ci
 refine⟨_,ld 1 _ rfl,?_⟩
 refine AaI hs ci _ _ ?_
 unfold C7 at k
 by_cases e:AT C slot C.cfg.slots=0
 case neg=>
  rw[if_pos (by simpa using e)]at k ⊢
  exact k _ hs
 obtain⟨ho,h1,h2⟩:=CV e
 rw[if_neg (by simpa using e)]at k ⊢
 obtain⟨e1,e2,e3,e4,e5,e6⟩:=bH ok h1 h2
 have hsl:=ok.may.slots
 clear w ld hl el
 intro J hJ
 generalize hf:C.cfg.fuses.toNat=f at *
 generalize ha:(slot*C.cfg.fuses).toNat=a at *
 refine DE f (fun n (_:Unit)=>[.dv (.one (.int .i64 (cnt C.s.blown a n:Int))),.dv (.one (.int .i64 (n:Int)))]) (fun _ _ h=>Sat h0 A h) ?_ ?_ 0 () _ (by omega) hs
 ·intro n _ h2 hn hs hk
  apply hJ
  obtain⟨w,ok,ld,hl,el⟩:=GF hs ci
  refine⟨_,ld 2 _ rfl,?_⟩
  rw[AD,if_pos (by simp;omega)]
  refine⟨_,_,_,ld 9 _ rfl,?_⟩
  refine⟨_,ld 2 _ rfl,?_⟩
  have ew:IntKind.i64.wrap (IntKind.i64.wrap (slot*C.cfg.fuses)+n)=((a+n:Nat):Int):=by
   rw[AL (n:=slot*C.cfg.fuses) (by omega),AL (by omega)];omega
  rw[ew]
  obtain⟨q,hq,hb⟩:=el (a+n) (by omega)
  refine⟨_,hq,by omega,by omega,_,by rw[AF,Int.toNat_natCast,Nat.mul_one,Nat.zero_add];exact hb,?_⟩
  have hcl:=ZR C.s.blown a n
  have hk:=hk () _ hs
  by_cases hb:C.s.blown.getD (a+n) false=true
  ·rw[if_pos (by simpa using hb),AU (by omega),AU (by omega)]
   have e7:cnt C.s.blown a (n+1)=cnt C.s.blown a n+1:=by rw[cnt,if_pos hb]
   rw[e7]at hk
   exact hk
  ·rw[if_neg (by simpa using hb),AU (by omega)]
   have e7:cnt C.s.blown a (n+1)=cnt C.s.blown a n:=by rw[cnt,if_neg hb];rfl
   rw[e7]at hk
   exact hk
 ·intro _ h2 hs
  apply hJ
  obtain⟨w,ok,ld,hl,el⟩:=GF hs ci
  refine⟨_,ld 2 _ rfl,?_⟩
  rw[AD,if_neg (by simp;omega)]
  exact k _ hs
theorem Aa0{C:Cm}{a f:Nat}{n:Int}(h:n≤cnt C.s.blown a f)(m:Nat):GV a f n m C=(C,0):=by
 cases m with
 | zero=>rfl
 | succ m=>unfold GV;rw[if_pos h]
def uP(C0:Cm)(a f:Nat)(n:Int)(R:Cm×Int)(x:Nat)(D:Cm)(k e:Int):Prop:=
 (e=0/\k=cnt D.s.blown a f/\D.out=false/\D.cfg=C0.cfg/\a+f≤D.s.blown.length/\(∀j,j<x->D.s.blown.getD (a+j) false=true)/\∃m:Nat,n-cnt D.s.blown a f≤m/\GV a f n m D=R)∨(e≠0/\D.cfg=C0.cfg/\R=(D,e))
theorem Ao1{Q:Int->HP}(hs:Sat h0 A h)(ci:At A i (AK p C))(slot n:Int)(k:∀h',Sat h0 (put A i (AK p (OO C slot n).1)) h'->Q (OO C slot n).2 h'):QY ⟨p,0,none⟩ slot n Q h:=by
 unfold QY j9
 try simp only[AF,Nat.zero_add]
 refine zQ hs ci _ ?_
 intro h1 hs
 intro J hJ
 unfold OO at k
 by_cases e:AT C slot C.cfg.slots=0
 case neg=>
  rw[if_pos (by simpa using e)]at k
  have ec:C7 C slot=(0,AT C slot C.cfg.slots):=by unfold C7;rw[if_pos (by simpa using e)]
  rw[ec]at hJ ⊢
  rw[if_neg (by simpa using e)]
  apply hJ
  intro J2 hJ2
  apply hJ2
  intro J3 hJ3
  clear hJ3
  obtain⟨w,ok,ld,hl,el⟩:=GF hs ci
  refine⟨_,ld 2 _ rfl,?_⟩
  have kk:=k _ (show Sat h0 (put A i (AK p C)) h1 by rw[ci.put_self];exact hs)
  split
  ·split
   ·rw[if_neg (by simpa using e)];exact kk
   ·exact kk
  ·exact kk
 obtain⟨ho,h1',h2⟩:=CV e
 rw[if_neg (by simpa using e)]at k
 have ec:C7 C slot=(((cnt C.s.blown (slot*C.cfg.fuses).toNat C.cfg.fuses.toNat:Nat):Int),0):=by unfold C7;rw[if_neg (by simpa using e)]
 rw[ec]at hJ ⊢
 rw[if_pos (by simp)]
 have range:∀(hr:Q 2 h1),J [.dv (.one (.int .i64 2))] h1:=by
  intro hr
  apply hJ
  intro J2 hJ2
  apply hJ2
  intro J3 hJ3
  clear hJ3
  obtain⟨w,ok,ld,hl,el⟩:=GF hs ci
  refine⟨_,ld 2 _ rfl,?_⟩
  split
  ·split
   ·rw[if_neg (by simp)];exact hr
   ·exact hr
  ·exact hr
 by_cases hn:n<0
 ·rw[if_pos hn]at k
  rw[AD,if_pos (by simpa using hn)]
  exact range (k _ (by rw[ci.put_self];exact hs))
 rw[if_neg hn]at k
 rw[AD,if_neg (by simpa using hn)]
 obtain⟨w,ok,ld,hl,el⟩:=GF hs ci
 refine⟨_,ld 2 _ rfl,?_⟩
 by_cases hf:C.cfg.fuses<n
 ·rw[if_pos hf]at k
  rw[AD,if_pos (by simpa using hf)]
  exact range (k _ (by rw[ci.put_self];exact hs))
 rw[if_neg hf]at k
 rw[AD,if_neg (by simpa using hf)]
 clear range
 obtain⟨e1,e2,e3,e4,e5,e6⟩:=bH ok h1' h2
 have hsl:=ok.may.slots
 have hlen:C.s.blown.length≤576:=e4
 clear w ld hl el
 apply hJ
 clear hJ J
 intro J hJ
 generalize hff:C.cfg.fuses.toNat=f at *
 generalize ha:(slot*C.cfg.fuses).toNat=a at *
 generalize hR:GV a f n f C=R at *
 have h00:∃D:Cm,Sat h0 (put A i (AK p D)) h1/\uP C a f n R 0 D (cnt C.s.blown a f) 0:=⟨C,by rw[ci.put_self];exact hs,Or.inl ⟨rfl,rfl,ho,rfl,e3,fun j hj=>by omega,f,by omega,hR⟩⟩
 refine DE f (fun x (s:Int×Int)=>[.dv (.one (.int .i64 s.1)),.dv (.one (.int .i64 s.2)),.dv (.one (.int .i64 (x:Int)))]) (fun x s h=>∃D:Cm,Sat h0 (put A i (AK p D)) h/\uP C a f n R x D s.1 s.2) ?_ ?_ 0 ((cnt C.s.blown a f:Int),(0:Int)) _ (by omega) h00
 ·rintro x ⟨kk,ee⟩ h2' hx ⟨D,hs,inv⟩ hk
  apply hJ
  intro J3 hJ3
  have hcf:D.cfg=C.cfg:=by rcases inv with inv | inv;exact inv.2.2.2.1;exact inv.2.1
  obtain⟨w,ok,ld,hl,el⟩:=GF hs (ci.put _)
  refine⟨_,ld 2 _ rfl,?_⟩
  rw[hcf]
  rw[AD,if_pos (by simp;omega)]
  dsimp only at inv ⊢
  by_cases hkn:kk<n
  case neg=>
   rw[AD,if_neg (by simpa using hkn)]
   rcases inv with⟨i1,i2,i3,i4,i5,i6,m,i7,i8⟩ | ⟨i1,i2,i3⟩
   ·rw[Aa0 (by omega)]at i8
    rw[←i8]at k
    rw[i1]
    exact k _ hs
   ·rw[i3]at k;exact k _ hs
  rw[AD,if_pos (by simpa using hkn)]
  rcases inv with⟨i1,i2,i3,i4,i5,i6,m,i7,i8⟩ | ⟨i1,i2,i3⟩
  case inr=>rw[if_neg (by simpa using i1)];rw[i3]at k;exact k _ hs
  rw[if_pos (by simpa using i1)]
  apply hJ3
  refine⟨_,_,_,ld 9 _ rfl,?_⟩
  refine⟨_,ld 2 _ rfl,?_⟩
  rw[hcf]
  have hl6:D.s.blown.length≤576:=by
   have h3:=ok.fits.blown
   have h4:=ok.may.nf
   omega
  have ew:IntKind.i64.wrap (IntKind.i64.wrap (slot*C.cfg.fuses)+x)=((a+x:Nat):Int):=by
   rw[AL (n:=slot*C.cfg.fuses) (by omega),AL (by omega)];omega
  rw[ew]
  obtain⟨q,hq,hb⟩:=el (a+x) (by omega)
  refine⟨_,hq,by omega,by omega,_,by rw[AF,Int.toNat_natCast,Nat.mul_one,Nat.zero_add];exact hb,?_⟩
  have hcl:=ZR D.s.blown a f
  by_cases hbx:D.s.blown.getD (a+x) false=true
  ·rw[if_neg (by simpa using hbx),AU (by omega)]
   refine hk (kk,ee) _ ⟨D,hs,Or.inl ⟨i1,i2,i3,i4,i5,?_,m,i7,i8⟩⟩
   intro j hj
   by_cases e:j=x
   ·rw[e];exact hbx
   ·exact i6 j (by omega)
  ·rw[if_pos (by simpa using hbx)]
   refine⟨_,ld 2 _ rfl,?_⟩
   rw[hcf,ew]
   have hls:=AmJ (n:=f) hx i6 (by simpa using hbx)
   have hbf:D.s.blown.getD (a+x) false=false:=by simpa using hbx
   refine zP hs (ci.put _) _ ?_
   intro h3 hs
   rw[CD]at hs
   rw[AU (by omega)]
   cases m with
   | zero=>omega
   | succ m=>
    unfold GV at i8
    rw[if_neg (by omega),hls]at i8
    dsimp only at i8
    by_cases hl0:D.left=0
    ·obtain⟨b1,b2,b3⟩:=vR i3 (show a+x<D.s.blown.length by omega) hl0
     rw[if_pos (by rw[b1];simp)]at i8
     exact hk (IntKind.i64.wrap (kk+1),_) _ ⟨_,hs,Or.inr ⟨fun h9=>absurd (b1.symm.trans h9) (by decide),b2.trans hcf,i8.symm⟩⟩
    ·have bg:=vS i3 (show a+x<D.s.blown.length by omega) hl0
     rw[bg]at i8 hs ⊢
     dsimp only at i8 hs ⊢
     rw[if_neg (by simp)]at i8
     have hc:=vY (a:=a) f (show a+x<D.s.blown.length by omega) hbf
     rw[if_pos ⟨by omega,by omega⟩]at hc
     refine hk (IntKind.i64.wrap (kk+1),0) _ ⟨_,hs,Or.inl ⟨rfl,?_,ZB i3 hl0,(E9 D).trans hcf,by simpa using i5,?_,m,by dsimp only;rw[hc];omega,i8⟩⟩
     ·dsimp only;rw[hc,i2,AU (by omega)]
     ·intro j hj
      by_cases e:j=x
      ·subst e;simp[List.getD,show a+j<D.s.blown.length by omega]
      ·exact ApO (i6 j (by omega))
 ·rintro⟨kk,ee⟩ h2' ⟨D,hs,inv⟩
  apply hJ
  intro J3 hJ3
  clear hJ3
  have hcf:D.cfg=C.cfg:=by rcases inv with inv | inv;exact inv.2.2.2.1;exact inv.2.1
  obtain⟨w,ok,ld,hl,el⟩:=GF hs (ci.put _)
  refine⟨_,ld 2 _ rfl,?_⟩
  rw[hcf]
  rw[AD,if_neg (by simp;omega)]
  dsimp only at inv ⊢
  rcases inv with⟨i1,i2,i3,i4,i5,i6,m,i7,i8⟩ | ⟨i1,i2,i3⟩
  ·rw[Aa0 (by rw[AjX i6];omega)]at i8
   rw[←i8]at k
   rw[i1]
   exact k _ hs
  ·rw[i3]at k;exact k _ hs
theorem z0{Q:Bool->Int->HP}(hs:Sat h0 A h)(ci:At A i (AK p C))(key:Int)(k:∀h',Sat h0 A h'->Q (CL C key).1 (CL C key).2 h'):KM ⟨p,0,none⟩ key Q h:=by
 unfold KM kB
 try simp only[AF,Nat.zero_add]
 obtain⟨w,ok,ld,hl,el⟩:=GF hs ci
 refine⟨_,ld 4 _ rfl,?_⟩
 refine AaI hs ci _ _ ?_
 unfold CL at k
 by_cases e:AT C key C.cfg.keys=0
 case neg=>
  rw[if_pos (by simpa using e)]at k ⊢
  exact k _ hs
 obtain⟨ho,h1,h2⟩:=CV e
 rw[if_neg (by simpa using e)]at k ⊢
 obtain⟨x1,x2,x3⟩:=aF ok h1 h2
 refine⟨_,_,_,ld 9 _ rfl,_,ld 1 _ rfl,_,ld 2 _ rfl,?_⟩
 rw[x1]
 obtain⟨q,hq,hb⟩:=el (C.cfg.slots*C.cfg.fuses+key).toNat (by omega)
 exact⟨_,hq,by omega,by omega,_,by rw[AF,Nat.mul_one,Nat.zero_add];exact hb,k _ hs⟩
theorem Ao5{Q:Int->HP}(hs:Sat h0 A h)(ci:At A i (AK p C))(key:Int)(k:∀h',Sat h0 (put A i (AK p (HZ C key).1)) h'->Q (HZ C key).2 h'):QZ ⟨p,0,none⟩ key Q h:=by
 unfold QZ kA
 try simp only[AF,Nat.zero_add]
 refine z0 hs ci key ?_
 intro h1 hs
 unfold HZ at k
 by_cases e:(CL C key).2=0
 case neg=>
  rw[if_pos (by simpa using e)]at k ⊢
  exact k _ (by rw[ci.put_self];exact hs)
 obtain⟨h1,h2⟩:=AaB e
 rw[if_neg (by simpa using e)]at k ⊢
 by_cases e2:(CL C key).1=true
 ·rw[if_pos e2]at k ⊢
  exact k _ (by rw[ci.put_self];exact hs)
 rw[if_neg e2]at k ⊢
 obtain⟨w,ok,ld,hl,el⟩:=GF hs ci
 refine⟨_,ld 1 _ rfl,_,ld 2 _ rfl,?_⟩
 rw[(aF ok h1 h2).1]
 exact zP hs ci _ fun h' hs'=>k _ hs'
end
end Go.Proofs.YteedolonhdbieaaGreatDoor
end
section
namespace Go.Proofs.YteedolonhdbieaaGreatDoor
open Go Go.Vc
set_option maxRecDepth 100000
section
variable {h0 h:H} {A:List Ent} {i j p r:Nat} {C:Cm}
structure Stp7 where
 kind:Int
 a:Int
 n:Int
structure Stp7.ok (s:Stp7):Prop where
 n:s.n<2^63
structure Script7 (h:H) (p:Option Addr) (l:Nat) (sc:List Stp7):Prop where
 len:sc.length=l
 small:l<2^62
 el:∀i (hi:i<sc.length),∃(q:Addr),p=some q/\hc h (q.add (i*3))=some (.int .i64 sc[i].kind)/\hc h ((q.add (i*3)).add 1)=some (.int .i64 sc[i].a)/\
  hc h ((q.add (i*3)).add 2)=some (.int .i64 sc[i].n)/\sc[i].ok
end
end Go.Proofs.YteedolonhdbieaaGreatDoor
end
