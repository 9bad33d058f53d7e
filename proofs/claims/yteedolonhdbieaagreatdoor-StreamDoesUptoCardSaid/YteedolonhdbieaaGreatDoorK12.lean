/- StreamDoes and its parts, laid together by a program of ours: Rf4 Rf6 Rf8 La2 La5 Fu3 Fu4 -/
import Derived.Test.YteedolonhdbieaaGreatDoorK11
set_option autoImplicit false
set_option linter.all false
section
namespace Go.Proofs.YteedolonhdbieaaGreatDoor
open Go Go.Vc
section
variable {h0 h : H} {A : List Ent} {i p : Nat} {C : Cm}
theorem asksCellM_page (ok : C.ok) (page : Int) : asksCellM C page 0 = askedM C page C.s.pages.length := by
 have h1 := ok.may.cells; have h2 := ok.may.slots
 unfold asksCellM
 split
 ·rfl
 ·rename_i h3
  have h3 : askedM C page C.s.pages.length = 0 := by simpa using h3
  obtain ⟨h4, _, _⟩ := askedM_zero h3
  rw [h3]
  unfold askedM
  rw [if_neg (by simp [h4]), if_neg (by omega), if_neg (by omega)]
theorem rRestore_sp {Q : H -> Prop} (hs : Sat h0 A h) (ci : At A i (refE p C)) (k : ∀ h', Sat h0 (put A i (refE p { C with out := false })) h' -> Q h') : F_portcullisref04_Chip_Restore ⟨p, 0, none⟩ Q h := by
 unfold F_portcullisref04_Chip_Restore G_portcullisref04_Chip_Restore
 obtain ⟨⟨w, ms⟩, ⟨ok, mb, ml, me⟩, hs⟩ := (hs.front ci).open_; dsimp only [refL, List.cons_append, List.nil_append, Cm.cells] at hs; dsimp only at mb ml me
 try simp only [add_mk, Nat.zero_add]
 (refine ⟨Sat.can hs (by repeat constructor) (by simp), ?_⟩; intro _ e; replace hs := Sat.wr hs (by repeat constructor) e; clear e; simp only [put, splice, List.set] at hs)
 exact k _ (ref_close (C := { C with out := false }) (a := w.a) (b := w.b) (c := w.c) (m := w.m) ⟨ok.may, ok.fits, ok.typed, ok.left, ok.left2, ok.mask, ok.acts, ok.mlen⟩ mb ml me ci hs)
theorem rCut_sp {Q : H -> Prop} {q : Option Addr} {l c : Nat} {bs : List Int} (hs : Sat h0 A h) (ci : At A i (refE p C)) (n : Int) (hn : n < 2 ^ 63) (rd : ∀ C' h', Sat h0 (put A i (refE p C')) h' -> hsv h' q 1 l (ints .u8 bs)) (hb : bytesOk bs) (hl : bs.length ≤ 2 ^ 47)
  (k : ∀ h', Sat h0 (put A i (refE p (cutM C n bs))) h' -> Q h') : F_portcullisref04_Chip_Cut ⟨p, 0, none⟩ n q l c Q h := by
 unfold F_portcullisref04_Chip_Cut G_portcullisref04_Chip_Cut
 obtain ⟨⟨w, ms⟩, ⟨ok, mb, ml, me⟩, hs⟩ := (hs.front ci).open_; dsimp only [refL, List.cons_append, List.nil_append, Cm.cells] at hs; dsimp only at mb ml me
 try simp only [add_mk, Nat.zero_add]
 (refine ⟨Sat.can hs (by repeat constructor) (by simp), ?_⟩; intro _ e; replace hs := Sat.wr hs (by repeat constructor) e; clear e; simp only [put, splice, List.set] at hs)
 have ok1 : ({ cutM C n ms with acts := C.acts } : Cm).ok := ⟨ok.may, ok.fits, ok.typed, by simp only [cutM]; split <;> omega, by simp only [cutM]; split <;> omega, mb, ok.acts, ml⟩
 have rd1 := rd _ _ (ref_close (C := cutM C n ms) (a := w.a) (b := w.b) (c := w.c) (m := w.m) ok1 mb ml (fun _ => rfl) ci hs)
 intro n1 h1 hn
 have rd2 := hsv_ext hn.ext rd1 (fun _ _ x => x)
 replace hs := Sat.new hs hn
 have hlen := rd1.1
 simp only [ints_length, Nat.mul_one] at hlen
 refine ⟨_, rd2, Sat.app_new hs rd2.1 rfl (ints_one _ _) (by omega) ?_⟩
 intro p' c' h2 hs
 (repeat first | refine ⟨_, Sat.ld hs (by repeat constructor) (by rfl), ?_⟩ | refine ⟨_, _, _, Sat.ld hs (by repeat constructor) (by rfl), ?_⟩ | (intro _ _ hn; replace hs := Sat.new hs hn) | refine ⟨Sat.cs hs (by repeat constructor) (by rfl), ?_⟩ | (refine ⟨Sat.can hs (by repeat constructor) (by simp), ?_⟩; intro _ e; replace hs := Sat.wr hs (by repeat constructor) e; clear e; simp only [put, splice, List.set] at hs))
 have okc : (cutM C n bs).ok := ⟨ok.may, ok.fits, ok.typed, by simp only [cutM]; split <;> omega, by simp only [cutM]; split <;> omega, hb, ok.acts, hl⟩
 refine k _ ?_
 replace hs := Sat.front hs (e := slE p' _ _ 1 (ints .u8 bs)) (by repeat constructor)
 replace hs := Sat.front hs (e := slE _ _ _ 1 (bools C.s.blown)) (by repeat constructor)
 replace hs := Sat.front hs (e := slE _ _ _ 1 (ints .i64 C.s.erases)) (by repeat constructor)
 replace hs := Sat.front hs (e := matE 32 _ _) (by repeat constructor)
 replace hs := Sat.front hs (e := blk p _) (by repeat constructor)
 simp only [del] at hs
 exact (ref_close (C := cutM C n bs) (a := w.a) (b := w.b) (c := w.c) (m := (p', l, c')) okc hb hl (fun _ => rfl) ci.s.s hs).drop.drop
theorem act_me {ms : List Int} (ok : C.ok) (me : 0 ≤ C.left -> ms = C.mask) : 0 ≤ C.act.left -> ms = C.act.mask := by
 have := ok.left
 unfold Cm.act
 split
 ·intro h; dsimp only at h ⊢; exact me (by omega)
 ·intro h; dsimp only at h; omega
theorem maskAt_cut {ms : List Int} (me : 0 ≤ C.left -> ms = C.mask) (h : C.left = 0) (n : Nat) : maskAt C n = if ms = [] then 0 else ms.getD (n % ms.length) 0 := by
 rw [me (by omega)]; unfold maskAt; rw [if_neg (by simpa using h)]
theorem maskAt_full (h : ¬ C.left = 0) (n : Nat) : maskAt C n = 255 := by unfold maskAt; rw [if_pos h]
theorem rBlow_sp {Q : Int -> H -> Prop} (hs : Sat h0 A h) (ci : At A i (refE p C)) (j : Int) (k : ∀ h', Sat h0 (put A i (refE p (blowM C j).1)) h' -> Q (blowM C j).2 h') : F_portcullisref04_Chip_Blow ⟨p, 0, none⟩ j Q h := by
 unfold F_portcullisref04_Chip_Blow G_portcullisref04_Chip_Blow
 have hs' := hs
 obtain ⟨⟨w, ms⟩, ⟨ok, mb, ml, me⟩, hs⟩ := (hs.front ci).open_; dsimp only [refL, List.cons_append, List.nil_append, Cm.cells] at hs; dsimp only at mb ml me
 try simp only [add_mk, Nat.zero_add]
 have hl := hs.sl_len zs3
 simp only [bools_length, Nat.mul_one] at hl
 refine fuse_b (C := C) hs .z hl _ ?_
 unfold blowM at k
 by_cases h1 : askedM C j C.s.blown.length = 0
 case neg =>
  rw [if_pos (by simpa using h1)]
  rw [if_pos (by simpa using h1)] at k
  exact k _ (ci.put_self.symm ▸ hs')
 rw [if_neg (by simpa using h1)]
 rw [if_neg (by simpa using h1)] at k
 obtain ⟨_, h2, h3⟩ := askedM_zero h1
 have hjb : j.toNat < C.s.blown.length := by omega
 refine act_b (C := C) hs .z ok ?_
 intro h5 hs
 simp only [put] at hs
 obtain ⟨q, hq⟩ := hs.sl_some zs3 (by omega)
 obtain ⟨w1, w2, ⟨cp, cl, cc⟩, w4⟩ := w
 simp only at hq hl
 subst hq
 refine ⟨_, _, _, hs.ld .z rfl, ?_⟩
 refine ⟨_, _, _, hs.ld .z rfl, ?_⟩
 refine ⟨_, rfl, h2, by (try dsimp only); omega, ?_⟩
 try simp only [add_mk, Nat.zero_add, Nat.mul_one]
 refine ⟨_, hs.sld zs3 (by rw [bools_get, List.getElem?_eq_getElem hjb]; rfl), ?_⟩
 have eact := ok.act
 have fin : ∀ (b : Bool) h6, (b = (C.s.blown[j.toNat] || !decide (C.left = 0) || (bits .and .u8 (if ms = [] then 0 else ms.getD (0 % ms.length) 0) 1 == 1))) -> Sat h0 (blk p (C.act.cells w1 w2 (some ⟨q, 0, none⟩, cl, cc) w4) :: matE 32 w1 C.s.pages :: sE w2 1 (ints .i64 C.s.erases) :: sE (some ⟨q, 0, none⟩, cl, cc) 1 ((bools C.s.blown).set j.toNat (.bool b)) :: sE w4 1 (ints .u8 ms) :: del A i) h6 ->
   if decide (C.left = 0) = true then Q 8 h6 else Q 0 h6 := by
  intro b h6 hb hs
  have e6 : (bools C.s.blown).set j.toNat (Value.bool b) = bools (C.s.blown.set j.toNat b) := by simp [bools, List.map_set]
  rw [e6] at hs
  have eb : (if bits .and .u8 (maskAt C 0) 1 = 1 then { C.act with s := { C.s with blown := C.s.blown.set j.toNat true } } else C.act) = { C.act with s := { C.s with blown := C.s.blown.set j.toNat b } } := by
   by_cases hz : C.left = 0
   ·have hb : b = (C.s.blown[j.toNat] || (bits .and .u8 (maskAt C 0) 1 == 1)) := by rw [hb, maskAt_cut me hz]; simp [hz]
    by_cases h7 : bits .and .u8 (maskAt C 0) 1 = 1
    ·rw [if_pos h7]
     have : b = true := by rw [hb]; simp [h7]
     rw [this]
    ·rw [if_neg h7]
     have : b = C.s.blown[j.toNat] := by rw [hb]; simp [h7]
     rw [this, List.set_getElem_self hjb]
     have := act_s C
     conv => rhs; rw [← this]
   ·have : b = true := by rw [hb]; simp [hz]
    rw [this, maskAt_full hz, if_pos (by decide)]
  rw [eb] at k
  have ec : ({ C.act with s := { C.s with blown := C.s.blown.set j.toNat b } } : Cm).ok :=
   ⟨eact.may, ⟨by have := eact.fits.pages; rw [act_s] at this; exact this, by have := eact.fits.cells; rw [act_s] at this; exact this, by have := eact.fits.erases; rw [act_s] at this; exact this,
    by have := eact.fits.blown; rw [act_s] at this; simpa using this⟩, by have := eact.typed; rw [act_s] at this; exact ⟨this.bytes, this.erases⟩, eact.left, eact.left2, eact.mask, eact.acts, eact.mlen⟩
  have hk := k _ (ref_close (C := { C.act with s := { C.s with blown := C.s.blown.set j.toNat b } }) (a := w1) (b := w2) (c := (some ⟨q, 0, none⟩, cl, cc)) (m := w4) ec mb ml (act_me ok me) ci hs)
  unfold errM at hk
  by_cases hz : C.left = 0
  ·simpa [hz] using hk
  ·simpa [hz] using hk
 have put1 : ∀ (b : Bool) h6 (hs6 : h6 = hwr h5 ⟨q, j.toNat, none⟩ [.bool b]), Sat h0 (blk p (C.act.cells w1 w2 (some ⟨q, 0, none⟩, cl, cc) w4) :: matE 32 w1 C.s.pages :: sE w2 1 (ints .i64 C.s.erases) :: sE (some ⟨q, 0, none⟩, cl, cc) 1 ((bools C.s.blown).set j.toNat (.bool b)) :: sE w4 1 (ints .u8 ms) :: del A i) h6 := by
  intro b h6 e6
  exact hs.swr zs3 e6 (by (try dsimp only); omega) (by simp; omega) (by simp)
 have can1 : hcan h5 ⟨q, j.toNat, none⟩ 1 := hs.scan zs3 (by (try dsimp only); omega) (by simp; omega)
 split
 ·rename_i h6
  refine ⟨_, rfl, h2, by (try dsimp only); omega, ?_⟩
  try simp only [add_mk, Nat.zero_add, Nat.mul_one]
  refine ⟨can1, fun h7 e7 => fin true h7 (by simp [h6]) (put1 true h7 e7)⟩
 ·rename_i h6
  split
  ·rename_i h8
   refine ⟨_, rfl, h2, by (try dsimp only); omega, ?_⟩
   try simp only [add_mk, Nat.zero_add, Nat.mul_one]
   refine ⟨can1, fun h7 e7 => fin true h7 (by simpa using Or.inl (Or.inr (by simpa using h8))) (put1 true h7 e7)⟩
  ·rename_i h8
   refine bits_b (C := C.act) hs .z zs4 0 rfl ?_
   refine ⟨hcs_one (hs.ld .z rfl), _, rfl, h2, by (try dsimp only); omega, ?_⟩
   try simp only [add_mk, Nat.zero_add, Nat.mul_one]
   refine ⟨can1, fun h7 e7 => fin _ h7 ?_ (put1 _ h7 e7)⟩
   have h9 : C.s.blown[j.toNat] = false := by simpa using h6
   have h10 : (!decide (C.left = 0)) = false := by simpa using h8
   rw [h9, h10]; simp
end
end Go.Proofs.YteedolonhdbieaaGreatDoor
end
section
namespace Go.Proofs.YteedolonhdbieaaGreatDoor
open Go Go.Vc
theorem rowSet_set {row c : List Int} {k i : Nat} {v : Int} (hk : (k + 1) * 32 ≤ row.length) (hc : c.length = 32) (hi : i < 32) : (rowSet row k c).set (k * 32 + i) v = rowSet row k (c.set i v) := by
 have h1 : (row.take (k * 32)).length = k * 32 := by simp; omega
 simp only [rowSet]
 rw [List.append_assoc, List.append_assoc, List.set_append_right _ _ (by omega), List.set_append_left _ _ (by omega)]
 congr 3; omega
section
variable {h0 h : H} {A : List Ent} {i p : Nat} {C : Cm}
theorem rProgram_sp {Q : Int -> H -> Prop} (hs : Sat h0 A h) (ci : At A i (refE p C)) (page cell : Int) (x : List Int) (hx : x.length = 32) (k : ∀ h', Sat h0 (put A i (refE p (programM C page cell x).1)) h' -> Q (programM C page cell x).2 h') :
  F_portcullisref04_Chip_Program ⟨p, 0, none⟩ page cell x Q h := by
 unfold F_portcullisref04_Chip_Program G_portcullisref04_Chip_Program
 try simp only [add_mk, Nat.zero_add, List.append_nil]
 intro nx _ hn
 replace hs := Sat.new hs hn
 clear hn
 have hs' := hs
 obtain ⟨⟨w, ms⟩, ⟨ok, mb, ml, me⟩, hs⟩ := (hs.front ci.s).open_
 dsimp only [refL, List.cons_append, List.nil_append] at hs
 dsimp only at mb ml me
 have hlp := (hs.rdM zs1).len
 refine at_b (C := C) hs .z hlp _ _ ?_
 unfold programM at k
 by_cases h1 : asksCellM C page cell = 0
 case neg =>
  rw [if_pos (by simpa using h1)]
  rw [if_pos (by simpa using h1)] at k
  exact k _ (ci.put_self.symm ▸ hs'.drop)
 rw [if_neg (by simpa using h1)]
 rw [if_neg (by simpa using h1)] at k
 obtain ⟨_, h2, h3, h4, h5, hj, hl, hk⟩ := asksCellM_zero ok h1
 have erow : rowOf C page = C.s.pages[page.toNat] := by simp [rowOf, List.getD, List.getElem?_eq_getElem hj]
 rw [erow] at k
 refine act_b (C := C) hs .z ok ?_
 intro h6 hs
 have eact := ok.act
 simp only [put, Cm.cells] at hs
 refine ⟨_, _, _, hs.ld .z rfl, ?_⟩
 have rd := hs.rdM zs1
 obtain ⟨q, y, q', e1, e2, e3, e4, e5⟩ := rd.cell hj hk
 rw [e1]
 refine ⟨_, rfl, h2, by omega, ?_⟩
 refine ⟨_, _, _, e2, ?_⟩
 refine ⟨_, e4, h4, by omega, ?_⟩
 have hcl := cellAt_length hk
 refine ⟨_, hcl, e5, ?_⟩
 clear e1 e2 e3 e4 e5 q q' y
 intro no _ hn
 replace hs := Sat.new hs hn
 clear hn
 (refine ⟨Sat.can hs (by repeat constructor) (by simp), ?_⟩; intro _ e; replace hs := Sat.wra hs (by repeat constructor) e (by simp [*]); clear e; simp only [put] at hs)
 intro J hJ
 have hob := ok.typed.bytes _ (List.getElem_mem hj)
 obtain ⟨⟨yp, yl, yc⟩, hd, R, e8, hs, give⟩ := (hs.front zs2).row_take hj
 obtain ⟨⟨pp, pl, pc⟩, w2, w3, w4⟩ := w
 replace hlp : C.s.pages.length = pl := hlp
 obtain ⟨qb, hq⟩ := hs.sl_some zs1 (show 0 < pl by omega)
 dsimp only at hq
 subst hq
 have hyl := hs.sl_len .z
 simp only [ints_length] at hyl
 obtain ⟨yb, hy⟩ := hs.sl_some .z (show 0 < yl by omega)
 dsimp only at hy
 subst hy
 generalize C.s.pages[page.toNat] = row at *
 let g := fun (i : Nat) (now : Int) => bits .andNot .u8 now (bits .andNot .u8 (maskAt C i) (x.getD i 0))
 have hcl2 : ∀ n, (mapTo g n (cellAt row cell.toNat)).length = 32 := fun n => by simpa using hcl
 have erow0 : rowSet row cell.toNat (cellAt row cell.toNat) = row := by
  unfold rowSet cellAt
  rw [List.append_assoc, ← List.drop_drop, List.take_append_drop, List.take_append_drop]
 refine loop_up 32 (fun n h => Sat h0 (sE (some ⟨yb, 0, none⟩, yl, yc) 32 (ints .u8 (rowSet row cell.toNat (mapTo g n (cellAt row cell.toNat)))) :: sE (some ⟨qb, 0, none⟩, pl, pc) 1 hd :: ((blk no (ints .u8 (cellAt row cell.toNat)) :: blk p (C.act.cells (some ⟨qb, 0, none⟩, pl, pc) w2 w3 w4) ::
   sE w2 1 (ints .i64 C.s.erases) :: sE w3 1 (bools C.s.blown) :: sE w4 1 (ints .u8 ms) :: blk nx (ints .u8 x) :: del A i) ++ R)) h) ?_ ?_ 0 _ (by omega) (by rw [mapTo_zero, erow0]; exact hs)
 ·intro n h7 hn hs hk'
  apply hJ
  rw [ltI_eq, if_pos (by simp; omega)]
  simp only [Int.toNat_natCast, Nat.mul_one]
  have exn : x.getD n 0 = x[n] := by simp [List.getD, List.getElem?_eq_getElem (show n < x.length by omega)]
  have eno : (ints .u8 (cellAt row cell.toNat))[n]? = some (.int .u8 ((cellAt row cell.toNat)[n]'(by omega))) := by rw [ints_get, List.getElem?_eq_getElem (by omega)]; rfl
  have enx : (ints .u8 x)[n]? = some (.int .u8 x[n]) := by rw [ints_get, List.getElem?_eq_getElem (by omega)]; rfl
  refine ⟨by omega, by omega, _, hs.ld zs2 eno, by omega, by omega, _, hs.ld zs7 enx, ?_⟩
  have fin : ∀ v h8, v = g n ((cellAt row cell.toNat)[n]'(by omega)) -> h8 = hwr h7 ⟨yb, cell.toNat * 32 + n, none⟩ [.int .u8 v] -> J [SV.dv (DV.one (Value.int .i64 (IntKind.i64.wrap (n + 1))))] h8 := by
   intro v h8 ev e8
   have hsW := hs.swr .z e8 (show 0 < yl by omega) (by rw [ints_length, rowSet_length hk (hcl2 n)]; simp; omega) (by simp)
   rw [wrap_succ (by omega)]
   refine hk' _ ?_
   simp only [splice_cons, splice_nil, ints_set, put] at hsW
   rw [rowSet_set hk (hcl2 n) hn, ev, mapTo_succ g n _ (by omega)] at hsW
   exact hsW
  have hcan' : hcan h7 ⟨yb, cell.toNat * 32 + n, none⟩ 1 := hs.scan .z (show 0 < yl by omega) (by rw [ints_length, rowSet_length hk (hcl2 n)]; omega)
  have ld1 : hc h7 ⟨p, 7, none⟩ = some (.slice (some ⟨qb, 0, none⟩) pl pc) := hs.ld zs3 rfl
  have ld2 : hc h7 ⟨qb, page.toNat, none⟩ = some (.slice (some ⟨yb, 0, none⟩) yl yc) := hs.sld zs1 e8
  split
  ·rename_i hcut
   have hcut : C.left = 0 := by simpa using hcut
   refine ⟨by omega, by omega, _, hs.ld zs2 eno, ?_⟩
   refine bits_b (C := C.act) hs zs3 zs6 n rfl ?_
   refine ⟨hcs_one (hs.ld zs2 eno), ?_⟩
   refine bits_b (C := C.act) hs zs3 zs6 n rfl ?_
   refine ⟨hcs_one (hs.ld zs2 eno), _, _, _, ld1, _, rfl, h2, by omega, ?_⟩
   try simp only [add_mk, Nat.zero_add]
   refine ⟨_, _, _, ld2, _, rfl, h4, by omega, by omega, by omega, ?_⟩
   try simp only [add_mk, Nat.zero_add]
   refine ⟨hcan', fun h8 e9 => fin _ h8 ?_ e9⟩
   rw [cut_prog]
   simp only [g]
   rw [maskAt_cut me hcut, exn]
  ·rename_i hcut
   have hcut : ¬ C.left = 0 := by simpa using hcut
   refine ⟨_, _, _, ld1, _, rfl, h2, by omega, ?_⟩
   try simp only [add_mk, Nat.zero_add, Nat.mul_one]
   refine ⟨_, _, _, ld2, _, rfl, h4, by omega, by omega, by omega, ?_⟩
   try simp only [add_mk, Nat.zero_add]
   refine ⟨hcan', fun h8 e9 => fin _ h8 ?_ e9⟩
   rw [full_prog]
   simp only [g]
   rw [maskAt_full hcut, exn]
 ·intro h7 hs
  apply hJ
  rw [ltI_eq, if_neg (by simp)]
  have okR : (C.act.setPage page.toNat (rowSet row cell.toNat (mapTo g 32 (cellAt row cell.toNat)))).ok := by
   refine eact.setPage ?_ ?_
   ·rw [rowSet_length hk (hcl2 32), act_cfg]; exact hl
   ·intro n hn
    rcases rowSet_mem hn with hn | hn
    ·exact hob n hn
    ·exact mapTo_mem (P := isByte) (fun v hv => hob v (cellAt_mem hv)) (fun i v hv => byte_bits _ _ _) n hn
  replace hs := (give _ _ _ hs)
  replace hs := Sat.front hs (e := slE w4.1 _ _ 1 (ints .u8 ms)) (by repeat constructor)
  replace hs := Sat.front hs (e := slE w3.1 _ _ 1 (bools C.s.blown)) (by repeat constructor)
  replace hs := Sat.front hs (e := slE w2.1 _ _ 1 (ints .i64 C.s.erases)) (by repeat constructor)
  replace hs := Sat.front hs (e := matE 32 _ _) (by repeat constructor)
  replace hs := Sat.front hs (e := blk p _) (by repeat constructor)
  simp only [del] at hs
  have hR := ref_close (C := C.act.setPage page.toNat (rowSet row cell.toNat (mapTo g 32 (cellAt row cell.toNat)))) (a := (some ⟨qb, 0, none⟩, pl, pc)) (b := w2) (c := w3) (m := w4) okR mb ml (act_me ok me) ci.s.s (by rw [Cm.setPage, act_s]; exact hs)
  have hq := k _ hR.drop.drop
  unfold errM at hq
  by_cases hz : C.left = 0
  ·simpa [hz] using hq
  ·simpa [hz] using hq
end
end Go.Proofs.YteedolonhdbieaaGreatDoor
/- Contracts of the document's chip: Erase, Copy, Lay. Own work. -/
namespace Go.Proofs.YteedolonhdbieaaGreatDoor
open Go Go.Vc
section
variable {h0 h : H} {A : List Ent} {i p : Nat} {C : Cm}
theorem rErase_sp {Q : Int -> H -> Prop} (hs : Sat h0 A h) (ci : At A i (refE p C)) (page : Int) (k : ∀ h', Sat h0 (put A i (refE p (eraseM C page).1)) h' -> Q (eraseM C page).2 h') :
  F_portcullisref04_Chip_Erase ⟨p, 0, none⟩ page Q h := by
 unfold F_portcullisref04_Chip_Erase G_portcullisref04_Chip_Erase
 try simp only [add_mk, Nat.zero_add]
 have hs' := hs
 obtain ⟨⟨w, ms⟩, ⟨ok, mb, ml, me⟩, hs⟩ := (hs.front ci).open_
 dsimp only [refL, List.cons_append, List.nil_append] at hs
 dsimp only at mb ml me
 have hlp := (hs.rdM zs1).len
 have hle := hs.sl_len zs2
 simp only [ints_length, Nat.mul_one] at hle
 refine at_b (C := C) hs .z hlp _ _ ?_
 rw [asksCellM_page ok]
 unfold eraseM at k
 by_cases h1 : askedM C page C.s.pages.length = 0
 case neg =>
  rw [if_pos (by simpa using h1)]
  rw [if_pos (by simpa using h1)] at k
  exact k _ (ci.put_self.symm ▸ hs')
 rw [if_neg (by simpa using h1)]
 rw [if_neg (by simpa using h1)] at k
 obtain ⟨_, h2, h3⟩ := askedM_zero h1
 have hf1 := ok.fits.pages
 have hf2 := ok.fits.erases
 have hje : page.toNat < C.s.erases.length := by omega
 have hjp : page.toNat < C.s.pages.length := by omega
 have eer : C.s.erases.getD page.toNat 0 = C.s.erases[page.toNat] := by simp [List.getD, List.getElem?_eq_getElem hje]
 have erow : rowOf C page = C.s.pages[page.toNat] := by simp [rowOf, List.getD, List.getElem?_eq_getElem hjp]
 rw [eer, erow] at k
 obtain ⟨⟨pp, pl, pc⟩, ⟨ep, el, ec⟩, w3, w4⟩ := w
 replace hle : C.s.erases.length = el := hle
 replace hlp : C.s.pages.length = pl := hlp
 obtain ⟨eb, he⟩ := hs.sl_some zs2 (show 0 < el by omega)
 dsimp only at he
 subst he
 refine ⟨_, _, _, hs.ld .z rfl, _, rfl, h2, by (try dsimp only); omega, ?_⟩
 try simp only [add_mk, Nat.zero_add, Nat.mul_one]
 refine ⟨_, hs.sld zs2 (by rw [ints_get, List.getElem?_eq_getElem hje]; rfl), _, hs.ld .z rfl, ?_⟩
 by_cases h4 : C.cfg.erases ≤ C.s.erases[page.toNat]
 case pos =>
  rw [leI_eq, if_pos (by simpa using h4)]
  rw [if_pos h4] at k
  exact k _ (ci.put_self.symm ▸ hs')
 rw [leI_eq, if_neg (by simpa using h4)]
 rw [if_neg h4] at k
 refine act_b (C := C) hs .z ok ?_
 intro h6 hs
 have eact := ok.act
 simp only [put, Cm.cells] at hs
 refine ⟨_, _, _, hs.ld .z rfl, _, rfl, h2, by (try dsimp only); omega, ?_⟩
 try simp only [add_mk, Nat.zero_add, Nat.mul_one]
 refine ⟨_, hs.sld zs2 (by rw [ints_get, List.getElem?_eq_getElem hje]; rfl), _, rfl, h2, by (try dsimp only); omega, ?_⟩
 try simp only [add_mk, Nat.zero_add, Nat.mul_one]
 refine ⟨hs.scan zs2 (show 0 < el by omega) (by simp; omega), ?_⟩
 intro h7 e7
 replace hs := hs.swr zs2 e7 (show 0 < el by omega) (by simp; omega) (by simp)
 simp only [put, splice, ints_set] at hs
 have hce := ok.typed.erases _ (List.getElem_mem hje)
 have hcm := ok.may.erases
 rw [show IntKind.i64.wrap (C.s.erases[page.toNat] + 1) = C.s.erases[page.toNat] + 1 by rw [IntKind.wrap_i64]; omega] at hs
 obtain ⟨⟨yp, yl, yc⟩, hd, R, e8, hs, give⟩ := (hs.front zs1).row_take hjp
 obtain ⟨qb, hq⟩ := hs.sl_some zs1 (show 0 < pl by omega)
 dsimp only at hq
 subst hq
 have hcl := ok.fits.cells _ (List.getElem_mem hjp)
 have hcc := ok.may.cells
 have hcs' := ok.may.slots
 have hyl := hs.sl_len .z
 simp only [ints_length] at hyl
 obtain ⟨yb, hy⟩ := hs.sl_some .z (show 0 < yl by omega)
 dsimp only at hy
 subst hy
 have hbr := ok.typed.bytes _ (List.getElem_mem hjp)
 have ecells : C.act.cfg = C.cfg := act_cfg C
 generalize C.s.pages[page.toNat] = row at *
 let g := fun (i : Nat) (b : Int) => bits .or .u8 b (maskAt C i)
 intro J hJ
 have hmg : ∀ n, (mapTo g n row).length = row.length := fun n => by simp
 refine loop_up C.cfg.cells.toNat (fun k h => Sat h0 (sE (some ⟨yb, 0, none⟩, yl, yc) 32 (ints .u8 (mapTo g (32 * k) row)) :: sE (some ⟨qb, 0, none⟩, pl, pc) 1 hd :: ((blk p (C.act.cells (some ⟨qb, 0, none⟩, pl, pc) (some ⟨eb, 0, none⟩, el, ec) w3 w4) ::
   sE (some ⟨eb, 0, none⟩, el, ec) 1 (ints .i64 (C.s.erases.set page.toNat (C.s.erases[page.toNat] + 1))) :: sE w3 1 (bools C.s.blown) :: sE w4 1 (ints .u8 ms) :: del A i) ++ R)) h) ?_ ?_ 0 _ (by omega) (by rw [Nat.mul_zero, mapTo_zero]; exact hs)
 ·intro k h8 hk hs hk'
  apply hJ
  refine ⟨_, hs.ld zs2 rfl, ?_⟩
  rw [ltI_eq, if_pos (by rw [ecells]; simp; omega)]
  intro J2 hJ2
  refine loop_up 32 (fun j h => Sat h0 (sE (some ⟨yb, 0, none⟩, yl, yc) 32 (ints .u8 (mapTo g (32 * k + j) row)) :: sE (some ⟨qb, 0, none⟩, pl, pc) 1 hd :: ((blk p (C.act.cells (some ⟨qb, 0, none⟩, pl, pc) (some ⟨eb, 0, none⟩, el, ec) w3 w4) ::
   sE (some ⟨eb, 0, none⟩, el, ec) 1 (ints .i64 (C.s.erases.set page.toNat (C.s.erases[page.toNat] + 1))) :: sE w3 1 (bools C.s.blown) :: sE w4 1 (ints .u8 ms) :: del A i) ++ R)) h) ?_ ?_ 0 _ (by omega) (by rw [Nat.add_zero]; exact hs)
  ·intro j h9 hj hs hk2
   apply hJ2
   rw [ltI_eq, if_pos (by simp; omega)]
   simp only [Int.toNat_natCast, Nat.mul_one]
   have hlt : k * 32 + j < row.length := by omega
   have ea : (mapTo g (32 * k + j) row)[k * 32 + j]? = some row[k * 32 + j] := mapTo_out (by omega) hlt
   have eb' : (ints .u8 (mapTo g (32 * k + j) row))[k * 32 + j]? = some (.int .u8 row[k * 32 + j]) := by rw [ints_get, ea]; rfl
   have ld1 : hc h9 ⟨p, 7, none⟩ = some (.slice (some ⟨qb, 0, none⟩) pl pc) := hs.ld zs2 rfl
   have ld2 : hc h9 ⟨qb, page.toNat, none⟩ = some (.slice (some ⟨yb, 0, none⟩) yl yc) := hs.sld zs1 e8
   have hcan' : hcan h9 ⟨yb, k * 32 + j, none⟩ 1 := hs.scan .z (show 0 < yl by omega) (by simp; omega)
   have fin : ∀ v h8, v = g (k * 32 + j) row[k * 32 + j] -> h8 = hwr h9 ⟨yb, k * 32 + j, none⟩ [.int .u8 v] -> J2 [SV.dv (DV.one (Value.int .i64 (IntKind.i64.wrap (j + 1))))] h8 := by
    intro v h10 ev e10
    have hsW := hs.swr .z e10 (show 0 < yl by omega) (by simp; omega) (by simp)
    rw [wrap_succ (by omega)]
    refine hk2 _ ?_
    simp only [splice_cons, splice_nil, ints_set, put] at hsW
    have e11 : (mapTo g (32 * k + j) row).set (k * 32 + j) v = mapTo g (32 * k + (j + 1)) row := by
     have := mapTo_succ g (32 * k + j) row (by omega)
     rw [show 32 * k + (j + 1) = 32 * k + j + 1 by omega, ← this]
     have e12 : 32 * k + j = k * 32 + j := by omega
     simp only [e12, ev]
    rw [e11] at hsW
    exact hsW
   split
   ·rename_i hcut
    have hcut : C.left = 0 := by simpa using hcut
    refine ⟨_, _, _, ld1, _, rfl, h2, by (try dsimp only); omega, ?_⟩
    try simp only [add_mk, Nat.zero_add]
    refine ⟨_, _, _, ld2, _, rfl, by omega, by (try dsimp only); omega, by omega, by omega, ?_⟩
    try simp only [add_mk, Nat.zero_add]
    refine ⟨_, hs.sld .z eb', ?_⟩
    have ew : IntKind.i64.wrap (IntKind.i64.wrap (32 * (k : Int)) + (j : Int)) = ((k * 32 + j : Nat) : Int) := by rw [wrap_id (n := 32 * (k : Int)) (by omega), wrap_id (by omega)]; omega
    refine bits_b (C := C.act) hs zs2 zs5 (k * 32 + j) ew ?_
    refine ⟨hcs_one (hs.sld .z eb'), hcs_one ld2, hcs_one ld1, ?_⟩
    refine ⟨_, _, _, ld1, _, rfl, h2, by (try dsimp only); omega, ?_⟩
    try simp only [add_mk, Nat.zero_add]
    refine ⟨_, _, _, ld2, _, rfl, by omega, by (try dsimp only); omega, by omega, by omega, ?_⟩
    try simp only [add_mk, Nat.zero_add]
    refine ⟨hcan', fun h8 e9 => fin _ h8 ?_ e9⟩
    simp only [g]
    rw [maskAt_cut me hcut]
   ·rename_i hcut
    have hcut : ¬ C.left = 0 := by simpa using hcut
    refine ⟨_, _, _, ld1, _, rfl, h2, by (try dsimp only); omega, ?_⟩
    try simp only [add_mk, Nat.zero_add]
    refine ⟨_, _, _, ld2, _, rfl, by omega, by (try dsimp only); omega, by omega, by omega, ?_⟩
    try simp only [add_mk, Nat.zero_add]
    refine ⟨hcan', fun h8 e9 => fin _ h8 ?_ e9⟩
    simp only [g]
    rw [maskAt_full hcut, full_or]
  ·intro h9 hs
   apply hJ2
   rw [ltI_eq, if_neg (by simp)]
   rw [wrap_succ (by omega)]
   exact hk' _ hs
 ·intro h8 hs
  apply hJ
  refine ⟨_, hs.ld zs2 rfl, ?_⟩
  rw [ltI_eq, if_neg (by rw [ecells]; simp; omega)]
  have e12 : mapTo g (32 * C.cfg.cells.toNat) row = eraseRow row (maskAt C) := by
   unfold eraseRow
   have : 32 * C.cfg.cells.toNat = row.length := by omega
   rw [this]
  rw [e12] at hs
  replace hs := (give _ _ _ hs).front zs1
  have hce' : ((C.act.setErase page.toNat (C.s.erases[page.toNat] + 1)).setPage page.toNat (eraseRow row (maskAt C))).ok := by
   refine (eact.setErase (by omega)).setPage ?_ ?_
   ·show ((eraseRow row (maskAt C)).length : Int) = 32 * C.act.cfg.cells
    rw [act_cfg, ← e12, hmg]; exact hcl
   ·refine mapTo_mem (P := isByte) (fun v hv => hbr v hv) (fun i v hv => byte_bits _ _ _)
  have hR := ref_close (C := (C.act.setErase page.toNat (C.s.erases[page.toNat] + 1)).setPage page.toNat (eraseRow row (maskAt C))) (a := (some ⟨qb, 0, none⟩, pl, pc)) (b := (some ⟨eb, 0, none⟩, el, ec)) (c := w3) (m := w4) hce' mb ml (act_me ok me) ci (by rw [Cm.setPage, Cm.setErase, act_s]; exact hs)
  have hq := k _ hR
  unfold errM at hq
  by_cases hz : C.left = 0
  ·simpa [hz] using hq
  ·simpa [hz] using hq
end
end Go.Proofs.YteedolonhdbieaaGreatDoor
end
section
namespace Go.Proofs.YteedolonhdbieaaGreatDoor
open Go Go.Vc
section
variable {h0 h : H} {A : List Ent} {i p : Nat} {C : Cm}
theorem rdm_row {h : H} {a : Sl} {rows : List (List Int)} (r : RdM h 32 a rows) {j : Nat} (hj : j < rows.length) :
  ∃ q x, a.1 = some q /\ hc h (q.add (j * 1)) = some (Sl.v x) /\ rows[j].length = x.2.1 * 32 := by
 obtain ⟨q, x, h1, h2, h3⟩ := r.at hj
 exact ⟨q, x, h1, h2, by have := h3.1; simpa using this⟩
theorem SameState_sp {a b c a2 b2 c2 : Sl} {s : St} {Q : Bool -> H -> Prop} (hs : Sat h0 A h) (rd1 : ∀ h', Sat h0 A h' -> RdS h' a b c s) (rd2 : ∀ h', Sat h0 A h' -> RdS h' a2 b2 c2 s)
  (sm1 : s.pages.length < 2 ^ 62) (sm2 : s.erases.length < 2 ^ 62) (sm3 : s.blown.length < 2 ^ 62) (sm4 : ∀ l, l ∈ s.pages -> l.length < 2 ^ 62) (k : ∀ h', Sat h0 A h' -> Q true h') :
  F_portcullisref04_SameState a.1 a.2.1 a.2.2 b.1 b.2.1 b.2.2 c.1 c.2.1 c.2.2 a2.1 a2.2.1 a2.2.2 b2.1 b2.2.1 b2.2.2 c2.1 c2.2.1 c2.2.2 Q h := by
 unfold F_portcullisref04_SameState G_portcullisref04_SameState
 try simp only [add_mk, Nat.zero_add]
 intro n1 _ hn; replace hs := Sat.new hs hn
 intro n2 h2 hn; replace hs := Sat.new hs hn
 intro J26 hJ26
 have r1 := rd1 _ hs.drop.drop
 have r2 := rd2 _ hs.drop.drop
 have l1 := r1.pg.len; have l2 := r2.pg.len
 have l3 : s.erases.length = b.2.1 := by have := r1.er.1; simpa using this
 have l4 : s.erases.length = b2.2.1 := by have := r2.er.1; simpa using this
 have l5 : s.blown.length = c.2.1 := by have := r1.bl.1; simpa using this
 have l6 : s.blown.length = c2.2.1 := by have := r2.bl.1; simpa using this
 refine ⟨_, _, _, Sat.ld hs (by repeat constructor) (by rfl), ?_⟩
 refine ⟨_, _, _, Sat.ld hs (by repeat constructor) (by rfl), ?_⟩
 rw [if_neg (by simp; omega)]
 refine ⟨_, _, _, Sat.ld hs (by repeat constructor) (by rfl), ?_⟩
 refine ⟨_, _, _, Sat.ld hs (by repeat constructor) (by rfl), ?_⟩
 rw [if_neg (by simp; omega)]
 refine ⟨_, _, _, Sat.ld hs (by repeat constructor) (by rfl), ?_⟩
 refine ⟨_, _, _, Sat.ld hs (by repeat constructor) (by rfl), ?_⟩
 rw [if_neg (by simp; omega)]
 apply hJ26
 intro J28 hJ28
 refine loop_up a.2.1 (fun i h' => h' = h2) ?_ ?_ 0 _ (by omega) rfl
 ·rintro j h' hj rfl hk
  apply hJ28
  refine ⟨_, _, _, Sat.ld hs (by repeat constructor) (by rfl), ?_⟩
  rw [ltI_eq, if_pos (by simp; omega)]
  have hj1 : j < s.pages.length := by omega
  obtain ⟨q1, x1, e1, e2, e3⟩ := rdm_row r1.pg hj1
  obtain ⟨q2, x2, f1, f2, f3⟩ := rdm_row r2.pg hj1
  refine ⟨_, _, _, Sat.ld hs (by repeat constructor) (by rfl), ?_⟩
  refine ⟨_, e1, by omega, by omega, _, _, _, e2, ?_⟩
  refine ⟨_, _, _, Sat.ld hs (by repeat constructor) (by rfl), ?_⟩
  refine ⟨_, f1, by omega, by omega, _, _, _, f2, ?_⟩
  have hxl := sm4 _ (List.getElem_mem hj1)
  rw [if_neg (by simp; omega)]
  intro J48 hJ48
  refine loop_up x1.2.1 (fun i h2 => h2 = h') ?_ ?_ 0 _ (by omega) rfl
  ·rintro m h2 hm rfl hk2
   apply hJ48
   have hmk : (m + 1) * 32 ≤ s.pages[j].length := by omega
   obtain ⟨u1, y1, v1, g1, g2, g3, g4, g5⟩ := r1.pg.cell hj1 hmk
   obtain ⟨u2, y2, v2, k1, k2, k3, k4, k5⟩ := r2.pg.cell hj1 hmk
   refine ⟨_, _, _, Sat.ld hs (by repeat constructor) (by rfl), ?_⟩
   refine ⟨_, g1, by omega, by omega, _, _, _, g2, ?_⟩
   rw [ltI_eq, if_pos (by simp; omega)]
   refine ⟨_, _, _, Sat.ld hs (by repeat constructor) (by rfl), ?_⟩
   refine ⟨_, g1, by omega, by omega, _, _, _, g2, ?_⟩
   refine ⟨_, g4, by omega, by omega, _, cellAt_length hmk, by simpa using g5, ?_⟩
   refine ⟨_, _, _, Sat.ld hs (by repeat constructor) (by rfl), ?_⟩
   refine ⟨_, k1, by omega, by omega, _, _, _, k2, ?_⟩
   refine ⟨_, k4, by omega, by omega, _, cellAt_length hmk, by simpa using k5, ?_⟩
   rw [if_neg (by simp), wrap_succ (by omega)]
   exact hk2 _ rfl
  ·rintro h2 rfl
   apply hJ48
   refine ⟨_, _, _, Sat.ld hs (by repeat constructor) (by rfl), ?_⟩
   refine ⟨_, e1, by omega, by omega, _, _, _, e2, ?_⟩
   rw [ltI_eq, if_neg (by simp), wrap_succ (by omega)]
   exact hk _ rfl
 ·rintro h' rfl
  apply hJ28
  refine ⟨_, _, _, Sat.ld hs (by repeat constructor) (by rfl), ?_⟩
  rw [ltI_eq, if_neg (by simp)]
  intro J78 hJ78
  refine loop_up b.2.1 (fun i h2 => h2 = h') ?_ ?_ 0 _ (by omega) rfl
  ·rintro j h2 hj rfl hk
   apply hJ78
   have hj1 : j < s.erases.length := by omega
   obtain ⟨q1, e1, e2⟩ := hsv_get r1.er (i := j) (v := .int .i64 s.erases[j]) (by rw [ints_get, List.getElem?_eq_getElem hj1]; rfl)
   obtain ⟨q2, f1, f2⟩ := hsv_get r2.er (i := j) (v := .int .i64 s.erases[j]) (by rw [ints_get, List.getElem?_eq_getElem hj1]; rfl)
   refine ⟨_, _, _, Sat.ld hs (by repeat constructor) (by rfl), ?_⟩
   rw [ltI_eq, if_pos (by simp; omega)]
   refine ⟨_, _, _, Sat.ld hs (by repeat constructor) (by rfl), ?_⟩
   refine ⟨_, e1, by omega, by omega, _, by simpa using e2, ?_⟩
   refine ⟨_, _, _, Sat.ld hs (by repeat constructor) (by rfl), ?_⟩
   refine ⟨_, f1, by omega, by omega, _, by simpa using f2, ?_⟩
   rw [if_neg (by simp), wrap_succ (by omega)]
   exact hk _ rfl
  ·rintro h2 rfl
   apply hJ78
   refine ⟨_, _, _, Sat.ld hs (by repeat constructor) (by rfl), ?_⟩
   rw [ltI_eq, if_neg (by simp)]
   intro J94 hJ94
   refine loop_up c.2.1 (fun i h3 => h3 = h2) ?_ ?_ 0 _ (by omega) rfl
   ·rintro j h3 hj rfl hk
    apply hJ94
    have hj1 : j < s.blown.length := by omega
    obtain ⟨q1, e1, e2⟩ := hsv_get r1.bl (i := j) (v := .bool s.blown[j]) (by rw [bools_get, List.getElem?_eq_getElem hj1]; rfl)
    obtain ⟨q2, f1, f2⟩ := hsv_get r2.bl (i := j) (v := .bool s.blown[j]) (by rw [bools_get, List.getElem?_eq_getElem hj1]; rfl)
    refine ⟨_, _, _, Sat.ld hs (by repeat constructor) (by rfl), ?_⟩
    rw [ltI_eq, if_pos (by simp; omega)]
    refine ⟨_, _, _, Sat.ld hs (by repeat constructor) (by rfl), ?_⟩
    refine ⟨_, e1, by omega, by omega, _, by simpa using e2, ?_⟩
    refine ⟨_, _, _, Sat.ld hs (by repeat constructor) (by rfl), ?_⟩
    refine ⟨_, f1, by omega, by omega, _, by simpa using f2, ?_⟩
    rw [if_neg (by simp), wrap_succ (by omega)]
    exact hk _ rfl
   ·rintro h3 rfl
    apply hJ94
    refine ⟨_, _, _, Sat.ld hs (by repeat constructor) (by rfl), ?_⟩
    rw [ltI_eq, if_neg (by simp)]
    exact k _ hs.drop.drop
end
end Go.Proofs.YteedolonhdbieaaGreatDoor
/- Contracts of the document's chip: Copy, Lay. Own work. -/
namespace Go.Proofs.YteedolonhdbieaaGreatDoor
open Go Go.Vc
section
variable {h0 h : H} {A : List Ent} {i p : Nat} {C : Cm}
end
end Go.Proofs.YteedolonhdbieaaGreatDoor
end
section
namespace Go.Proofs.YteedolonhdbieaaGreatDoor
open Go Go.Vc
section
variable {h0 h : H} {A : List Ent} {i p : Nat} {C : Cm}
end
end Go.Proofs.YteedolonhdbieaaGreatDoor
/- Contracts of the chip's statements: pairs of chips. Own work. -/
set_option maxRecDepth 100000
namespace Go.Proofs.YteedolonhdbieaaGreatDoor
open Go Go.Vc
section
variable {h0 h : H} {A : List Ent} {i j p r : Nat} {C : Cm}
theorem chip_ok (hs : Sat h0 A h) (ci : At A i (chipE p C)) : C.ok := by
 obtain ⟨w, ok, _⟩ := (hs.front ci).open_
 exact ok
end
end Go.Proofs.YteedolonhdbieaaGreatDoor
end
section
namespace Go.Proofs.YteedolonhdbieaaGreatDoor
open Go Go.Vc
set_option maxRecDepth 100000
structure Stp where
 kind : Int
 a : Int
 b : Int
 x : List Int
 mask : List Int
structure Stp.ok (s : Stp) : Prop where
 a : -(2 ^ 63) ≤ s.a /\ s.a < 2 ^ 63
 x : s.x.length = 32
 mb : bytesOk s.mask
 ml : s.mask.length + 4096 ≤ 2 ^ 47
section
variable {h0 h : H} {A : List Ent} {i j p r : Nat} {C : Cm}
end
end Go.Proofs.YteedolonhdbieaaGreatDoor
/- Contracts of the chip's statements: games; calls whose answers are fixed. Own work. -/
set_option maxRecDepth 100000
namespace Go.Proofs.YteedolonhdbieaaGreatDoor
open Go Go.Vc
section
variable {h0 h : H} {A : List Ent} {i j p r : Nat} {C : Cm}
structure ScriptRd (h : H) (p : Option Addr) (l : Nat) (sc : List Stp) : Prop where
 len : sc.length = l
 small : l < 2 ^ 62
 el : ∀ i (hi : i < sc.length), ∃ (q : Addr) (mp : Option Addr) (ml mc : Nat), p = some q /\ hc h (q.add (i * 36)) = some (.int .i64 sc[i].kind) /\ hc h ((q.add (i * 36)).add 1) = some (.int .i64 sc[i].a) /\
  hc h ((q.add (i * 36)).add 2) = some (.int .i64 sc[i].b) /\ hrow h ((q.add (i * 36)).add 3) .u8 sc[i].x /\ hc h ((q.add (i * 36)).add 35) = some (.slice mp ml mc) /\ hsv h mp 1 ml (ints .u8 sc[i].mask) /\ sc[i].ok
end
end Go.Proofs.YteedolonhdbieaaGreatDoor
/- Contracts of the chip's statements: ChipLays. Own work. -/
set_option maxRecDepth 100000
namespace Go.Proofs.YteedolonhdbieaaGreatDoor
open Go Go.Vc
section
variable {h0 h : H} {A : List Ent} {i j p r : Nat} {C : Cm}
end
end Go.Proofs.YteedolonhdbieaaGreatDoor
end
section
namespace Go.Proofs.YteedolonhdbieaaGreatDoor
open Go Go.Vc
set_option maxRecDepth 100000
theorem loop_st {J : List SV -> H -> Prop} {σ : Type} (N : Nat) (S : Nat -> σ -> List SV) (Inv : Nat -> σ -> H -> Prop) (step : ∀ i s h, i < N -> Inv i s h -> (∀ s' h', Inv (i + 1) s' h' -> J (S (i + 1) s') h') -> J (S i s) h)
  (exit : ∀ s h, Inv N s h -> J (S N s) h) (i : Nat) (s : σ) (h : H) (hi : i ≤ N) (inv : Inv i s h) : J (S i s) h := by
 generalize e : N - i = n
 induction n generalizing i s h with
 | zero =>
  have : i = N := by omega
  subst this; exact exit s h inv
 | succ n ih => exact step i s h (by omega) inv fun s' h' inv' => ih (i + 1) s' h' (by omega) inv' (by omega)
def cnt (bl : List Bool) (a : Nat) : Nat -> Nat
 | 0 => 0
 | n + 1 => cnt bl a n + (if bl.getD (a + n) false = true then 1 else 0)
def lst (bl : List Bool) (a : Nat) : Nat -> Option Nat
 | 0 => none
 | n + 1 => match lst bl a n with | some k => some k | none => if bl.getD (a + n) false = true then none else some (a + n)
def lstI : Option Nat -> Int
 | none => -1
 | some k => k
theorem cnt_le (bl : List Bool) (a n : Nat) : cnt bl a n ≤ n := by
 induction n with
 | zero => exact Nat.le_refl _
 | succ n ih => unfold cnt; split <;> omega
theorem lst_none {bl : List Bool} {a n : Nat} (h : lst bl a n = none) : cnt bl a n = n := by
 induction n with
 | zero => rfl
 | succ n ih =>
  unfold lst at h
  cases e : lst bl a n with
  | some k => rw [e] at h; simp at h
  | none =>
   rw [e] at h
   dsimp only at h
   unfold cnt
   split at h
   ·rename_i h1; rw [if_pos h1, ih e]
   ·simp at h
theorem lst_some {bl : List Bool} {a n k : Nat} (h : lst bl a n = some k) : a ≤ k /\ k < a + n /\ bl.getD k false = false := by
 induction n with
 | zero => simp [lst] at h
 | succ n ih =>
  unfold lst at h
  cases e : lst bl a n with
  | some k' =>
   rw [e] at h
   dsimp only at h
   rw [h] at e
   obtain ⟨h1, h2, h3⟩ := ih e
   exact ⟨h1, by omega, h3⟩
  | none =>
   rw [e] at h
   dsimp only at h
   split at h
   ·simp at h
   ·rename_i h1
    injection h with h; subst h
    exact ⟨by omega, by omega, by simpa using h1⟩
theorem lst_all {bl : List Bool} {a n : Nat} (h : ∀ j, j < n -> bl.getD (a + j) false = true) : lst bl a n = none := by
 induction n with
 | zero => rfl
 | succ n ih =>
  unfold lst
  rw [ih fun j hj => h j (by omega)]
  dsimp only
  rw [if_pos (h n (by omega))]
theorem lst_of {bl : List Bool} {a n i : Nat} (hi : i < n) (h : ∀ j, j < i -> bl.getD (a + j) false = true) (hf : bl.getD (a + i) false = false) : lst bl a n = some (a + i) := by
 induction n with
 | zero => omega
 | succ n ih =>
  unfold lst
  by_cases e : i = n
  ·subst e
   rw [lst_all h]
   dsimp only
   rw [if_neg (by rw [hf]; simp)]
  ·rw [ih (by omega)]
theorem cnt_set {bl : List Bool} {a k : Nat} (n : Nat) (hk : k < bl.length) (hf : bl.getD k false = false) : cnt (bl.set k true) a n = cnt bl a n + (if a ≤ k /\ k < a + n then 1 else 0) := by
 induction n with
 | zero => rw [if_neg (by omega)]; rfl
 | succ n ih =>
  unfold cnt
  rw [ih]
  by_cases e : a + n = k
  ·subst e
   have : (bl.set (a + n) true).getD (a + n) false = true := by simp [List.getD, hk]
   rw [this, hf, if_neg (by omega), if_pos rfl, if_neg (by simp), if_pos (by omega)]
  ·have : (bl.set k true).getD (a + n) false = bl.getD (a + n) false := by simp only [List.getD, List.getElem?_set_ne (Ne.symm e)]
   rw [this]
   by_cases h1 : a ≤ k /\ k < a + n
   ·rw [if_pos h1, if_pos (show a ≤ k /\ k < a + (n + 1) by omega)]; omega
   ·rw [if_neg h1, if_neg (show ¬ (a ≤ k /\ k < a + (n + 1)) by omega)]; omega
theorem cnt_all {bl : List Bool} {a n : Nat} (h : ∀ j, j < n -> bl.getD (a + j) false = true) : cnt bl a n = n := lst_none (lst_all h)
def countM (C : Cm) (slot : Int) : Int × Int :=
 if askedM C slot C.cfg.slots ≠ 0 then (0, askedM C slot C.cfg.slots) else (cnt C.s.blown (slot * C.cfg.fuses).toNat C.cfg.fuses.toNat, 0)
def raiseL (a f : Nat) (n : Int) : Nat -> Cm -> Cm × Int
 | 0, C => (C, 0)
 | m + 1, C => if n ≤ cnt C.s.blown a f then (C, 0) else
  match lst C.s.blown a f with
  | none => (C, 0)
  | some k => if (blowM C k).2 ≠ 0 then blowM C k else raiseL a f n m (blowM C k).1
def raiseM (C : Cm) (slot n : Int) : Cm × Int :=
 if askedM C slot C.cfg.slots ≠ 0 then (C, askedM C slot C.cfg.slots) else if n < 0 then (C, 2) else if C.cfg.fuses < n then (C, 2)
 else raiseL (slot * C.cfg.fuses).toNat C.cfg.fuses.toNat n C.cfg.fuses.toNat C
def revokedM (C : Cm) (key : Int) : Bool × Int :=
 if askedM C key C.cfg.keys ≠ 0 then (false, askedM C key C.cfg.keys) else (C.s.blown.getD (C.cfg.slots * C.cfg.fuses + key).toNat false, 0)
def revokeM (C : Cm) (key : Int) : Cm × Int :=
 if (revokedM C key).2 ≠ 0 then (C, (revokedM C key).2) else if (revokedM C key).1 = true then (C, (revokedM C key).2) else blowM C (C.cfg.slots * C.cfg.fuses + key)
theorem askedM_in {C : Cm} {i n : Int} (ho : C.out = false) (h1 : 0 ≤ i) (h2 : i < n) : askedM C i n = 0 := by
 unfold askedM; rw [if_neg (by simp [ho]), if_neg (by omega), if_neg (by omega)]
theorem blow_good {C : Cm} {k : Nat} (ho : C.out = false) (hk : k < C.s.blown.length) (hl : C.left ≠ 0) :
  blowM C k = ({ C.act with s := { C.s with blown := C.s.blown.set k true } }, 0) := by
 unfold blowM
 rw [if_neg (by rw [askedM_in ho (by omega) (by omega)]; simp), Int.toNat_natCast]
 unfold maskAt errM
 rw [if_pos hl, if_pos hl, if_pos (by decide)]
theorem blow_cut {C : Cm} {k : Nat} (ho : C.out = false) (hk : k < C.s.blown.length) (hl : C.left = 0) :
  (blowM C k).2 = 8 /\ (blowM C k).1.cfg = C.cfg /\ ((blowM C k).1.s.blown = C.s.blown ∨ (blowM C k).1.s.blown = C.s.blown.set k true) := by
 unfold blowM
 rw [if_neg (by rw [askedM_in ho (by omega) (by omega)]; simp), Int.toNat_natCast]
 have e8 : errM C = 8 := by unfold errM; rw [if_neg (by simpa using hl)]
 refine ⟨e8, ?_, ?_⟩
 all_goals dsimp only
 ·split
  ·exact act_cfg C
  ·exact act_cfg C
 ·split
  ·exact Or.inr rfl
  ·exact Or.inl (by rw [act_s])
theorem act_out {C : Cm} (ho : C.out = false) (hl : C.left ≠ 0) : C.act.out = false := by
 unfold Cm.act; rw [if_pos hl]; exact ho
theorem row_in {C : Cm} (ok : C.ok) {slot : Int} (h1 : 0 ≤ slot) (h2 : slot < C.cfg.slots) : ((slot * C.cfg.fuses).toNat : Int) = slot * C.cfg.fuses /\ (C.cfg.fuses.toNat : Int) = C.cfg.fuses /\ (slot * C.cfg.fuses).toNat + C.cfg.fuses.toNat ≤ C.s.blown.length /\
  C.s.blown.length ≤ 576 /\ (slot * C.cfg.fuses).toNat + C.cfg.fuses.toNat ≤ (C.cfg.slots * C.cfg.fuses).toNat /\ C.cfg.fuses.toNat ≤ 64 := by
 have hb := ok.fits.blown
 have hf := ok.may.fuses
 have hn := ok.may.nf
 have hk := ok.may.keys
 unfold Cfg.nf at hb hn
 have e1 : 0 ≤ slot * C.cfg.fuses := Int.mul_nonneg h1 (by omega)
 have e2 : (slot + 1) * C.cfg.fuses ≤ C.cfg.slots * C.cfg.fuses := Int.mul_le_mul_of_nonneg_right (by omega) (by omega)
 rw [Int.add_mul] at e2
 omega
structure Raised (a f : Nat) (n : Int) (C D : Cm) (e : Int) : Prop where
 cfg : D.cfg = C.cfg
 len : D.s.blown.length = C.s.blown.length
 same : ∀ k, k < a ∨ a + f ≤ k -> D.s.blown.getD k false = C.s.blown.getD k false
 up : ∀ k, C.s.blown.getD k false = true -> D.s.blown.getD k false = true
 ge : cnt C.s.blown a f ≤ cnt D.s.blown a f
 le : (cnt D.s.blown a f : Int) ≤ max n (cnt C.s.blown a f)
 good : e = 0 -> (cnt D.s.blown a f : Int) = max n (cnt C.s.blown a f)
 on : e = 0 -> D.out = false
 bad : e ≠ 0 -> e = 8 /\ 0 ≤ C.left /\ C.left < n - cnt C.s.blown a f
theorem set_up {bl : List Bool} {k j : Nat} (h : bl.getD j false = true) : (bl.set k true).getD j false = true := by
 by_cases e : k = j
 ·subst e
  have hk : k < bl.length := by
   by_cases hk : k < bl.length
   ·exact hk
   ·rw [List.getD_eq_getElem?_getD, List.getElem?_eq_none (by omega)] at h; simp at h
  simp [List.getD, hk]
 ·simp only [List.getD, List.getElem?_set_ne e] at h ⊢; exact h
end Go.Proofs.YteedolonhdbieaaGreatDoor
/- Contracts of the fuses' package. Own work. -/
set_option maxRecDepth 100000
namespace Go.Proofs.YteedolonhdbieaaGreatDoor
open Go Go.Vc
section
variable {h0 h : H} {A : List Ent} {i j p r : Nat} {C : Cm}
theorem fasked_sp {Q : Int -> H -> Prop} (hs : Sat h0 A h) (ci : At A i (chipE p C)) (n j : Int) (k : Q (askedM C j n) h) : F_fuse_asked ⟨p, 0, none⟩ j n Q h := by
 unfold F_fuse_asked G_fuse_asked
 refine Out_sp hs ci ?_
 unfold askedM at k
 simp only [ltI_eq, leI_eq, decide_eq_true_eq]
 split
 ·simpa [*] using k
 ·split
  ·simpa [*] using k
  ·split <;> simpa [*] using k
abbrev rowS (bl : List Bool) (a : Nat) (n : Nat) : List SV := [.dv (.one (.int .i64 (cnt bl a n : Int))), .dv (.one (.int .i64 (lstI (lst bl a n)))), .dv (.one (.int .i64 (n : Int)))]
theorem lst_succ (bl : List Bool) (a n : Nat) : lst bl a (n + 1) = match lst bl a n with | some k => some k | none => if bl.getD (a + n) false = true then none else some (a + n) := rfl
theorem frow_sp {Q : Int -> Int -> Int -> H -> Prop} (hs : Sat h0 A h) (ci : At A i (chipE p C)) (ho : C.out = false) {slot : Int} (h1 : 0 ≤ slot) (h2 : slot < C.cfg.slots)
  (k : ∀ h', Sat h0 A h' -> Q (cnt C.s.blown (slot * C.cfg.fuses).toNat C.cfg.fuses.toNat) (lstI (lst C.s.blown (slot * C.cfg.fuses).toNat C.cfg.fuses.toNat)) 0 h') : F_fuse_row ⟨p, 0, none⟩ slot Q h := by
 unfold F_fuse_row G_fuse_row
 refine Config_sp hs ci ?_
 intro h1' hs
 have ok := chip_ok hs ci
 obtain ⟨e1, e2, e3, e4, e5, e6⟩ := row_in ok h1 h2
 have hsl := ok.may.slots
 intro J hJ
 generalize hf : C.cfg.fuses.toNat = f at *
 generalize ha : (slot * C.cfg.fuses).toNat = a at *
 refine loop_st f (fun n (_ : Unit) => rowS C.s.blown a n) (fun _ _ h => Sat h0 A h) ?_ ?_ 0 () _ (by omega) hs
 ·intro n _ h2 hn hs hk
  apply hJ
  rw [ltI_eq, if_pos (by simp; omega)]
  have ew : IntKind.i64.wrap (IntKind.i64.wrap (slot * C.cfg.fuses) + n) = ((a + n : Nat) : Int) := by
   rw [wrap_id (n := slot * C.cfg.fuses) (by omega), wrap_id (by omega)]; omega
  rw [ew]
  have eb : blownM C ((a + n : Nat) : Int) = (C.s.blown.getD (a + n) false, 0) := by
   unfold blownM; rw [askedM_in ho (by omega) (by omega), if_neg (by simp), Int.toNat_natCast]
  refine Blown_sp hs ci _ ?_
  rw [eb]
  rw [if_neg (by simp)]
  have hcl := cnt_le C.s.blown a n
  have hk := hk () _ hs
  have ls := lst_succ C.s.blown a n
  by_cases hb : C.s.blown.getD (a + n) false = true
  ·rw [if_pos (by simpa using hb), wrap_succ (by omega), wrap_succ (by omega)]
   have e7 : cnt C.s.blown a (n + 1) = cnt C.s.blown a n + 1 := by rw [cnt, if_pos hb]
   have e8 : lst C.s.blown a (n + 1) = lst C.s.blown a n := by
    rw [ls]
    cases lst C.s.blown a n with
    | none => exact if_pos hb
    | some k => rfl
   simp only [rowS, e7, e8] at hk
   exact hk
  ·rw [if_neg (by simpa using hb), wrap_succ (by omega)]
   have e7 : cnt C.s.blown a (n + 1) = cnt C.s.blown a n := by rw [cnt, if_neg hb]; rfl
   cases e : lst C.s.blown a n with
   | none =>
    rw [e] at ls
    dsimp only at ls
    rw [if_neg hb] at ls
    rw [ltI_eq, if_pos (by simp [lstI])]
    simp only [rowS, e7, ls, lstI] at hk
    exact hk
   | some x =>
    rw [e] at ls
    dsimp only at ls
    have e10 : ¬ (decide (lstI (some x) < 0) = true) := by
     have : (0 : Int) ≤ (x : Int) := Int.natCast_nonneg x
     rw [decide_eq_true_eq]
     exact Int.not_lt.2 this
    rw [ltI_eq, if_neg e10]
    simp only [rowS, e7, ls, lstI] at hk
    exact hk
 ·intro _ h2 hs
  apply hJ
  rw [ltI_eq, if_neg (by simp; omega)]
  exact k _ hs
theorem Count_sp {Q : Int -> Int -> H -> Prop} (hs : Sat h0 A h) (ci : At A i (chipE p C)) (slot : Int) (k : ∀ h', Sat h0 A h' -> Q (countM C slot).1 (countM C slot).2 h') : F_fuse_Count ⟨p, 0, none⟩ slot Q h := by
 unfold F_fuse_Count G_fuse_Count
 refine Config_sp hs ci ?_
 intro h1 hs
 refine fasked_sp hs ci _ _ ?_
 unfold countM at k
 by_cases e : askedM C slot C.cfg.slots = 0
 ·obtain ⟨ho, h1, h2⟩ := askedM_zero e
  rw [if_neg (by simpa using e)] at k ⊢
  exact frow_sp hs ci ho h1 h2 fun h' hs' => k _ hs'
 ·rw [if_pos (by simpa using e)] at k ⊢
  exact k _ hs
theorem raise_loop {Q : Int -> H -> Prop} {slot n : Int} (a f : Nat) (n2 : n ≤ f) : ∀ (m : Nat) (C : Cm) (h : H) (A : List Ent) (ci : At A i (chipE p C)) (hs : Sat h0 A h) (ho : C.out = false) (h1 : 0 ≤ slot) (h2 : slot < C.cfg.slots) (ea : (slot * C.cfg.fuses).toNat = a) (ef : C.cfg.fuses.toNat = f) (hm : n - cnt C.s.blown a f ≤ m)
  (k : ∀ h', Sat h0 (put A i (chipE p (raiseL a f n m C).1)) h' -> Q (raiseL a f n m C).2 h') (J : List SV -> H -> Prop)
  (hJ : ∀ h, F_fuse_row ⟨p, 0, none⟩ slot (fun x y e h => if (e != 0) = true then Q e h else if leI n x = true then Q e h else F_chip_Chip_Blow ⟨p, 0, none⟩ y (fun e h => if (e != 0) = true then Q e h else J [] h) h) h -> J [] h), J [] h := by
 intro m
 induction m with
 | zero =>
  intro C h A ci hs ho h1 h2 ea ef hm k J hJ
  apply hJ
  refine frow_sp hs ci ho h1 h2 ?_
  intro h3 hs
  rw [ea, ef]
  rw [if_neg (by simp), leI_eq, if_pos (by simp; omega)]
  exact k _ (by unfold raiseL; rw [ci.put_self]; exact hs)
 | succ m ih =>
  intro C h A ci hs ho h1 h2 ea ef hm k J hJ
  have ok := chip_ok hs ci
  obtain ⟨e1, e2, e3, e4, e5, e6⟩ := row_in ok h1 h2
  apply hJ
  refine frow_sp hs ci ho h1 h2 ?_
  intro h3 hs
  rw [ea, ef]
  rw [ea, ef] at e3
  rw [ea] at e1
  rw [ef] at e2
  unfold raiseL at k
  by_cases hn : n ≤ cnt C.s.blown a f
  ·rw [if_pos hn] at k
   rw [if_neg (by simp), leI_eq, if_pos (by simpa using hn)]
   exact k _ (by rw [ci.put_self]; exact hs)
  ·rw [if_neg hn] at k
   rw [if_neg (by simp), leI_eq, if_neg (by simpa using hn)]
   cases e : lst C.s.blown a f with
   | none => have := lst_none e; omega
   | some x =>
    rw [e] at k
    dsimp only at k
    obtain ⟨k1, k2, k3⟩ := lst_some e
    refine Blow_sp hs ci _ ?_
    intro h4 hs
    dsimp only [lstI]
    dsimp only [lstI] at hs
    by_cases hl : C.left = 0
    ·obtain ⟨b1, b2, b3⟩ := blow_cut ho (show x < C.s.blown.length by omega) hl
     rw [if_pos (by rw [b1]; simp)] at k ⊢
     exact k _ hs
    ·rw [blow_good ho (show x < C.s.blown.length by omega) hl] at k hs ⊢
     dsimp only at k hs ⊢
     rw [if_neg (by simp)] at k ⊢
     have hc := cnt_set (a := a) f (show x < C.s.blown.length by omega) k3
     rw [if_pos ⟨k1, k2⟩] at hc
     refine ih _ _ _ (ci.put _) hs (act_out ho hl) h1 (by dsimp only; rw [act_cfg]; exact h2) (by dsimp only; rw [act_cfg]; exact ea) (by dsimp only; rw [act_cfg]; exact ef) (by dsimp only; rw [hc]; omega) ?_ J hJ
     intro h5 hs
     rw [put_put] at hs
     exact k _ hs
theorem Raise_sp {Q : Int -> H -> Prop} (hs : Sat h0 A h) (ci : At A i (chipE p C)) (slot n : Int) (k : ∀ h', Sat h0 (put A i (chipE p (raiseM C slot n).1)) h' -> Q (raiseM C slot n).2 h') : F_fuse_Raise ⟨p, 0, none⟩ slot n Q h := by
 unfold F_fuse_Raise G_fuse_Raise
 refine Config_sp hs ci ?_
 intro h1 hs
 refine fasked_sp hs ci _ _ ?_
 unfold raiseM at k
 by_cases e : askedM C slot C.cfg.slots = 0
 case neg =>
  rw [if_pos (by simpa using e)] at k ⊢
  exact k _ (by rw [ci.put_self]; exact hs)
 obtain ⟨ho, h1, h2⟩ := askedM_zero e
 rw [if_neg (by simpa using e)] at k ⊢
 intro J hJ
 by_cases hn : n < 0
 ·rw [if_pos hn] at k
  rw [ltI_eq, if_pos (by simpa using hn)]
  exact k _ (by rw [ci.put_self]; exact hs)
 rw [if_neg hn] at k
 rw [ltI_eq, if_neg (by simpa using hn)]
 refine Config_sp hs ci ?_
 intro h3 hs
 by_cases hf : C.cfg.fuses < n
 ·rw [if_pos hf] at k
  rw [ltI_eq, if_pos (by simpa using hf)]
  exact k _ (by rw [ci.put_self]; exact hs)
 rw [if_neg hf] at k
 rw [ltI_eq, if_neg (by simpa using hf)]
 apply hJ
 intro J2 hJ2
 exact raise_loop _ _ (by omega) _ C h3 A ci hs ho h1 h2 rfl rfl (by omega) k J2 hJ2
theorem key_in (ok : C.ok) {key : Int} (h1 : 0 ≤ key) (h2 : key < C.cfg.keys) : IntKind.i64.wrap (IntKind.i64.wrap (C.cfg.slots * C.cfg.fuses) + key) = C.cfg.slots * C.cfg.fuses + key /\ 0 ≤ C.cfg.slots * C.cfg.fuses + key /\ C.cfg.slots * C.cfg.fuses + key < C.s.blown.length := by
 have hb := ok.fits.blown
 have hn := ok.may.nf
 have hk := ok.may.keys
 have hf := ok.may.fuses
 have hsl := ok.may.slots
 unfold Cfg.nf at hb hn
 have e1 : 0 ≤ C.cfg.slots * C.cfg.fuses := Int.mul_nonneg (by omega) (by omega)
 refine ⟨?_, by omega, by omega⟩
 rw [wrap_id (n := C.cfg.slots * C.cfg.fuses) (by omega), wrap_id (by omega)]
theorem of_sp {Q : Int -> H -> Prop} (hs : Sat h0 A h) (ci : At A i (chipE p C)) (key : Int) (h1 : 0 ≤ key) (h2 : key < C.cfg.keys) (k : ∀ h', Sat h0 A h' -> Q (C.cfg.slots * C.cfg.fuses + key) h') : F_fuse_of ⟨p, 0, none⟩ key Q h := by
 unfold F_fuse_of G_fuse_of
 refine Config_sp hs ci ?_
 intro h3 hs
 refine Config_sp hs ci ?_
 intro h4 hs
 rw [(key_in (chip_ok hs ci) h1 h2).1]
 exact k _ hs
theorem Revoked_sp {Q : Bool -> Int -> H -> Prop} (hs : Sat h0 A h) (ci : At A i (chipE p C)) (key : Int) (k : ∀ h', Sat h0 A h' -> Q (revokedM C key).1 (revokedM C key).2 h') : F_fuse_Revoked ⟨p, 0, none⟩ key Q h := by
 unfold F_fuse_Revoked G_fuse_Revoked
 refine Config_sp hs ci ?_
 intro h1 hs
 refine fasked_sp hs ci _ _ ?_
 unfold revokedM at k
 by_cases e : askedM C key C.cfg.keys = 0
 case neg =>
  rw [if_pos (by simpa using e)] at k ⊢
  exact k _ hs
 obtain ⟨ho, h1, h2⟩ := askedM_zero e
 rw [if_neg (by simpa using e)] at k ⊢
 refine of_sp hs ci key h1 h2 ?_
 intro h3 hs
 obtain ⟨x1, x2, x3⟩ := key_in (chip_ok hs ci) h1 h2
 refine Blown_sp hs ci _ ?_
 have eb : blownM C (C.cfg.slots * C.cfg.fuses + key) = (C.s.blown.getD (C.cfg.slots * C.cfg.fuses + key).toNat false, 0) := by
  unfold blownM; rw [askedM_in ho x2 x3, if_neg (by simp)]
 rw [eb]
 exact k _ hs
theorem revoked_ok {key : Int} (e : (revokedM C key).2 = 0) : 0 ≤ key /\ key < C.cfg.keys := by
 unfold revokedM at e
 split at e
 ·rename_i h1; exact absurd e h1
 ·rename_i h1
  obtain ⟨_, h2, h3⟩ := askedM_zero (show askedM C key C.cfg.keys = 0 by simpa using h1)
  exact ⟨h2, h3⟩
theorem Revoke_sp {Q : Int -> H -> Prop} (hs : Sat h0 A h) (ci : At A i (chipE p C)) (key : Int) (k : ∀ h', Sat h0 (put A i (chipE p (revokeM C key).1)) h' -> Q (revokeM C key).2 h') : F_fuse_Revoke ⟨p, 0, none⟩ key Q h := by
 unfold F_fuse_Revoke G_fuse_Revoke
 refine Revoked_sp hs ci key ?_
 intro h1 hs
 unfold revokeM at k
 by_cases e : (revokedM C key).2 = 0
 case neg =>
  rw [if_pos (by simpa using e)] at k ⊢
  exact k _ (by rw [ci.put_self]; exact hs)
 obtain ⟨h1, h2⟩ := revoked_ok e
 rw [if_neg (by simpa using e)] at k ⊢
 by_cases e2 : (revokedM C key).1 = true
 ·rw [if_pos e2] at k ⊢
  exact k _ (by rw [ci.put_self]; exact hs)
 rw [if_neg e2] at k ⊢
 refine of_sp hs ci key h1 h2 ?_
 intro h3 hs
 exact Blow_sp hs ci _ fun h' hs' => k _ hs'
end
end Go.Proofs.YteedolonhdbieaaGreatDoor
/- Contracts of the document's fuses. Own work. -/
set_option maxRecDepth 100000
namespace Go.Proofs.YteedolonhdbieaaGreatDoor
open Go Go.Vc
section
variable {h0 h : H} {A : List Ent} {i j p r : Nat} {C : Cm}
theorem ref_bl (hs : Sat h0 A h) (cj : At A j (refE r C)) : ∃ w : Pl, C.ok /\ (∀ o v, (C.cells w.a w.b w.c w.m)[o]? = some v -> hc h ⟨r, o, none⟩ = some v) /\ w.c.2.1 = C.s.blown.length /\
  ∀ k, k < C.s.blown.length -> ∃ q, w.c.1 = some ⟨q, 0, none⟩ /\ hc h ⟨q, k, none⟩ = some (.bool (C.s.blown.getD k false)) := by
 obtain ⟨⟨w, ms⟩, ⟨ok, _, _, _⟩, hs⟩ := (hs.front cj).open_
 dsimp only [refL, List.cons_append, List.nil_append] at hs
 have hl := hs.sl_len zs3
 simp only [bools_length, Nat.mul_one] at hl
 refine ⟨w, ok, fun o v e => hs.ld .z e, hl.symm, ?_⟩
 intro k hk
 obtain ⟨q, hq⟩ := hs.sl_some zs3 (by omega)
 refine ⟨q, hq, ?_⟩
 obtain ⟨w1, w2, ⟨cp, cl, cc⟩, w4⟩ := w
 simp only at hq hl
 subst hq
 refine hs.sld zs3 ?_
 rw [bools_get, List.getElem?_eq_getElem hk]
 simp [List.getD, List.getElem?_eq_getElem hk]
theorem rmay_sp {Q : Int -> H -> Prop} (hs : Sat h0 A h) (ci : At A i (refE p C)) (n j : Int) (k : Q (askedM C j n) h) : F_portcullisref07_may ⟨p, 0, none⟩ j n Q h := by
 unfold F_portcullisref07_may G_portcullisref07_may
 try simp only [add_mk, Nat.zero_add]
 obtain ⟨w, ok, ld, hl, el⟩ := ref_bl hs ci
 refine ⟨_, ld 11 _ rfl, ?_⟩
 unfold askedM at k
 simp only [ltI_eq, leI_eq, decide_eq_true_eq]
 split
 ·simpa [*] using k
 ·split
  ·simpa [*] using k
  ·split <;> simpa [*] using k
theorem rCount_sp {Q : Int -> Int -> H -> Prop} (hs : Sat h0 A h) (ci : At A i (refE p C)) (slot : Int) (k : ∀ h', Sat h0 A h' -> Q (countM C slot).1 (countM C slot).2 h') : F_portcullisref07_Count ⟨p, 0, none⟩ slot Q h := by
 unfold F_portcullisref07_Count G_portcullisref07_Count
 try simp only [add_mk, Nat.zero_add]
 obtain ⟨w, ok, ld, hl, el⟩ := ref_bl hs ci
 refine ⟨_, ld 1 _ rfl, ?_⟩
 refine rmay_sp hs ci _ _ ?_
 unfold countM at k
 by_cases e : askedM C slot C.cfg.slots = 0
 case neg =>
  rw [if_pos (by simpa using e)] at k ⊢
  exact k _ hs
 obtain ⟨ho, h1, h2⟩ := askedM_zero e
 rw [if_neg (by simpa using e)] at k ⊢
 obtain ⟨e1, e2, e3, e4, e5, e6⟩ := row_in ok h1 h2
 have hsl := ok.may.slots
 clear w ld hl el
 intro J hJ
 generalize hf : C.cfg.fuses.toNat = f at *
 generalize ha : (slot * C.cfg.fuses).toNat = a at *
 refine loop_st f (fun n (_ : Unit) => [.dv (.one (.int .i64 (cnt C.s.blown a n : Int))), .dv (.one (.int .i64 (n : Int)))]) (fun _ _ h => Sat h0 A h) ?_ ?_ 0 () _ (by omega) hs
 ·intro n _ h2 hn hs hk
  apply hJ
  obtain ⟨w, ok, ld, hl, el⟩ := ref_bl hs ci
  refine ⟨_, ld 2 _ rfl, ?_⟩
  rw [ltI_eq, if_pos (by simp; omega)]
  refine ⟨_, _, _, ld 9 _ rfl, ?_⟩
  refine ⟨_, ld 2 _ rfl, ?_⟩
  have ew : IntKind.i64.wrap (IntKind.i64.wrap (slot * C.cfg.fuses) + n) = ((a + n : Nat) : Int) := by
   rw [wrap_id (n := slot * C.cfg.fuses) (by omega), wrap_id (by omega)]; omega
  rw [ew]
  obtain ⟨q, hq, hb⟩ := el (a + n) (by omega)
  refine ⟨_, hq, by omega, by omega, _, by rw [add_mk, Int.toNat_natCast, Nat.mul_one, Nat.zero_add]; exact hb, ?_⟩
  have hcl := cnt_le C.s.blown a n
  have hk := hk () _ hs
  by_cases hb : C.s.blown.getD (a + n) false = true
  ·rw [if_pos (by simpa using hb), wrap_succ (by omega), wrap_succ (by omega)]
   have e7 : cnt C.s.blown a (n + 1) = cnt C.s.blown a n + 1 := by rw [cnt, if_pos hb]
   rw [e7] at hk
   exact hk
  ·rw [if_neg (by simpa using hb), wrap_succ (by omega)]
   have e7 : cnt C.s.blown a (n + 1) = cnt C.s.blown a n := by rw [cnt, if_neg hb]; rfl
   rw [e7] at hk
   exact hk
 ·intro _ h2 hs
  apply hJ
  obtain ⟨w, ok, ld, hl, el⟩ := ref_bl hs ci
  refine ⟨_, ld 2 _ rfl, ?_⟩
  rw [ltI_eq, if_neg (by simp; omega)]
  exact k _ hs
theorem raiseL_done {C : Cm} {a f : Nat} {n : Int} (h : n ≤ cnt C.s.blown a f) (m : Nat) : raiseL a f n m C = (C, 0) := by
 cases m with
 | zero => rfl
 | succ m => unfold raiseL; rw [if_pos h]
def RaiseI (C0 : Cm) (a f : Nat) (n : Int) (R : Cm × Int) (x : Nat) (D : Cm) (k e : Int) : Prop :=
 (e = 0 /\ k = cnt D.s.blown a f /\ D.out = false /\ D.cfg = C0.cfg /\ a + f ≤ D.s.blown.length /\ (∀ j, j < x -> D.s.blown.getD (a + j) false = true) /\ ∃ m : Nat, n - cnt D.s.blown a f ≤ m /\ raiseL a f n m D = R) ∨ (e ≠ 0 /\ D.cfg = C0.cfg /\ R = (D, e))
theorem rRaise_sp {Q : Int -> H -> Prop} (hs : Sat h0 A h) (ci : At A i (refE p C)) (slot n : Int) (k : ∀ h', Sat h0 (put A i (refE p (raiseM C slot n).1)) h' -> Q (raiseM C slot n).2 h') : F_portcullisref07_Raise ⟨p, 0, none⟩ slot n Q h := by
 unfold F_portcullisref07_Raise G_portcullisref07_Raise
 try simp only [add_mk, Nat.zero_add]
 refine rCount_sp hs ci _ ?_
 intro h1 hs
 intro J hJ
 unfold raiseM at k
 by_cases e : askedM C slot C.cfg.slots = 0
 case neg =>
  rw [if_pos (by simpa using e)] at k
  have ec : countM C slot = (0, askedM C slot C.cfg.slots) := by unfold countM; rw [if_pos (by simpa using e)]
  rw [ec] at hJ ⊢
  rw [if_neg (by simpa using e)]
  apply hJ
  intro J2 hJ2
  apply hJ2
  intro J3 hJ3
  clear hJ3
  obtain ⟨w, ok, ld, hl, el⟩ := ref_bl hs ci
  refine ⟨_, ld 2 _ rfl, ?_⟩
  have kk := k _ (show Sat h0 (put A i (refE p C)) h1 by rw [ci.put_self]; exact hs)
  split
  ·split
   ·rw [if_neg (by simpa using e)]; exact kk
   ·exact kk
  ·exact kk
 obtain ⟨ho, h1', h2⟩ := askedM_zero e
 rw [if_neg (by simpa using e)] at k
 have ec : countM C slot = (((cnt C.s.blown (slot * C.cfg.fuses).toNat C.cfg.fuses.toNat : Nat) : Int), 0) := by unfold countM; rw [if_neg (by simpa using e)]
 rw [ec] at hJ ⊢
 rw [if_pos (by simp)]
 have range : ∀ (hr : Q 2 h1), J [.dv (.one (.int .i64 2))] h1 := by
  intro hr
  apply hJ
  intro J2 hJ2
  apply hJ2
  intro J3 hJ3
  clear hJ3
  obtain ⟨w, ok, ld, hl, el⟩ := ref_bl hs ci
  refine ⟨_, ld 2 _ rfl, ?_⟩
  split
  ·split
   ·rw [if_neg (by simp)]; exact hr
   ·exact hr
  ·exact hr
 by_cases hn : n < 0
 ·rw [if_pos hn] at k
  rw [ltI_eq, if_pos (by simpa using hn)]
  exact range (k _ (by rw [ci.put_self]; exact hs))
 rw [if_neg hn] at k
 rw [ltI_eq, if_neg (by simpa using hn)]
 obtain ⟨w, ok, ld, hl, el⟩ := ref_bl hs ci
 refine ⟨_, ld 2 _ rfl, ?_⟩
 by_cases hf : C.cfg.fuses < n
 ·rw [if_pos hf] at k
  rw [ltI_eq, if_pos (by simpa using hf)]
  exact range (k _ (by rw [ci.put_self]; exact hs))
 rw [if_neg hf] at k
 rw [ltI_eq, if_neg (by simpa using hf)]
 clear range
 obtain ⟨e1, e2, e3, e4, e5, e6⟩ := row_in ok h1' h2
 have hsl := ok.may.slots
 have hlen : C.s.blown.length ≤ 576 := e4
 clear w ld hl el
 apply hJ
 clear hJ J
 intro J hJ
 generalize hff : C.cfg.fuses.toNat = f at *
 generalize ha : (slot * C.cfg.fuses).toNat = a at *
 generalize hR : raiseL a f n f C = R at *
 have h00 : ∃ D : Cm, Sat h0 (put A i (refE p D)) h1 /\ RaiseI C a f n R 0 D (cnt C.s.blown a f) 0 := ⟨C, by rw [ci.put_self]; exact hs, Or.inl ⟨rfl, rfl, ho, rfl, e3, fun j hj => by omega, f, by omega, hR⟩⟩
 refine loop_st f (fun x (s : Int × Int) => [.dv (.one (.int .i64 s.1)), .dv (.one (.int .i64 s.2)), .dv (.one (.int .i64 (x : Int)))]) (fun x s h => ∃ D : Cm, Sat h0 (put A i (refE p D)) h /\ RaiseI C a f n R x D s.1 s.2) ?_ ?_ 0 ((cnt C.s.blown a f : Int), (0 : Int)) _ (by omega) h00
 ·rintro x ⟨kk, ee⟩ h2' hx ⟨D, hs, inv⟩ hk
  apply hJ
  intro J3 hJ3
  have hcf : D.cfg = C.cfg := by rcases inv with inv | inv; exact inv.2.2.2.1; exact inv.2.1
  obtain ⟨w, ok, ld, hl, el⟩ := ref_bl hs (ci.put _)
  refine ⟨_, ld 2 _ rfl, ?_⟩
  rw [hcf]
  rw [ltI_eq, if_pos (by simp; omega)]
  dsimp only at inv ⊢
  by_cases hkn : kk < n
  case neg =>
   rw [ltI_eq, if_neg (by simpa using hkn)]
   rcases inv with ⟨i1, i2, i3, i4, i5, i6, m, i7, i8⟩ | ⟨i1, i2, i3⟩
   ·rw [raiseL_done (by omega)] at i8
    rw [← i8] at k
    rw [i1]
    exact k _ hs
   ·rw [i3] at k; exact k _ hs
  rw [ltI_eq, if_pos (by simpa using hkn)]
  rcases inv with ⟨i1, i2, i3, i4, i5, i6, m, i7, i8⟩ | ⟨i1, i2, i3⟩
  case inr => rw [if_neg (by simpa using i1)]; rw [i3] at k; exact k _ hs
  rw [if_pos (by simpa using i1)]
  apply hJ3
  refine ⟨_, _, _, ld 9 _ rfl, ?_⟩
  refine ⟨_, ld 2 _ rfl, ?_⟩
  rw [hcf]
  have hl6 : D.s.blown.length ≤ 576 := by
   have h3 := ok.fits.blown
   have h4 := ok.may.nf
   omega
  have ew : IntKind.i64.wrap (IntKind.i64.wrap (slot * C.cfg.fuses) + x) = ((a + x : Nat) : Int) := by
   rw [wrap_id (n := slot * C.cfg.fuses) (by omega), wrap_id (by omega)]; omega
  rw [ew]
  obtain ⟨q, hq, hb⟩ := el (a + x) (by omega)
  refine ⟨_, hq, by omega, by omega, _, by rw [add_mk, Int.toNat_natCast, Nat.mul_one, Nat.zero_add]; exact hb, ?_⟩
  have hcl := cnt_le D.s.blown a f
  by_cases hbx : D.s.blown.getD (a + x) false = true
  ·rw [if_neg (by simpa using hbx), wrap_succ (by omega)]
   refine hk (kk, ee) _ ⟨D, hs, Or.inl ⟨i1, i2, i3, i4, i5, ?_, m, i7, i8⟩⟩
   intro j hj
   by_cases e : j = x
   ·rw [e]; exact hbx
   ·exact i6 j (by omega)
  ·rw [if_pos (by simpa using hbx)]
   refine ⟨_, ld 2 _ rfl, ?_⟩
   rw [hcf, ew]
   have hls := lst_of (n := f) hx i6 (by simpa using hbx)
   have hbf : D.s.blown.getD (a + x) false = false := by simpa using hbx
   refine rBlow_sp hs (ci.put _) _ ?_
   intro h3 hs
   rw [put_put] at hs
   rw [wrap_succ (by omega)]
   cases m with
   | zero => omega
   | succ m =>
    unfold raiseL at i8
    rw [if_neg (by omega), hls] at i8
    dsimp only at i8
    by_cases hl0 : D.left = 0
    ·obtain ⟨b1, b2, b3⟩ := blow_cut i3 (show a + x < D.s.blown.length by omega) hl0
     rw [if_pos (by rw [b1]; simp)] at i8
     exact hk (IntKind.i64.wrap (kk + 1), _) _ ⟨_, hs, Or.inr ⟨fun h9 => absurd (b1.symm.trans h9) (by decide), b2.trans hcf, i8.symm⟩⟩
    ·have bg := blow_good i3 (show a + x < D.s.blown.length by omega) hl0
     rw [bg] at i8 hs ⊢
     dsimp only at i8 hs ⊢
     rw [if_neg (by simp)] at i8
     have hc := cnt_set (a := a) f (show a + x < D.s.blown.length by omega) hbf
     rw [if_pos ⟨by omega, by omega⟩] at hc
     refine hk (IntKind.i64.wrap (kk + 1), 0) _ ⟨_, hs, Or.inl ⟨rfl, ?_, act_out i3 hl0, (act_cfg D).trans hcf, by simpa using i5, ?_, m, by dsimp only; rw [hc]; omega, i8⟩⟩
     ·dsimp only; rw [hc, i2, wrap_succ (by omega)]
     ·intro j hj
      by_cases e : j = x
      ·subst e; simp [List.getD, show a + j < D.s.blown.length by omega]
      ·exact set_up (i6 j (by omega))
 ·rintro ⟨kk, ee⟩ h2' ⟨D, hs, inv⟩
  apply hJ
  intro J3 hJ3
  clear hJ3
  have hcf : D.cfg = C.cfg := by rcases inv with inv | inv; exact inv.2.2.2.1; exact inv.2.1
  obtain ⟨w, ok, ld, hl, el⟩ := ref_bl hs (ci.put _)
  refine ⟨_, ld 2 _ rfl, ?_⟩
  rw [hcf]
  rw [ltI_eq, if_neg (by simp; omega)]
  dsimp only at inv ⊢
  rcases inv with ⟨i1, i2, i3, i4, i5, i6, m, i7, i8⟩ | ⟨i1, i2, i3⟩
  ·rw [raiseL_done (by rw [cnt_all i6]; omega)] at i8
   rw [← i8] at k
   rw [i1]
   exact k _ hs
  ·rw [i3] at k; exact k _ hs
theorem rRevoked_sp {Q : Bool -> Int -> H -> Prop} (hs : Sat h0 A h) (ci : At A i (refE p C)) (key : Int) (k : ∀ h', Sat h0 A h' -> Q (revokedM C key).1 (revokedM C key).2 h') : F_portcullisref07_Revoked ⟨p, 0, none⟩ key Q h := by
 unfold F_portcullisref07_Revoked G_portcullisref07_Revoked
 try simp only [add_mk, Nat.zero_add]
 obtain ⟨w, ok, ld, hl, el⟩ := ref_bl hs ci
 refine ⟨_, ld 4 _ rfl, ?_⟩
 refine rmay_sp hs ci _ _ ?_
 unfold revokedM at k
 by_cases e : askedM C key C.cfg.keys = 0
 case neg =>
  rw [if_pos (by simpa using e)] at k ⊢
  exact k _ hs
 obtain ⟨ho, h1, h2⟩ := askedM_zero e
 rw [if_neg (by simpa using e)] at k ⊢
 obtain ⟨x1, x2, x3⟩ := key_in ok h1 h2
 refine ⟨_, _, _, ld 9 _ rfl, _, ld 1 _ rfl, _, ld 2 _ rfl, ?_⟩
 rw [x1]
 obtain ⟨q, hq, hb⟩ := el (C.cfg.slots * C.cfg.fuses + key).toNat (by omega)
 exact ⟨_, hq, by omega, by omega, _, by rw [add_mk, Nat.mul_one, Nat.zero_add]; exact hb, k _ hs⟩
theorem rRevoke_sp {Q : Int -> H -> Prop} (hs : Sat h0 A h) (ci : At A i (refE p C)) (key : Int) (k : ∀ h', Sat h0 (put A i (refE p (revokeM C key).1)) h' -> Q (revokeM C key).2 h') : F_portcullisref07_Revoke ⟨p, 0, none⟩ key Q h := by
 unfold F_portcullisref07_Revoke G_portcullisref07_Revoke
 try simp only [add_mk, Nat.zero_add]
 refine rRevoked_sp hs ci key ?_
 intro h1 hs
 unfold revokeM at k
 by_cases e : (revokedM C key).2 = 0
 case neg =>
  rw [if_pos (by simpa using e)] at k ⊢
  exact k _ (by rw [ci.put_self]; exact hs)
 obtain ⟨h1, h2⟩ := revoked_ok e
 rw [if_neg (by simpa using e)] at k ⊢
 by_cases e2 : (revokedM C key).1 = true
 ·rw [if_pos e2] at k ⊢
  exact k _ (by rw [ci.put_self]; exact hs)
 rw [if_neg e2] at k ⊢
 obtain ⟨w, ok, ld, hl, el⟩ := ref_bl hs ci
 refine ⟨_, ld 1 _ rfl, _, ld 2 _ rfl, ?_⟩
 rw [(key_in ok h1 h2).1]
 exact rBlow_sp hs ci _ fun h' hs' => k _ hs'
end
end Go.Proofs.YteedolonhdbieaaGreatDoor
end
section
namespace Go.Proofs.YteedolonhdbieaaGreatDoor
open Go Go.Vc
set_option maxRecDepth 100000
section
variable {h0 h : H} {A : List Ent} {i j p r : Nat} {C : Cm}
structure Stp7 where
 kind : Int
 a : Int
 n : Int
structure Stp7.ok (s : Stp7) : Prop where
 n : s.n < 2 ^ 63
structure Script7 (h : H) (p : Option Addr) (l : Nat) (sc : List Stp7) : Prop where
 len : sc.length = l
 small : l < 2 ^ 62
 el : ∀ i (hi : i < sc.length), ∃ (q : Addr), p = some q /\ hc h (q.add (i * 3)) = some (.int .i64 sc[i].kind) /\ hc h ((q.add (i * 3)).add 1) = some (.int .i64 sc[i].a) /\
  hc h ((q.add (i * 3)).add 2) = some (.int .i64 sc[i].n) /\ sc[i].ok
end
end Go.Proofs.YteedolonhdbieaaGreatDoor
end
