/- Contracts of the chip's statements: ChipCuts. Own work. -/
import Derived.Test.YtamfkofcpoglnaaFa5
import Derived.Test.YtamfkofcpoglnaaFa6
import Derived.Test.YtamfkofcpoglnaaLa6
set_option autoImplicit false
set_option linter.all false
set_option maxRecDepth 100000
set_option linter.unusedVariables false
namespace Go.Proofs.Ytamfkofcpoglnaa
open Go Go.Vc

section
variable {h0 h : H} {A : List Ent} {i j p r : Nat} {C : Cm}
theorem done_sp {Q : Int → H → Prop} (s : Stp) {mp : Option Addr} {ml mc : Nat} (hx : s.x.length = 32) (hs : Sat h0 A h) (ci : At A i (chipE p C)) (k : ∀ h', Sat h0 (put A i (chipE p (doneM C s).1)) h' → Q (doneM C s).2 h') :
    F_portcullislaw04_done ⟨p, 0, none⟩ s.kind s.a s.b s.x mp ml mc Q h := by
  unfold F_portcullislaw04_done G_portcullislaw04_done
  simp only [add_mk, Nat.zero_add, List.append_nil]
  intro n0 _ hn; replace hs := Sat.new hs hn; clear hn
  obtain ⟨kind, a, b, x, mask⟩ := s
  dsimp only at *
  unfold doneM at k
  dsimp only at k
  refine ⟨_, Sat.ld hs (by (repeat (first | exact At.z | apply At.s))) (by rfl), ?_⟩
  by_cases h2 : kind = 2
  · rw [if_pos (by simpa using h2)]
    rw [if_pos h2] at k
    refine ⟨_, Sat.ld hs (by (repeat (first | exact At.z | apply At.s))) (by rfl), ?_⟩
    refine ⟨_, Sat.ld hs (by (repeat (first | exact At.z | apply At.s))) (by rfl), ?_⟩
    refine ⟨_, hx, hs.row .z (row_x _ _ _ _ _ hx), ?_⟩
    refine Program_sp hs ci.s a b x hx ?_
    intro h' hs
    exact k _ hs.drop
  rw [if_neg (by simpa using h2)]
  rw [if_neg h2] at k
  by_cases h3 : kind = 3
  · rw [if_pos (by simpa using h3)]
    rw [if_pos h3] at k
    refine ⟨_, Sat.ld hs (by (repeat (first | exact At.z | apply At.s))) (by rfl), ?_⟩
    refine Erase_sp hs ci.s a ?_
    intro h' hs
    exact k _ hs.drop
  rw [if_neg (by simpa using h3)]
  rw [if_neg h3] at k
  refine ⟨_, Sat.ld hs (by (repeat (first | exact At.z | apply At.s))) (by rfl), ?_⟩
  refine Blow_sp hs ci.s a ?_
  intro h' hs
  exact k _ hs.drop
theorem mixed_sp {Q : Bool → H → Prop} {mp : Option Addr} {ml mc : Nat} {mask : List Int} (hf was wh : List Int) (l1 : hf.length = 32) (l2 : was.length = 32) (l3 : wh.length = 32) (hs : Sat h0 A h) (rd : hsv h0 mp 1 ml (ints .u8 mask)) (hml : mask.length < 2 ^ 62) (place : Nat) (hp : place < 2 ^ 61) {x : Int} (hx : x = place)
    (hc' : ∀ i (hi : i < 32), hf[i]'(by omega) = mixB (was[i]'(by omega)) (mk mask (place + i)) (wh[i]'(by omega))) (k : ∀ h', Sat h0 A h' → Q true h') : F_portcullislaw04_mixed hf was wh mp ml mc x Q h := by
  unfold F_portcullislaw04_mixed G_portcullislaw04_mixed
  subst hx
  simp only [add_mk, Nat.zero_add, List.append_nil]
  intro n1 _ hn; replace hs := Sat.new hs hn; clear hn
  intro n2 _ hn; replace hs := Sat.new hs hn; clear hn
  intro n3 _ hn; replace hs := Sat.new hs hn; clear hn
  have hl : mask.length = ml := by have := rd.1; simpa using this
  intro J hJ
  refine loop_up 32 (fun _ h => Sat h0 (blk n3 (ints .u8 wh) :: blk n2 (ints .u8 was) :: blk n1 (ints .u8 hf) :: A) h) ?_ ?_ 0 _ (by omega) hs
  · intro n h1 hn hs hk
    apply hJ
    rw [ltI_eq, if_pos (by simp; omega)]
    simp only [Int.toNat_natCast, Nat.mul_one]
    have c1 := hs.ld (i := 2) (o := n) (v := .int .u8 (hf[n]'(by omega))) (.s (.s .z)) (by rw [ints_get, List.getElem?_eq_getElem (by omega)]; rfl)
    have c2 := hs.ld (i := 1) (o := n) (v := .int .u8 (was[n]'(by omega))) (.s .z) (by rw [ints_get, List.getElem?_eq_getElem (by omega)]; rfl)
    have c3 := hs.ld (i := 0) (o := n) (v := .int .u8 (wh[n]'(by omega))) .z (by rw [ints_get, List.getElem?_eq_getElem (by omega)]; rfl)
    have hcn := hc' n hn
    unfold mixB mk at hcn
    by_cases h1 : mask = []
    · rw [if_pos h1] at hcn
      have : ml = 0 := by rw [← hl, h1]; rfl
      rw [ltI_eq, if_neg (by simp; omega)]
      refine ⟨by omega, by omega, _, c1, by omega, by omega, _, c2, by omega, by omega, _, c3, ?_⟩
      rw [if_neg (by simpa using hcn), wrap_succ (by omega)]
      exact hk _ hs
    · rw [if_neg h1] at hcn
      have hpos : 0 < mask.length := List.length_pos_iff.2 h1
      have hlt : (place + n) % mask.length < mask.length := Nat.mod_lt _ hpos
      rw [ltI_eq, if_pos (by simp; omega)]
      have ew : IntKind.i64.wrap ((place : Int) + (n : Int)) = ((place + n : Nat) : Int) := by rw [wrap_id (by omega)]; omega
      have et : ((place + n : Nat) : Int).tmod (ml : Int) = (((place + n) % mask.length : Nat) : Int) := by rw [Int.tmod_eq_emod_of_nonneg (by omega), hl]; omega
      rw [ew, et]
      have rd1 := hs.base rd
      obtain ⟨q, hq, g⟩ := hsv_get rd1 (i := (place + n) % mask.length) (v := .int .u8 mask[(place + n) % mask.length]) (by rw [ints_get, List.getElem?_eq_getElem hlt]; rfl)
      refine ⟨by omega, q, hq, by omega, by omega, _, by rw [Int.toNat_natCast]; exact g, by omega, by omega, _, c1, by omega, by omega, _, c2, by omega, by omega, _, c3, ?_⟩
      rw [List.getD_eq_getElem?_getD, List.getElem?_eq_getElem hlt] at hcn
      rw [if_neg (by simpa using hcn), wrap_succ (by omega)]
      exact hk _ hs
  · intro h1 hs
    apply hJ
    rw [ltI_eq, if_neg (by simp)]
    exact k _ hs.drop.drop.drop
theorem cellAt_el {row : List Int} {k i : Nat} (hk : (k + 1) * 32 ≤ row.length) (hi : i < 32) (h1 : i < (cellAt row k).length) : (cellAt row k)[i] = row[k * 32 + i]'(by omega) := by
  have := cellAt_get row k i hi
  rw [List.getElem?_eq_getElem h1, List.getElem?_eq_getElem (by omega)] at this
  exact Option.some.inj this

theorem ChipCuts_sp {a b c' : Sl} {Q : Bool → H → Prop} {mp : Option Addr} {ml mc : Nat} {xp : Option Addr} {xl xc : Nat} {mask : List Int} (c : Cfg) (s : St) (rd0 : RdS h0 a b c' s) (ty : s.typed) (sm : s.small) (t : Stp) (hx : t.x.length = 32)
    (rd : hsv h0 mp 1 ml (ints .u8 mask)) (mb : bytesOk mask) (mll : mask.length + 4096 ≤ 2 ^ 47) (k : ∀ h', Ext none_ h0 h' → Q true h') :
    F_portcullislaw04_ChipCuts c.cells c.slots c.fuses c.step c.keys c.erases c.area a.1 a.2.1 a.2.2 b.1 b.2.1 b.2.2 c'.1 c'.2.1 c'.2.2 t.kind t.a t.b t.x xp xl xc mp ml mc Q h0 := by
  unfold F_portcullislaw04_ChipCuts G_portcullislaw04_ChipCuts
  have hs := Sat.init h0
  simp only [add_mk, Nat.zero_add, List.append_nil]
  intro n1 _ hn; replace hs := Sat.new hs hn; clear hn
  intro n2 _ hn; replace hs := Sat.new hs hn; clear hn
  intro n3 _ hn; replace hs := Sat.new hs hn; clear hn
  have hml : mask.length = ml := by have := rd.1; simpa using this
  refine fixed_sp hs ?_
  intro h1 hs
  (repeat first | refine ⟨_, Sat.ld hs (by (repeat (first | exact At.z | apply At.s))) (by rfl), ?_⟩ | refine ⟨_, _, _, Sat.ld hs (by (repeat (first | exact At.z | apply At.s))) (by rfl), ?_⟩ | (intro _ _ hn; replace hs := Sat.new hs hn; clear hn) | refine ⟨Sat.cs hs (by (repeat (first | exact At.z | apply At.s))) (by rfl), ?_⟩ | (refine ⟨Sat.can hs (by (repeat (first | exact At.z | apply At.s))) (by simp), ?_⟩; intro _ e; replace hs := Sat.wr hs (by (repeat (first | exact At.z | apply At.s))) e; clear e; simp only [put, splice, List.set] at hs))
  refine Lay_sp (a := a) (b := b) (c' := c') (s := s) c hs (fun h' hs' => rd0.ext hs'.ex) ty ?_ ?_ ?_
  · intro nm h2 hs J hJ
    rw [if_neg (by simp), if_pos (by simp), if_pos (by simp)]
    have := k _ hs.ex
    simpa using this
  · intro m nl h2 hs J hJ
    rw [if_neg (by simp), if_pos (by simp), if_pos (by simp)]
    have := k _ hs.ex
    simpa using this
  intro m l px h2 hs J hJ
  rw [if_neg (by simp), if_neg (by simp), if_neg (by simp)]
  apply hJ
  have ok0 := layC_ok m l ty
  have hm := done_mixed (C := layC c s) (X0 := cutM (layC c s) 0 mask) (mask := mask) ok0 rfl rfl rfl rfl rfl rfl rfl t hx
  refine ⟨_, rfl, ?_⟩
  refine Copy_sp (i := 0) hs .z ?_
  intro py h3 hs
  rw [if_neg (by simp)]
  refine ⟨_, rfl, ?_⟩
  refine State_sp (i := 1) hs (.s .z) ?_
  intro a1 b1 c1 h4 hs
  replace hs : Sat h0 (matE 32 a1 s.pages :: sE b1 1 (ints .i64 s.erases) :: sE c1 1 (bools s.blown) :: chipE py (layC c s) :: chipE px (layC c s) :: blk n3 (.int .i64 t.kind :: .int .i64 t.a :: .int .i64 t.b :: (ints .u8 t.x ++ [.slice xp xl xc])) :: [blk n2 [a.v, b.v, c'.v], blk n1 [.int .i64 c.cells, .int .i64 c.slots, .int .i64 c.fuses, .int .i64 c.step, .int .i64 c.keys, .int .i64 c.erases, .int .i64 c.area]]) h4 := hs
  intro n4 _ hn; replace hs := Sat.new hs hn; clear hn
  (refine ⟨Sat.can hs (by (repeat (first | exact At.z | apply At.s))) (by simp), ?_⟩; intro _ e; replace hs := Sat.wr hs (by (repeat (first | exact At.z | apply At.s))) e; clear e; simp only [put, splice, List.set] at hs)
  refine ⟨_, rfl, ?_⟩
  refine Cut_sp (i := 5) hs (.s (.s (.s (.s (.s .z))))) 0 (by decide) (hs.base rd) mb (by omega) ?_
  intro h5 hs
  simp only [put] at hs
  refine ⟨_, Sat.ld hs (by (repeat (first | exact At.z | apply At.s))) (by rfl), ?_⟩
  refine ⟨_, Sat.ld hs (by (repeat (first | exact At.z | apply At.s))) (by rfl), ?_⟩
  refine ⟨_, Sat.ld hs (by (repeat (first | exact At.z | apply At.s))) (by rfl), ?_⟩
  refine ⟨_, hx, hs.row (i := 6) (.s (.s (.s (.s (.s (.s .z)))))) (row_x _ _ _ _ _ hx), ?_⟩
  refine ⟨_, _, _, hs.ld (i := 6) (.s (.s (.s (.s (.s (.s .z)))))) (get_x _ _ _ _ _ hx), ?_⟩
  refine ⟨_, rfl, ?_⟩
  refine done_sp t (i := 5) hx hs (.s (.s (.s (.s (.s .z))))) ?_
  intro h6 hs
  simp only [put] at hs
  refine ⟨_, Sat.ld hs (by (repeat (first | exact At.z | apply At.s))) (by rfl), ?_⟩
  refine ⟨_, Sat.ld hs (by (repeat (first | exact At.z | apply At.s))) (by rfl), ?_⟩
  refine ⟨_, Sat.ld hs (by (repeat (first | exact At.z | apply At.s))) (by rfl), ?_⟩
  refine ⟨_, hx, hs.row (i := 6) (.s (.s (.s (.s (.s (.s .z)))))) (row_x _ _ _ _ _ hx), ?_⟩
  refine ⟨_, _, _, hs.ld (i := 6) (.s (.s (.s (.s (.s (.s .z)))))) (get_x _ _ _ _ _ hx), ?_⟩
  refine ⟨_, rfl, ?_⟩
  refine done_sp t (i := 4) hx hs (.s (.s (.s (.s .z)))) ?_
  intro h7 hs
  simp only [put] at hs
  generalize hX : doneM (cutM (layC c s) 0 mask) t = X at *
  generalize hY : doneM (layC c s) t = Y at *
  have okX := chip_ok hs (i := 5) (.s (.s (.s (.s (.s .z)))))
  have okY := chip_ok hs (i := 4) (.s (.s (.s (.s .z))))
  intro J1 hJ1
  -- the common way
  have way : ∀ h', Sat h0 (blk n4 [a1.v, b1.v, c1.v] :: matE 32 a1 s.pages :: sE b1 1 (ints .i64 s.erases) :: sE c1 1 (bools s.blown) :: chipE py Y.1 :: chipE px X.1 :: blk n3 (.int .i64 t.kind :: .int .i64 t.a :: .int .i64 t.b :: (ints .u8 t.x ++ [.slice xp xl xc])) :: [blk n2 [a.v, b.v, c'.v], blk n1 [.int .i64 c.cells, .int .i64 c.slots, .int .i64 c.fuses, .int .i64 c.step, .int .i64 c.keys, .int .i64 c.erases, .int .i64 c.area]]) h' →
      J1 [] h' := by
    intro h8 hs
    apply hJ1
    refine ⟨_, rfl, ?_⟩
    refine State_sp (i := 5) hs (.s (.s (.s (.s (.s .z))))) ?_
    intro a2 b2 c2 h9 hs
    replace hs : Sat h0 (matE 32 a2 X.1.s.pages :: sE b2 1 (ints .i64 X.1.s.erases) :: sE c2 1 (bools X.1.s.blown) :: blk n4 [a1.v, b1.v, c1.v] :: matE 32 a1 s.pages :: sE b1 1 (ints .i64 s.erases) :: sE c1 1 (bools s.blown) :: chipE py Y.1 :: chipE px X.1 :: blk n3 (.int .i64 t.kind :: .int .i64 t.a :: .int .i64 t.b :: (ints .u8 t.x ++ [.slice xp xl xc])) :: [blk n2 [a.v, b.v, c'.v], blk n1 [.int .i64 c.cells, .int .i64 c.slots, .int .i64 c.fuses, .int .i64 c.step, .int .i64 c.keys, .int .i64 c.erases, .int .i64 c.area]]) h9 := hs
    intro n5 _ hn; replace hs := Sat.new hs hn; clear hn
    (refine ⟨Sat.can hs (by (repeat (first | exact At.z | apply At.s))) (by simp), ?_⟩; intro _ e; replace hs := Sat.wr hs (by (repeat (first | exact At.z | apply At.s))) e; clear e; simp only [put, splice, List.set] at hs)
    refine ⟨_, rfl, ?_⟩
    refine State_sp (i := 8) hs (.s (.s (.s (.s (.s (.s (.s (.s .z)))))))) ?_
    intro a3 b3 c3 h10 hs
    replace hs : Sat h0 (matE 32 a3 Y.1.s.pages :: sE b3 1 (ints .i64 Y.1.s.erases) :: sE c3 1 (bools Y.1.s.blown) :: blk n5 [a2.v, b2.v, c2.v] :: matE 32 a2 X.1.s.pages :: sE b2 1 (ints .i64 X.1.s.erases) :: sE c2 1 (bools X.1.s.blown) :: blk n4 [a1.v, b1.v, c1.v] :: matE 32 a1 s.pages :: sE b1 1 (ints .i64 s.erases) :: sE c1 1 (bools s.blown) :: chipE py Y.1 :: chipE px X.1 :: blk n3 (.int .i64 t.kind :: .int .i64 t.a :: .int .i64 t.b :: (ints .u8 t.x ++ [.slice xp xl xc])) :: [blk n2 [a.v, b.v, c'.v], blk n1 [.int .i64 c.cells, .int .i64 c.slots, .int .i64 c.fuses, .int .i64 c.step, .int .i64 c.keys, .int .i64 c.erases, .int .i64 c.area]]) h10 := hs
    intro n6 _ hn; replace hs := Sat.new hs hn; clear hn
    (refine ⟨Sat.can hs (by (repeat (first | exact At.z | apply At.s))) (by simp), ?_⟩; intro _ e; replace hs := Sat.wr hs (by (repeat (first | exact At.z | apply At.s))) e; clear e; simp only [put, splice, List.set] at hs)
    have rdX : ∀ h', Sat h0 _ h' → RdS h' a2 b2 c2 X.1.s := fun h' (hs' : Sat h0 (blk n6 [a3.v, b3.v, c3.v] :: matE 32 a3 Y.1.s.pages :: sE b3 1 (ints .i64 Y.1.s.erases) :: sE c3 1 (bools Y.1.s.blown) :: blk n5 [a2.v, b2.v, c2.v] :: matE 32 a2 X.1.s.pages :: sE b2 1 (ints .i64 X.1.s.erases) :: sE c2 1 (bools X.1.s.blown) :: blk n4 [a1.v, b1.v, c1.v] :: matE 32 a1 s.pages :: sE b1 1 (ints .i64 s.erases) :: sE c1 1 (bools s.blown) :: chipE py Y.1 :: chipE px X.1 :: blk n3 (.int .i64 t.kind :: .int .i64 t.a :: .int .i64 t.b :: (ints .u8 t.x ++ [.slice xp xl xc])) :: [blk n2 [a.v, b.v, c'.v], blk n1 [.int .i64 c.cells, .int .i64 c.slots, .int .i64 c.fuses, .int .i64 c.step, .int .i64 c.keys, .int .i64 c.erases, .int .i64 c.area]]) h') => sat_rdS hs' (i := 5) (j := 6) (k := 7) (by (repeat (first | exact At.z | apply At.s))) (by (repeat (first | exact At.z | apply At.s))) (by (repeat (first | exact At.z | apply At.s)))
    have rdY : ∀ h', Sat h0 _ h' → RdS h' a3 b3 c3 Y.1.s := fun h' (hs' : Sat h0 (blk n6 [a3.v, b3.v, c3.v] :: matE 32 a3 Y.1.s.pages :: sE b3 1 (ints .i64 Y.1.s.erases) :: sE c3 1 (bools Y.1.s.blown) :: blk n5 [a2.v, b2.v, c2.v] :: matE 32 a2 X.1.s.pages :: sE b2 1 (ints .i64 X.1.s.erases) :: sE c2 1 (bools X.1.s.blown) :: blk n4 [a1.v, b1.v, c1.v] :: matE 32 a1 s.pages :: sE b1 1 (ints .i64 s.erases) :: sE c1 1 (bools s.blown) :: chipE py Y.1 :: chipE px X.1 :: blk n3 (.int .i64 t.kind :: .int .i64 t.a :: .int .i64 t.b :: (ints .u8 t.x ++ [.slice xp xl xc])) :: [blk n2 [a.v, b.v, c'.v], blk n1 [.int .i64 c.cells, .int .i64 c.slots, .int .i64 c.fuses, .int .i64 c.step, .int .i64 c.keys, .int .i64 c.erases, .int .i64 c.area]]) h') => sat_rdS hs' (i := 1) (j := 2) (k := 3) (by (repeat (first | exact At.z | apply At.s))) (by (repeat (first | exact At.z | apply At.s))) (by (repeat (first | exact At.z | apply At.s)))
    have rdS : ∀ h', Sat h0 _ h' → RdS h' a1 b1 c1 s := fun h' (hs' : Sat h0 (blk n6 [a3.v, b3.v, c3.v] :: matE 32 a3 Y.1.s.pages :: sE b3 1 (ints .i64 Y.1.s.erases) :: sE c3 1 (bools Y.1.s.blown) :: blk n5 [a2.v, b2.v, c2.v] :: matE 32 a2 X.1.s.pages :: sE b2 1 (ints .i64 X.1.s.erases) :: sE c2 1 (bools X.1.s.blown) :: blk n4 [a1.v, b1.v, c1.v] :: matE 32 a1 s.pages :: sE b1 1 (ints .i64 s.erases) :: sE c1 1 (bools s.blown) :: chipE py Y.1 :: chipE px X.1 :: blk n3 (.int .i64 t.kind :: .int .i64 t.a :: .int .i64 t.b :: (ints .u8 t.x ++ [.slice xp xl xc])) :: [blk n2 [a.v, b.v, c'.v], blk n1 [.int .i64 c.cells, .int .i64 c.slots, .int .i64 c.fuses, .int .i64 c.step, .int .i64 c.keys, .int .i64 c.erases, .int .i64 c.area]]) h') => sat_rdS hs' (i := 9) (j := 10) (k := 11) (by (repeat (first | exact At.z | apply At.s))) (by (repeat (first | exact At.z | apply At.s))) (by (repeat (first | exact At.z | apply At.s)))
    rcases hm with ⟨q1, q2, q3, q7⟩ | ⟨q1, q2, q3, M⟩
    · rw [if_pos (by simpa using q3)]
      refine ⟨_, _, _, Sat.ld hs (by (repeat (first | exact At.z | apply At.s))) (by rfl), ?_⟩
      refine ⟨_, _, _, Sat.ld hs (by (repeat (first | exact At.z | apply At.s))) (by rfl), ?_⟩
      refine ⟨_, _, _, Sat.ld hs (by (repeat (first | exact At.z | apply At.s))) (by rfl), ?_⟩
      refine ⟨_, _, _, Sat.ld hs (by (repeat (first | exact At.z | apply At.s))) (by rfl), ?_⟩
      refine ⟨_, _, _, Sat.ld hs (by (repeat (first | exact At.z | apply At.s))) (by rfl), ?_⟩
      refine ⟨_, _, _, Sat.ld hs (by (repeat (first | exact At.z | apply At.s))) (by rfl), ?_⟩
      obtain ⟨z1, z2, z3, z4⟩ := small_lt sm
      refine SameState_sp (a := a2) (b := b2) (c := c2) (a2 := a1) (b2 := b1) (c2 := c1) (s := s) hs (fun h' hs' => by have := rdX h' hs'; rw [q7] at this; exact this) rdS z1 z2 z3 z4 ?_
      intro h11 hs
      rw [if_pos (by simp)]
      refine ⟨_, rfl, ?_⟩
      refine Acts_sp hs (i := 13) (by (repeat (first | exact At.z | apply At.s))) ?_
      rw [q7]
      have := k _ hs.ex
      simpa [cutM, layC] using this
    · rw [if_neg (by simpa using q1)]
      clear hJ1 J1
      replace M : Mixed t.kind mask s X.1.s Y.1.s := M
      intro J2 hJ2
      have rX := rdX _ hs
      have rY := rdY _ hs
      have rS := rdS _ hs
      have lx1 := rX.pg.len; have ly1 := rY.pg.len; have ls1 := rS.pg.len
      have lx2 : X.1.s.erases.length = b2.2.1 := by have := rX.er.1; simpa using this
      have ly2 : Y.1.s.erases.length = b3.2.1 := by have := rY.er.1; simpa using this
      have ls2 : s.erases.length = b1.2.1 := by have := rS.er.1; simpa using this
      have lx3 : X.1.s.blown.length = c2.2.1 := by have := rX.bl.1; simpa using this
      have ly3 : Y.1.s.blown.length = c3.2.1 := by have := rY.bl.1; simpa using this
      have ls3 : s.blown.length = c1.2.1 := by have := rS.bl.1; simpa using this
      have M1 := M.np; have M2 := M.np2; have M3 := M.ne; have M4 := M.nb; have M5 := M.nb2
      have M6 : Y.1.s.erases.length = X.1.s.erases.length := by rw [M.er]
      have okf := okX.fits
      have okp := okf.pages
      have oke := okf.erases
      obtain ⟨z1, z2, z3, z4⟩ := small_lt sm
      refine ⟨_, _, _, Sat.ld hs (by (repeat (first | exact At.z | apply At.s))) (by rfl), ?_⟩
      refine ⟨_, _, _, Sat.ld hs (by (repeat (first | exact At.z | apply At.s))) (by rfl), ?_⟩
      rw [if_neg (by simp; omega)]
      refine ⟨_, _, _, Sat.ld hs (by (repeat (first | exact At.z | apply At.s))) (by rfl), ?_⟩
      refine ⟨_, _, _, Sat.ld hs (by (repeat (first | exact At.z | apply At.s))) (by rfl), ?_⟩
      rw [if_neg (by simp; omega)]
      refine ⟨_, _, _, Sat.ld hs (by (repeat (first | exact At.z | apply At.s))) (by rfl), ?_⟩
      refine ⟨_, _, _, Sat.ld hs (by (repeat (first | exact At.z | apply At.s))) (by rfl), ?_⟩
      rw [if_neg (by simp; omega)]
      apply hJ2
      intro J3 hJ3
      refine loop_up a2.2.1 (fun _ h => Sat h0 (blk n6 [a3.v, b3.v, c3.v] :: matE 32 a3 Y.1.s.pages :: sE b3 1 (ints .i64 Y.1.s.erases) :: sE c3 1 (bools Y.1.s.blown) :: blk n5 [a2.v, b2.v, c2.v] :: matE 32 a2 X.1.s.pages :: sE b2 1 (ints .i64 X.1.s.erases) :: sE c2 1 (bools X.1.s.blown) :: blk n4 [a1.v, b1.v, c1.v] :: matE 32 a1 s.pages :: sE b1 1 (ints .i64 s.erases) :: sE c1 1 (bools s.blown) :: chipE py Y.1 :: chipE px X.1 :: blk n3 (.int .i64 t.kind :: .int .i64 t.a :: .int .i64 t.b :: (ints .u8 t.x ++ [.slice xp xl xc])) :: [blk n2 [a.v, b.v, c'.v], blk n1 [.int .i64 c.cells, .int .i64 c.slots, .int .i64 c.fuses, .int .i64 c.step, .int .i64 c.keys, .int .i64 c.erases, .int .i64 c.area]]) h) ?_ ?_ 0 _ (by omega) hs
      · intro n h11 hn hs hk
        apply hJ3
        refine ⟨_, _, _, Sat.ld hs (by (repeat (first | exact At.z | apply At.s))) (by rfl), ?_⟩
        rw [ltI_eq, if_pos (by simp; omega)]
        intro J4 hJ4
        have rX := rdX _ hs
        have rY := rdY _ hs
        have rS := rdS _ hs
        have ix : n < X.1.s.pages.length := by omega
        have iy : n < Y.1.s.pages.length := by omega
        have is : n < s.pages.length := by omega
        have ex : n < X.1.s.erases.length := by omega
        have ey : n < Y.1.s.erases.length := by omega
        obtain ⟨u1, u2, u3⟩ := hsv_get rX.er (i := n) (v := .int .i64 X.1.s.erases[n]) (by rw [ints_get, List.getElem?_eq_getElem ex]; rfl)
        obtain ⟨v1, v2, v3⟩ := hsv_get rY.er (i := n) (v := .int .i64 Y.1.s.erases[n]) (by rw [ints_get, List.getElem?_eq_getElem ey]; rfl)
        obtain ⟨f1, f2, f3, f4, f5⟩ := rdm_row rX.pg ix
        obtain ⟨g1, g2, g3, g4, g5⟩ := rdm_row rS.pg is
        obtain ⟨w1, w2, w3⟩ := M.nr n is ix iy
        have hxl := z4 _ (List.getElem_mem is)
        refine ⟨_, _, _, Sat.ld hs (by (repeat (first | exact At.z | apply At.s))) (by rfl), ?_⟩
        refine ⟨_, u2, by omega, by omega, _, by simpa using u3, ?_⟩
        refine ⟨_, _, _, Sat.ld hs (by (repeat (first | exact At.z | apply At.s))) (by rfl), ?_⟩
        refine ⟨_, v2, by omega, by omega, _, by simpa using v3, ?_⟩
        have eer : X.1.s.erases[n] = Y.1.s.erases[n] := by
          have := M.er
          simp only [this]
        rw [if_neg (by simpa using eer)]
        refine ⟨_, _, _, Sat.ld hs (by (repeat (first | exact At.z | apply At.s))) (by rfl), ?_⟩
        refine ⟨_, f3, by omega, by omega, _, _, _, f4, ?_⟩
        refine ⟨_, _, _, Sat.ld hs (by (repeat (first | exact At.z | apply At.s))) (by rfl), ?_⟩
        refine ⟨_, g3, by omega, by omega, _, _, _, g4, ?_⟩
        rw [if_neg (by simp; omega)]
        apply hJ4
        intro J5 hJ5
        refine loop_up f2.2.1 (fun _ h => Sat h0 (blk n6 [a3.v, b3.v, c3.v] :: matE 32 a3 Y.1.s.pages :: sE b3 1 (ints .i64 Y.1.s.erases) :: sE c3 1 (bools Y.1.s.blown) :: blk n5 [a2.v, b2.v, c2.v] :: matE 32 a2 X.1.s.pages :: sE b2 1 (ints .i64 X.1.s.erases) :: sE c2 1 (bools X.1.s.blown) :: blk n4 [a1.v, b1.v, c1.v] :: matE 32 a1 s.pages :: sE b1 1 (ints .i64 s.erases) :: sE c1 1 (bools s.blown) :: chipE py Y.1 :: chipE px X.1 :: blk n3 (.int .i64 t.kind :: .int .i64 t.a :: .int .i64 t.b :: (ints .u8 t.x ++ [.slice xp xl xc])) :: [blk n2 [a.v, b.v, c'.v], blk n1 [.int .i64 c.cells, .int .i64 c.slots, .int .i64 c.fuses, .int .i64 c.step, .int .i64 c.keys, .int .i64 c.erases, .int .i64 c.area]]) h) ?_ ?_ 0 _ (by omega) hs
        · intro m h12 hm hs hk2
          apply hJ5
          have rX := rdX _ hs
          have rY := rdY _ hs
          have rS := rdS _ hs
          have km : (m + 1) * 32 ≤ X.1.s.pages[n].length := by omega
          have kmy : (m + 1) * 32 ≤ Y.1.s.pages[n].length := by omega
          have kms : (m + 1) * 32 ≤ s.pages[n].length := by omega
          obtain ⟨a11, a12, a13, a14, a15, a16, a17, a18⟩ := rX.pg.cell ix km
          obtain ⟨b11, b12, b13, b14, b15, b16, b17, b18⟩ := rS.pg.cell is kms
          obtain ⟨d11, d12, d13, d14, d15, d16, d17, d18⟩ := rY.pg.cell iy kmy
          refine ⟨_, _, _, Sat.ld hs (by (repeat (first | exact At.z | apply At.s))) (by rfl), ?_⟩
          refine ⟨_, a14, by omega, by omega, _, _, _, a15, ?_⟩
          rw [ltI_eq, if_pos (by simp; omega)]
          intro J6 hJ6
          have main : ∀ (pl : Int), pl = ((plc t.kind m : Nat) : Int) → J6 [SV.dv (DV.one (.int .i64 pl))] h12 := by
            intro pl hpl
            apply hJ6
            refine ⟨_, _, _, Sat.ld hs (by (repeat (first | exact At.z | apply At.s))) (by rfl), ?_⟩
            refine ⟨_, a14, by omega, by omega, _, _, _, a15, ?_⟩
            refine ⟨_, a17, by omega, by omega, _, cellAt_length km, by simpa using a18, ?_⟩
            refine ⟨_, _, _, Sat.ld hs (by (repeat (first | exact At.z | apply At.s))) (by rfl), ?_⟩
            refine ⟨_, b14, by omega, by omega, _, _, _, b15, ?_⟩
            refine ⟨_, b17, by omega, by omega, _, cellAt_length kms, by simpa using b18, ?_⟩
            refine ⟨_, _, _, Sat.ld hs (by (repeat (first | exact At.z | apply At.s))) (by rfl), ?_⟩
            refine ⟨_, d14, by omega, by omega, _, _, _, d15, ?_⟩
            refine ⟨_, d17, by omega, by omega, _, cellAt_length kmy, by simpa using d18, ?_⟩
            have hpb : plc t.kind m < 2 ^ 61 := by
              unfold plc; split
              · have := okX.may.cells
                have := okf.cells _ (List.getElem_mem ix)
                omega
              · omega
            refine mixed_sp (mask := mask) _ _ _ (cellAt_length km) (cellAt_length kms) (cellAt_length kmy) hs rd (by omega) (plc t.kind m) hpb hpl ?_ ?_
            · intro q hq
              rw [cellAt_el km hq, cellAt_el kms hq, cellAt_el kmy hq]
              exact w3 m q hq _ _ _
            · intro h13 hs
              rw [if_neg (by simp), wrap_succ (by omega)]
              exact hk2 _ hs
          refine ⟨_, Sat.ld hs (by (repeat (first | exact At.z | apply At.s))) (by rfl), ?_⟩
          split
          · rename_i h3
            have h3 : t.kind = 3 := by simpa using h3
            refine main _ ?_
            unfold plc
            rw [if_pos h3, wrap_id (by have := okf.cells _ (List.getElem_mem ix); have := okX.may.cells; omega)]
            omega
          · rename_i h3
            have h3 : ¬ t.kind = 3 := by simpa using h3
            refine main _ ?_
            unfold plc
            rw [if_neg h3]; rfl
        · intro h12 hs
          apply hJ5
          have rX := rdX _ hs
          obtain ⟨e11, e12, e13, e14, e15⟩ := rdm_row rX.pg ix
          refine ⟨_, _, _, Sat.ld hs (by (repeat (first | exact At.z | apply At.s))) (by rfl), ?_⟩
          refine ⟨_, e13, by omega, by omega, _, _, _, e14, ?_⟩
          rw [ltI_eq, if_neg (by simp; omega), wrap_succ (by omega)]
          exact hk _ hs
      · intro h11 hs
        apply hJ3
        refine ⟨_, _, _, Sat.ld hs (by (repeat (first | exact At.z | apply At.s))) (by rfl), ?_⟩
        rw [ltI_eq, if_neg (by simp)]
        intro J7 hJ7
        refine loop_up c2.2.1 (fun _ h => Sat h0 (blk n6 [a3.v, b3.v, c3.v] :: matE 32 a3 Y.1.s.pages :: sE b3 1 (ints .i64 Y.1.s.erases) :: sE c3 1 (bools Y.1.s.blown) :: blk n5 [a2.v, b2.v, c2.v] :: matE 32 a2 X.1.s.pages :: sE b2 1 (ints .i64 X.1.s.erases) :: sE c2 1 (bools X.1.s.blown) :: blk n4 [a1.v, b1.v, c1.v] :: matE 32 a1 s.pages :: sE b1 1 (ints .i64 s.erases) :: sE c1 1 (bools s.blown) :: chipE py Y.1 :: chipE px X.1 :: blk n3 (.int .i64 t.kind :: .int .i64 t.a :: .int .i64 t.b :: (ints .u8 t.x ++ [.slice xp xl xc])) :: [blk n2 [a.v, b.v, c'.v], blk n1 [.int .i64 c.cells, .int .i64 c.slots, .int .i64 c.fuses, .int .i64 c.step, .int .i64 c.keys, .int .i64 c.erases, .int .i64 c.area]]) h) ?_ ?_ 0 _ (by omega) hs
        · intro n h12 hn hs hk
          apply hJ7
          have rX := rdX _ hs
          have rY := rdY _ hs
          have rS := rdS _ hs
          have ix : n < X.1.s.blown.length := by omega
          have iy : n < Y.1.s.blown.length := by omega
          have is : n < s.blown.length := by omega
          obtain ⟨u1, u2, u3⟩ := hsv_get rX.bl (i := n) (v := .bool X.1.s.blown[n]) (by rw [bools_get, List.getElem?_eq_getElem ix]; rfl)
          obtain ⟨v1, v2, v3⟩ := hsv_get rY.bl (i := n) (v := .bool Y.1.s.blown[n]) (by rw [bools_get, List.getElem?_eq_getElem iy]; rfl)
          obtain ⟨w1, w2, w3⟩ := hsv_get rS.bl (i := n) (v := .bool s.blown[n]) (by rw [bools_get, List.getElem?_eq_getElem is]; rfl)
          have mb := M.bl n is ix iy
          refine ⟨_, _, _, Sat.ld hs (by (repeat (first | exact At.z | apply At.s))) (by rfl), ?_⟩
          rw [ltI_eq, if_pos (by simp; omega)]
          refine ⟨_, _, _, Sat.ld hs (by (repeat (first | exact At.z | apply At.s))) (by rfl), ?_⟩
          refine ⟨_, w2, by omega, by omega, _, by simpa using w3, ?_⟩
          intro J8 hJ8
          have main : J8 [SV.dv (DV.one (.bool (if bits .and .u8 (mk mask 0) 1 = 1 then Y.1.s.blown[n] else s.blown[n])))] h12 := by
            apply hJ8
            refine ⟨_, _, _, Sat.ld hs (by (repeat (first | exact At.z | apply At.s))) (by rfl), ?_⟩
            refine ⟨_, u2, by omega, by omega, _, by simpa using u3, ?_⟩
            rw [mb, if_neg (by simp), wrap_succ (by omega)]
            exact hk _ hs
          by_cases hm : mask = []
          · have : ml = 0 := by rw [← hml, hm]; rfl
            rw [ltI_eq, if_neg (by simp; omega)]
            rw [if_neg (by unfold mk; rw [if_pos hm]; decide)] at main
            exact main
          · have hpos : 0 < mask.length := List.length_pos_iff.2 hm
            rw [ltI_eq, if_pos (by simp; omega)]
            have rd1 := hs.base rd
            obtain ⟨x1, x2, x3⟩ := hsv_get rd1 (i := 0) (v := .int .u8 mask[0]) (by rw [ints_get, List.getElem?_eq_getElem hpos]; rfl)
            have em : mk mask 0 = mask[0] := by unfold mk; rw [if_neg hm, Nat.zero_mod]; simp [List.getD, List.getElem?_eq_getElem hpos]
            rw [em] at main
            refine ⟨_, x2, by omega, by omega, _, by simpa [Addr.add] using x3, ?_⟩
            split
            · rename_i h5
              rw [if_pos (by simpa using h5)] at main
              refine ⟨_, _, _, Sat.ld hs (by (repeat (first | exact At.z | apply At.s))) (by rfl), ?_⟩
              exact ⟨_, v2, by omega, by omega, _, by simpa using v3, main⟩
            · rename_i h5
              rw [if_neg (by simpa using h5)] at main
              exact main
        · intro h12 hs
          apply hJ7
          refine ⟨_, _, _, Sat.ld hs (by (repeat (first | exact At.z | apply At.s))) (by rfl), ?_⟩
          rw [ltI_eq, if_neg (by simp)]
          exact k _ hs.ex
  rcases hm with ⟨q1, q2, q3, q7⟩ | ⟨q1, q2, q3, M⟩
  · rw [if_neg (by simpa using q1), if_neg (by simpa using q2)]
    refine ⟨_, rfl, ?_⟩
    refine Out_sp hs (i := 5) (.s (.s (.s (.s (.s .z))))) ?_
    rw [q7]
    rw [if_neg (by simpa [cutM, layC] using q3)]
    exact way _ hs
  · rw [q1, q2, if_pos (by simp), if_neg (by simp), if_neg (by simp), if_neg (by simp)]
    refine ⟨_, rfl, ?_⟩
    refine Out_sp hs (i := 5) (.s (.s (.s (.s (.s .z))))) ?_
    rw [q3, if_neg (by simp)]
    exact way _ hs
end
end Go.Proofs.Ytamfkofcpoglnaa
