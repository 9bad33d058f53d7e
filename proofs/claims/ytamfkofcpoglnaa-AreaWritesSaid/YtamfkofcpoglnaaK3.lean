/- AreaWrites: what is proved and its parts, laid together by a program of ours: Ar6 Ar7 Ar8 Ar9 Ar10 Ar11 Ar12 RwAreaWrites -/
import Derived.Test.YtamfkofcpoglnaaK2
set_option autoImplicit false
set_option linter.all false
/- Contracts of the areas' statements: bytes that are no image; calls whose answers are fixed. Own work. -/
section
set_option maxRecDepth 100000
set_option linter.unusedVariables false
namespace Go.Proofs.Ytamfkofcpoglnaa
open Go Go.Vc

section
variable {h0 h : H} {A : List Ent} {i j p r b : Nat} {C : Cm}
/-- Bytes that begin otherwise are no image. -/
theorem Parse_bad {Q : Int → Int → Int → Option Addr → Nat → Nat → List Int → Value → H → Prop} {q : Option Addr} {l c : Nat} {bs : List Int} (hs : Sat h0 A h) (rd : ∀ h', Sat h0 A h' → hsv h' q 1 l (ints .u8 bs)) (hl0 : 0 < l) (hl : l ≤ 524288) (hb : bs.getD 0 0 ≠ 80)
    (k : ∀ i1 i2 i3 o n m (x : List Int) v h', x.length = 32 → isIfc v = true → isNilI v = false → Sat h0 A h' → Q i1 i2 i3 o n m x v h') : F_image_Parse q l c Q h := by
  unfold F_image_Parse G_image_Parse
  simp only [add_mk, Nat.zero_add, List.append_nil]
  intro n7 _ hn; replace hs := Sat.new hs hn; clear hn
  rw [ltI_eq, if_neg (by simp; omega)]
  intro J hJ
  apply hJ
  rw [ltI_eq, if_pos (by simp), if_neg (by rw [beq_iff_eq]; omega)]
  obtain ⟨q', hq, g⟩ := hsv_int (rd _ hs.drop) hl0
  refine ⟨_, hq, by omega, by omega, _, by simpa using g, ?_⟩
  unfold F_image_may G_image_may
  rw [ltI_eq, if_pos (by simp)]
  refine ⟨by decide, by decide, ?_⟩
  have e80 : (((ByteArray.mk #[80, 67, 85, 76]).data.toList.getD (0 : Int).toNat 0).toNat : Int) = 80 := by decide
  rw [e80]
  dsimp only
  rw [if_pos (by simpa using hb)]
  intro n41 _ hn; replace hs := Sat.new hs hn; clear hn
  (refine ⟨Sat.can hs (by (repeat (first | exact At.z | apply At.s))) (by simp), ?_⟩; intro _ e; replace hs := Sat.wra hs (by (repeat (first | exact At.z | apply At.s))) e (by simp [*]); clear e; simp only [put] at hs)
  refine ⟨_, Sat.ld hs (by (repeat (first | exact At.z | apply At.s))) (by rfl), ?_⟩
  refine ⟨_, Sat.ld hs (by (repeat (first | exact At.z | apply At.s))) (by rfl), ?_⟩
  refine ⟨_, Sat.ld hs (by (repeat (first | exact At.z | apply At.s))) (by rfl), ?_⟩
  refine ⟨_, _, _, Sat.ld hs (by (repeat (first | exact At.z | apply At.s))) (by rfl), ?_⟩
  refine ⟨zeros 32, rfl, Sat.row hs (i := 1) (.s .z) (o := 4) (by
    intro x hx
    rw [show 4 + x = x + 1 + 1 + 1 + 1 by omega]
    simp only [List.getElem?_cons_succ, ints_get]), ?_⟩
  exact k _ _ _ _ _ _ _ _ _ rfl rfl rfl hs.drop.drop
abbrev fix14C : Cm := freshC ⟨4, 1, 1, 1, 1, 1, 1⟩
abbrev fix14D : Cm := (writeM fix14C 0 (zeros 33)).1
theorem fix14_w : (writeM fix14C 0 (zeros 33)).2 = 0 := by decide +kernel
theorem fix14_o : fix14D.out = false := by decide +kernel
theorem eraseL_cfg (base : Int) : ∀ (m j : Nat) (C : Cm), (eraseL base m j C).1.cfg = C.cfg := by
  intro m
  induction m with
  | zero => intro j C; rfl
  | succ m ih =>
    intro j C
    unfold eraseL
    split
    · split
      · exact erase_cfg C _
      · rw [ih]; exact erase_cfg C _
    · exact ih _ _
theorem progL_cfg (base : Int) (cells : Nat) (bs : List Int) (n : Nat) : ∀ (m k : Nat) (C : Cm), (progL base cells bs n m k C).1.cfg = C.cfg := by
  intro m
  induction m with
  | zero => intro j C; rfl
  | succ m ih =>
    intro j C
    unfold progL
    split
    · exact program_cfg C _ _ _
    · rw [ih]; exact program_cfg C _ _ _
theorem write_cfg (C : Cm) (ar : Int) (bs : List Int) : (writeM C ar bs).1.cfg = C.cfg := by
  unfold writeM
  split
  · rfl
  · split
    · rfl
    · split
      · rfl
      · split
        · rfl
        · split
          · exact eraseL_cfg _ _ _ _
          · rw [progL_cfg, eraseL_cfg]
theorem fix14_c : fix14D.cfg = ⟨4, 1, 1, 1, 1, 1, 1⟩ := write_cfg _ _ _
theorem fix14_b : (areaB fix14D 0 2).getD 0 0 = 0 ∧ (areaB fix14D 0 2).getD 12 0 = 0 ∧ (areaB fix14D 0 2).getD 13 0 = 0 ∧ (areaB fix14D 0 2).getD 14 0 = 0 ∧ (areaB fix14D 0 2).getD 15 0 = 0 := by decide +kernel
theorem fix14_r : (readM fix14D 2 1).2 = 0 ∧ (readM fix14D 2 1).1.getD 0 0 = 0 ∧ (readM fix14D 2 1).1.getD 1 0 = 255 := by decide +kernel
theorem fix14_a : fix14D.acts = 2 := by decide +kernel
theorem small14_sp {Q : Int → Int → Int → Int → Int → Int → Int → H → Prop} (hs : Sat h0 A h) (k : ∀ h', Sat h0 A h' → Q 4 1 1 1 1 1 1 h') : F_portcullislaw14_small Q h := by
  unfold F_portcullislaw14_small G_portcullislaw14_small
  simp only [add_mk, Nat.zero_add]
  intro n1 _ hn; replace hs := Sat.new hs hn; clear hn
  (refine ⟨Sat.can hs (by (repeat (first | exact At.z | apply At.s))) (by simp), ?_⟩; intro _ e; replace hs := Sat.wr hs (by (repeat (first | exact At.z | apply At.s))) e; clear e; simp only [put, splice, List.set] at hs)
  refine ⟨_, Sat.ld hs (by (repeat (first | exact At.z | apply At.s))) (by rfl), ?_⟩
  refine ⟨_, Sat.ld hs (by (repeat (first | exact At.z | apply At.s))) (by rfl), ?_⟩
  refine ⟨_, Sat.ld hs (by (repeat (first | exact At.z | apply At.s))) (by rfl), ?_⟩
  refine ⟨_, Sat.ld hs (by (repeat (first | exact At.z | apply At.s))) (by rfl), ?_⟩
  refine ⟨_, Sat.ld hs (by (repeat (first | exact At.z | apply At.s))) (by rfl), ?_⟩
  refine ⟨_, Sat.ld hs (by (repeat (first | exact At.z | apply At.s))) (by rfl), ?_⟩
  refine ⟨_, Sat.ld hs (by (repeat (first | exact At.z | apply At.s))) (by rfl), ?_⟩
  exact k _ hs.drop
/-- The first bytes of an owned slice. -/
theorem sub_sv (hs : Sat h0 A h) {q : Option Addr} {l c n : Nat} {bs : List Int} (m : At A i (slE q l c 1 (ints .u8 bs))) (hn : n ≤ l) (hn0 : 0 < n) : ∃ q', subAddr q 0 n 1 = some q' ∧ hsv h (some q') 1 n (ints .u8 (bs.take n)) := by
  have sv := hs.sv m
  have hbl : bs.length = l := by have := sv.1; simpa using this
  obtain ⟨q', hq⟩ := hs.sl_some m (by omega)
  subst hq
  refine ⟨⟨q', 0, none⟩, ?_, ?_⟩
  · unfold subAddr
    rw [if_neg (by omega)]
    simp
  · obtain ⟨_, _, e3⟩ := sv
    rcases e3 with e3 | ⟨q2, hq2, g⟩
    · have e4 := congrArg List.length e3
      rw [ints_length, List.length_nil] at e4; omega
    · injection hq2 with hq2
      subst hq2
      refine ⟨by simp; omega, ints_one _ _, Or.inr ⟨_, rfl, ?_⟩⟩
      intro x v hv
      refine g x v ?_
      rw [ints_get] at hv ⊢
      rw [List.getElem?_take] at hv
      split at hv
      · exact hv
      · simp at hv
theorem fixed14_sp {Q : Bool → H → Prop} (hs : Sat h0 A h) (k : ∀ h', Sat h0 A h' → Q true h') : F_portcullislaw14_fixed Q h := by
  unfold F_portcullislaw14_fixed G_portcullislaw14_fixed
  simp only [add_mk, Nat.zero_add, List.append_nil]
  refine small14_sp hs ?_
  intro h1 hs
  refine New_sp ⟨4, 1, 1, 1, 1, 1, 1⟩ hs (fun nm => absurd (show Cfg.may ⟨4, 1, 1, 1, 1, 1, 1⟩ by decide) nm) ?_
  intro _ p h2 hs
  intro J hJ
  rw [if_neg (by simp), if_neg (by simp)]
  apply hJ
  refine ⟨by decide, by decide, by decide, by decide, ?_⟩
  intro n22 _ hn; replace hs := Sat.new hs hn; clear hn
  replace hs : Sat h0 (blk n22 (ints .u8 (zeros 33)) :: chipE p fix14C :: A) _ := hs
  refine ⟨_, rfl, ?_⟩
  refine aWrite_sp (bs := zeros 33) hs (.s .z) 0 (fun D h' hs' => Sat.bv (i := 0) hs' .z rfl (ints_one _ _)) (by decide) (by decide) ?_
  intro h3 hs
  replace hs : Sat h0 (blk n22 (ints .u8 (zeros 33)) :: chipE p fix14D :: A) h3 := hs
  rw [fix14_w]
  have ho := fix14_o
  have hcf := fix14_c
  have hb := fix14_b
  have hr := fix14_r
  have ha := fix14_a
  have hask : askedM fix14D 0 2 = 0 := askedM_in ho (by decide) (by decide)
  generalize fix14D = D at *
  refine ⟨_, rfl, ?_⟩
  have rest : ∀ h4, Sat h0 (chipE p D :: A) h4 → (∃ p34, (some ⟨p, 0, none⟩ : Option Addr) = some p34 ∧ F_chip_Chip_Read p34 2 1 (fun l35 i36 h37 => ∀ (n38 : Nat) (h39 : H), hnew h37 n38 (ints .u8 (zeros 32)) h39 → hcan h39 ⟨n38, 0, none⟩ 32 ∧ ∀ h41, h41 = hwr h39 ⟨n38, 0, none⟩ (ints .u8 l35) →
      F_portcullislaw14_small (fun i43 i44 i45 i46 i47 i48 i49 h50 => F_area_Size i43 i44 i45 i46 i47 i48 i49 (fun i51 h52 => if (i51 == 128) = true then if ((0 : Int) == 0) = true then if ((5 : Int) == 5) = true then if (i36 == 0) = true then (0 : Int) ≤ 0 ∧ (0 : Int) < ((32 : Nat) : Int) ∧ ∃ i53, hc h52 ⟨n38, 0, none⟩ = some (.int .u8 i53) ∧
        if (i53 == 0) = true then (0 : Int) ≤ 1 ∧ (1 : Int) < ((32 : Nat) : Int) ∧ ∃ i54, hc h52 ⟨n38, 1, none⟩ = some (.int .u8 i54) ∧ if (i54 == 255) = true then ∃ p55, (some ⟨p, 0, none⟩ : Option Addr) = some p55 ∧ F_chip_Chip_Acts p55 (fun i56 h57 => Q (i56 == 2) h57) h52 else Q false h52 else Q false h52 else Q false h52 else Q false h52 else Q false h52 else Q false h52) h50) h41) h4) := by
    intro h4 hs
    refine ⟨_, rfl, ?_⟩
    have hl := readM_len (chip_ok hs .z) 2 1
    refine Read_sp hs .z 2 1 ?_
    intro h5 hs
    intro n38 _ hn; replace hs := Sat.new hs hn; clear hn
    generalize readM D 2 1 = X at *
    refine ⟨Sat.can hs (by (repeat (first | exact At.z | apply At.s))) (by simp), ?_⟩
    intro _ e; replace hs := Sat.wra hs (by (repeat (first | exact At.z | apply At.s))) e (by rw [ints_length, ints_length, hl]; rfl); clear e; simp only [put] at hs
    refine small14_sp hs ?_
    intro h6 hs
    refine aSize_sp ⟨4, 1, 1, 1, 1, 1, 1⟩ hs ?_
    intro h7 hs
    have es : sizeM ⟨4, 1, 1, 1, 1, 1, 1⟩ = 128 := by decide
    rw [es, if_pos (by decide), if_pos (by decide), if_pos (by decide), hr.1, if_pos (by decide)]
    have gx : ∀ x, x < 32 → (ints .u8 X.1)[x]? = some (.int .u8 (X.1.getD x 0)) := by
      intro x hx
      rw [ints_get, List.getElem?_eq_getElem (by omega)]; simp [List.getD, List.getElem?_eq_getElem (show x < X.1.length by omega)]
    refine ⟨by decide, by decide, _, hs.ld .z (gx 0 (by decide)), ?_⟩
    rw [hr.2.1, if_pos (by decide)]
    refine ⟨by decide, by decide, _, hs.ld .z (gx 1 (by decide)), ?_⟩
    rw [hr.2.2, if_pos (by decide)]
    refine ⟨_, rfl, ?_⟩
    refine Acts_sp hs (i := 1) (.s .z) ?_
    rw [ha]
    exact k _ hs.drop.drop
  unfold F_area_Read G_area_Read
  simp only [add_mk, Nat.zero_add, List.append_nil]
  refine aasked_sp hs (.s .z) 0 ?_
  rw [hask, if_neg (by simp)]
  refine Config_sp hs (.s .z) ?_
  intro h4 hs
  refine aSize_sp D.cfg hs ?_
  intro h5 hs
  have es : sizeM D.cfg = 128 := by rw [hcf]; decide
  rw [es, ltI_eq, if_neg (by decide)]
  refine abytes_sp hs (.s .z) ho 0 (by decide) (by decide) 48 (by rw [hcf]; decide) (by decide) ?_
  intro o c m h6 hm hs hm2
  have hm : m = 2 := hm
  subst hm
  rw [if_neg (by simp)]
  obtain ⟨q', hq, sv⟩ := sub_sv hs .z (n := 48) (by decide) (by decide)
  have el : ∀ x, x < 48 → ((areaB D 0 2).take 48).getD x 0 = (areaB D 0 2).getD x 0 := by
    intro x hx
    rw [List.getD_eq_getElem?_getD, List.getD_eq_getElem?_getD, List.getElem?_take, if_pos hx]
  have ld : ∀ x, x < 48 → hc h6 (q'.add x) = some (.int .u8 ((areaB D 0 2).getD x 0)) := by
    intro x hx
    obtain ⟨q2, hq2, g⟩ := hsv_int sv hx
    injection hq2 with hq2
    subst hq2
    rw [el x hx] at g
    exact g
  refine ⟨_, hq, by decide, by decide, _, ld 12 (by decide), _, hq, by decide, by decide, _, ld 13 (by decide), by decide, _, hq, by decide, by decide, _, ld 14 (by decide), by decide, _, hq, by decide, by decide, _, ld 15 (by decide), by decide, ?_⟩
  rw [hb.2.1, hb.2.2.1, hb.2.2.2.1, hb.2.2.2.2]
  have e48 : IntKind.i64.wrap (48 + bits .or .i64 (bits .or .i64 (bits .or .i64 (IntKind.i64.wrap 0) (IntKind.i64.wrap (IntKind.i64.wrap 0 * 2 ^ 8))) (IntKind.i64.wrap (IntKind.i64.wrap 0 * 2 ^ 16))) (IntKind.i64.wrap (IntKind.i64.wrap 0 * 2 ^ 24))) = 48 := by decide +kernel
  have e48' : IntKind.i64.wrap (48 + bits .or .i64 (bits .or .i64 (bits .or .i64 (IntKind.i64.wrap 0) (IntKind.i64.wrap (IntKind.i64.wrap 0 * 2 ^ min (Int.toNat 8) IntKind.i64.bits))) (IntKind.i64.wrap (IntKind.i64.wrap 0 * 2 ^ min (Int.toNat 16) IntKind.i64.bits))) (IntKind.i64.wrap (IntKind.i64.wrap 0 * 2 ^ min (Int.toNat 24) IntKind.i64.bits))) = 48 := by decide +kernel
  rw [e48', ltI_eq, if_neg (by decide), e48]
  refine abytes_sp hs (.s (.s .z)) ho 0 (by decide) (by decide) 48 (by rw [hcf]; decide) (by decide) ?_
  intro o c m h7 hm hs hm2
  have hm : m = 2 := hm
  subst hm
  rw [if_neg (by simp)]
  obtain ⟨q', hq, sv⟩ := sub_sv hs .z (n := 48) (by decide) (by decide)
  rw [hq]
  refine Parse_bad (A := []) (bs := (areaB D 0 2).take 48) (Sat.init _) (fun h' hs' => hsv_ext hs'.ex sv (fun _ _ y => y)) (by decide) (by decide) (by rw [el 0 (by decide), hb.1]; decide) ?_
  intro i1 i2 i3 o2 n2 m2 x v h8 hx hv1 hv2 hs2
  replace hs := hs.ext hs2.ex
  intro n48 _ hn; replace hs := Sat.new hs hn; clear hn
  refine ⟨Sat.can hs (by (repeat (first | exact At.z | apply At.s))) (by decide), ?_⟩
  intro _ e
  replace hs := Sat.wra hs (by (repeat (first | exact At.z | apply At.s))) e (by simp [hx])
  clear e
  simp only [put] at hs
  refine ⟨hv1, ?_⟩
  rw [hv2, if_pos (by simp)]
  exact rest _ (hs.drop.drop.drop.drop)
end
end Go.Proofs.Ytamfkofcpoglnaa
end

/- AreaWrites: bytes of an area; an erase, step by step. Own work. -/
section
set_option maxRecDepth 100000
set_option linter.unusedVariables false
namespace Go.Proofs.Ytamfkofcpoglnaa
open Go Go.Vc

section
variable {h0 h : H} {A : List Ent} {i j p r b : Nat} {C : Cm}
/-- A byte of an area. -/
def byteM (s : St) (c : Cfg) (ar : Nat) (x : Nat) : Int := (s.pages.getD (2 + ar * c.area.toNat + x / 32 / c.cells.toNat) []).getD (x / 32 % c.cells.toNat * 32 + x % 32) 0
theorem byteOf_sp {Q : Int → H → Prop} {a b' c' : Sl} {s : St} (c : Cfg) (m : c.may) (ar : Nat) (ha : ar < 2) (x : Nat) (hx : x < c.area.toNat * c.cells.toNat * 32) (hs : Sat h0 A h) (rd : ∀ h', Sat h0 A h' → RdS h' a b' c' s) (fp : (s.pages.length : Int) = c.np) (fc : ∀ l, l ∈ s.pages → (l.length : Int) = 32 * c.cells)
    (k : ∀ h', Sat h0 A h' → Q (byteM s c ar x) h') : F_portcullislaw14_byteOf a.1 a.2.1 a.2.2 b'.1 b'.2.1 b'.2.2 c'.1 c'.2.1 c'.2.2 c.cells c.slots c.fuses c.step c.keys c.erases c.area ar x Q h := by
  unfold F_portcullislaw14_byteOf G_portcullislaw14_byteOf
  simp only [add_mk, Nat.zero_add]
  intro n20 _ hn; replace hs := Sat.new hs hn; clear hn
  intro n23 _ hn; replace hs := Sat.new hs hn; clear hn
  have hm := m.area
  have hcl := m.cells
  have hsl := m.slots
  have hnp : c.np = 2 + 2 * c.area := rfl
  have hsz : c.area.toNat * c.cells.toNat ≤ 16384 := by
    calc c.area.toNat * c.cells.toNat ≤ 64 * c.cells.toNat := Nat.mul_le_mul_right _ (by omega)
      _ ≤ 16384 := by omega
  have hx32 : x / 32 < c.area.toNat * c.cells.toNat := by omega
  have hpg : x / 32 / c.cells.toNat < c.area.toNat := (Nat.div_lt_iff_lt_mul (by omega)).2 hx32
  have hce : x / 32 % c.cells.toNat < c.cells.toNat := Nat.mod_lt _ (by omega)
  have hx64 : x < 524288 := by omega
  have e1 : (x : Int).tdiv 32 = ((x / 32 : Nat) : Int) := by rw [Int.tdiv_eq_ediv_of_nonneg (by omega)]; rfl
  have e2 : IntKind.i64.wrap (((x / 32 : Nat) : Int)) = ((x / 32 : Nat) : Int) := wrap_id (by omega)
  have ec : (c.cells.toNat : Int) = c.cells := by omega
  have ea : (c.area.toNat : Int) = c.area := by omega
  have e3 : (((x / 32 : Nat) : Int)).tdiv c.cells = ((x / 32 / c.cells.toNat : Nat) : Int) := by
    rw [Int.tdiv_eq_ediv_of_nonneg (by omega), ← ec]; rfl
  have e4 : (((x / 32 : Nat) : Int)).tmod c.cells = ((x / 32 % c.cells.toNat : Nat) : Int) := by
    rw [Int.tmod_eq_emod_of_nonneg (by omega), ← ec]; rfl
  have e5 : (x : Int).tmod 32 = ((x % 32 : Nat) : Int) := by rw [Int.tmod_eq_emod_of_nonneg (by omega)]; rfl
  have hra : ar * c.area.toNat ≤ c.area.toNat := by
    have : ar = 0 ∨ ar = 1 := by omega
    rcases this with rfl | rfl <;> omega
  have e6 : (ar : Int) * c.area = ((ar * c.area.toNat : Nat) : Int) := by rw [← ea]; simp
  rw [e1, e2, e5]
  refine ⟨by decide, ?_⟩
  refine ⟨_, _, _, Sat.ld hs (by (repeat (first | exact At.z | apply At.s))) (by rfl), ?_⟩
  refine ⟨_, Sat.ld hs (by (repeat (first | exact At.z | apply At.s))) (by rfl), ?_⟩
  refine ⟨_, Sat.ld hs (by (repeat (first | exact At.z | apply At.s))) (by rfl), ?_⟩
  rw [e3, e6]
  have hk : byteM s c ar x = (s.pages.getD (2 + ar * c.area.toNat + x / 32 / c.cells.toNat) []).getD (x / 32 % c.cells.toNat * 32 + x % 32) 0 := rfl
  rw [hk] at k
  clear hk e1 e2 e3 e5 e6
  have hm32 : x % 32 < 32 := Nat.mod_lt _ (by decide)
  generalize x % 32 = y at *
  generalize x / 32 / c.cells.toNat = pp at *
  generalize x / 32 % c.cells.toNat = qq at *
  generalize ar * c.area.toNat = aa at *
  have ew : IntKind.i64.wrap (IntKind.i64.wrap (2 + IntKind.i64.wrap (aa : Int)) + IntKind.i64.wrap (pp : Int)) = ((2 + aa + pp : Nat) : Int) := by
    rw [wrap_id (n := (aa : Int)) (by omega), wrap_id (n := (pp : Int)) (by omega), wrap_id (n := 2 + (aa : Int)) (by omega), wrap_id (by omega)]; omega
  rw [ew]
  have rds := rd _ hs.drop.drop
  have hj : 2 + aa + pp < s.pages.length := by omega
  have hpl := rds.pg.len
  have hrl := fc _ (List.getElem_mem hj)
  have er : s.pages.getD (2 + aa + pp) [] = s.pages[2 + aa + pp] := by simp [List.getD, List.getElem?_eq_getElem hj]
  rw [er] at k
  generalize hrow : s.pages[2 + aa + pp] = row at *
  obtain ⟨q, z, q', f1, f2, f3, f4, f5⟩ := rds.pg.cell hj (k := qq) (by rw [hrow]; omega)
  rw [hrow] at f3 f5
  refine ⟨by omega, q, f1, by omega, by omega, _, _, _, by rw [Int.toNat_natCast]; exact f2, ?_⟩
  refine ⟨_, Sat.ld hs (by (repeat (first | exact At.z | apply At.s))) (by rfl), ?_⟩
  rw [e4]
  refine ⟨by omega, by decide, q', f4, by omega, by omega, by omega, by omega, _, ?_, k _ hs.drop.drop⟩
  rw [Int.toNat_natCast, Int.toNat_natCast, Nat.mul_one]
  have hcl2 : (cellAt row qq).length = 32 := cellAt_length (by omega)
  refine f5 y _ ?_
  rw [ints_get, List.getElem?_eq_getElem (by omega), ← cellAt_getD row qq y hm32]
  simp [List.getD, List.getElem?_eq_getElem (show y < (cellAt row qq).length by omega)]
end
end Go.Proofs.Ytamfkofcpoglnaa
end

/- AreaWrites: what the erases of a Write leave; laws about numbers alone. Own work. -/
section
set_option maxRecDepth 100000
set_option linter.unusedVariables false
namespace Go.Proofs.Ytamfkofcpoglnaa
open Go Go.Vc

def Cm.er (C : Cm) (x : Nat) : Int := C.s.erases.getD x 0
def Cm.pg (C : Cm) (x : Nat) : List Int := C.s.pages.getD x []
def dif (C D : Cm) : Nat → Nat → Int
  | _, 0 => 0
  | B, m + 1 => (D.er B - C.er B) + dif C D (B + 1) m
theorem dif_succ (C D : Cm) (B m : Nat) : dif C D B (m + 1) = (D.er B - C.er B) + dif C D (B + 1) m := rfl
theorem dif_congr {C C' D : Cm} (m : Nat) : ∀ B, (∀ x, B ≤ x → x < B + m → C.er x = C'.er x) → dif C D B m = dif C' D B m := by
  induction m with
  | zero => intro B _; rfl
  | succ m ih =>
    intro B h
    unfold dif
    rw [h B (by omega) (by omega), ih (B + 1) fun x h1 h2 => h x (by omega) (by omega)]
theorem dif_zero {C D : Cm} (m : Nat) : ∀ B, (∀ x, B ≤ x → x < B + m → D.er x = C.er x) → dif C D B m = 0 := by
  induction m with
  | zero => intro B _; rfl
  | succ m ih =>
    intro B h
    unfold dif
    rw [h B (by omega) (by omega), ih (B + 1) fun x h1 h2 => h x (by omega) (by omega)]; omega
theorem usedM_congr {C D : Cm} {page : Int} (hc : D.cfg = C.cfg) (ho : D.out = C.out) (hl : D.s.pages.length = C.s.pages.length) (hp : D.pg page.toNat = C.pg page.toNat) : usedM D page = usedM C page := by
  have e : ∀ n : Int, readM D page n = readM C page n := by
    intro n
    unfold readM asksCellM askedM
    unfold Cm.pg at hp
    rw [hc, ho, hl, hp]
  unfold usedM usedP
  rw [hc]
  simp only [e]
/-- What erases do to so many pages. -/
structure Er (B m : Nat) (C D : Cm) (e : Int) : Prop where
  cfg : D.cfg = C.cfg
  bl : D.s.blown = C.s.blown
  np : D.s.pages.length = C.s.pages.length
  ne : D.s.erases.length = C.s.erases.length
  pg : ∀ x, x < B ∨ B + m ≤ x → D.pg x = C.pg x
  er : ∀ x, x < B ∨ B + m ≤ x → D.er x = C.er x
  acts : D.acts = C.acts + dif C D B m
  ab : C.acts ≤ D.acts ∧ D.acts ≤ C.acts + m
  good : e = 0 → D.out = false ∧ -1 ≤ D.left ∧ ∀ x, B ≤ x → x < B + m → (D.pg x).length = C.cfg.cells.toNat * 32 ∧ blankP (D.pg x) C.cfg.cells.toNat
  bad : e ≠ 0 → e = 8
theorem erased_blank {row : List Int} {l : Nat} (hl : row.length = l * 32) (f : Nat → Int) (hf : ∀ i, f i = 255) : (eraseRow row f).length = l * 32 ∧ blankP (eraseRow row f) l := by
  refine ⟨by unfold eraseRow; rw [mapTo_length]; exact hl, ?_⟩
  intro n hn
  have h1 : (cellAt (eraseRow row f) n).length = 32 := cellAt_length (by unfold eraseRow; rw [mapTo_length]; omega)
  refine ext_getD (h1.trans rfl) fun i hi => ?_
  rw [h1] at hi
  rw [cellAt_getD _ _ _ hi]
  unfold eraseRow
  rw [mapTo_getD _ _ _ _ (by omega) (by omega), hf, full_or]
  unfold ffs
  rw [tab_getD _ hi]
theorem getD_put {α : Type} (l : List α) (j : Nat) (v d : α) (h : j < l.length) : (l.set j v).getD j d = v := by
  simp [List.getD, h]
theorem erase_step {C : Cm} {B : Nat} (ho : C.out = false) (hB : B < C.s.pages.length) (hB2 : B < C.s.erases.length) (hw : C.er B < C.cfg.erases) (ha : 0 ≤ C.acts ∧ C.acts < 2 ^ 60) :
    ∃ D : Cm, eraseM C (B : Int) = (D, errM C) ∧ D.cfg = C.cfg ∧ D.s.blown = C.s.blown ∧ D.s.pages.length = C.s.pages.length ∧ D.s.erases.length = C.s.erases.length ∧ (∀ x, x ≠ B → D.pg x = C.pg x) ∧ (∀ x, x ≠ B → D.er x = C.er x) ∧
      D.er B = C.er B + 1 ∧ D.acts = C.acts + 1 ∧ D.pg B = eraseRow (C.pg B) (maskAt C) ∧ (C.left ≠ 0 → D.out = false) ∧ (-1 ≤ C.left → -1 ≤ D.left) := by
  have hac : C.act.acts = C.acts + 1 := by
    unfold Cm.act
    have : w64 (C.acts + 1) = C.acts + 1 := by unfold w64; rw [IntKind.wrap_i64]; omega
    split <;> exact this
  unfold eraseM
  rw [askedM_in ho (by omega) (by omega), if_neg (by simp), Int.toNat_natCast]
  unfold Cm.er at hw
  rw [if_neg (by omega)]
  refine ⟨_, rfl, act_cfg C, ?_, ?_, ?_, ?_, ?_, ?_, hac, ?_, ?_, ?_⟩
  · show C.act.s.blown = _; rw [act_s]
  · show (C.act.s.pages.set B _).length = _; rw [List.length_set, act_s]
  · show (C.act.s.erases.set B _).length = _; rw [List.length_set, act_s]
  · intro x hx
    show (C.act.s.pages.set B _).getD x [] = C.s.pages.getD x []
    simp only [List.getD, List.getElem?_set_ne (Ne.symm hx), act_s]
  · intro x hx
    show (C.act.s.erases.set B _).getD x 0 = C.s.erases.getD x 0
    simp only [List.getD, List.getElem?_set_ne (Ne.symm hx), act_s]
  · show (C.act.s.erases.set B _).getD B 0 = _
    exact getD_put _ _ _ _ (by rw [act_s]; exact hB2)
  · show (C.act.s.pages.set B _).getD B [] = _
    rw [getD_put _ _ _ _ (by rw [act_s]; exact hB)]
    unfold rowOf
    rw [Int.toNat_natCast]; rfl
  · intro hl
    show C.act.out = false
    exact act_out ho hl
  · intro hl
    show -1 ≤ C.act.left
    unfold Cm.act
    split
    · dsimp only; split <;> omega
    · exact Int.le_refl _
theorem erases (base : Int) : ∀ (m j B : Nat) (C : Cm), base + j = (B : Int) → C.out = false → -1 ≤ C.left → B + m ≤ C.s.pages.length → B + m ≤ C.s.erases.length → (0 ≤ C.acts ∧ C.acts + m < 2 ^ 60) →
    (∀ x, B ≤ x → x < B + m → (C.pg x).length = C.cfg.cells.toNat * 32) → (∀ x, B ≤ x → x < B + m → usedM C (x : Int) = true → C.er x < C.cfg.erases) →
    (∀ x, B ≤ x → x < B + m → usedM C (x : Int) = false → blankP (C.pg x) C.cfg.cells.toNat) → Er B m C (eraseL base m j C).1 (eraseL base m j C).2 := by
  intro m
  induction m with
  | zero =>
    intro j B C hB ho hl _ _ _ _ _ _
    unfold eraseL
    exact ⟨rfl, rfl, rfl, rfl, fun _ _ => rfl, fun _ _ => rfl, by simp [dif], ⟨Int.le_refl _, by (try dsimp only); omega⟩, fun _ => ⟨ho, hl, fun x h1 h2 => by omega⟩, fun x => absurd rfl x⟩
  | succ m ih =>
    intro j B C hB ho hl hp he ha hlen hw hbl
    unfold eraseL
    rw [hB]
    by_cases u : usedM C (B : Int) = true
    case neg =>
      rw [if_neg u]
      have I := ih (j + 1) (B + 1) C (by omega) ho hl (by omega) (by omega) ⟨ha.1, by omega⟩ (fun x h1 h2 => hlen x (by omega) (by omega)) (fun x h1 h2 => hw x (by omega) (by omega)) (fun x h1 h2 => hbl x (by omega) (by omega))
      generalize eraseL base m (j + 1) C = X at *
      have hBp := I.pg B (by omega)
      have hBe := I.er B (by omega)
      refine ⟨I.cfg, I.bl, I.np, I.ne, fun x hx => I.pg x (by omega), fun x hx => I.er x (by omega), ?_, ⟨I.ab.1, by have := I.ab.2; omega⟩, fun e => ?_, I.bad⟩
      · rw [I.acts, dif_succ, hBe]; omega
      · obtain ⟨g1, g2, g3⟩ := I.good e
        refine ⟨g1, g2, fun x h1 h2 => ?_⟩
        by_cases c : x = B
        · subst c
          rw [hBp]
          exact ⟨hlen x (by omega) (by omega), hbl x (by omega) (by omega) (by simpa using u)⟩
        · exact g3 x (by omega) (by omega)
    rw [if_pos u]
    obtain ⟨D, hD, d1, d2, d3, d4, d5, d6, d7, d8, d9, d10, d11⟩ := erase_step ho (show B < C.s.pages.length by omega) (by omega) (hw B (by omega) (by omega) u) ⟨ha.1, by omega⟩
    rw [hD]
    dsimp only
    by_cases c : C.left = 0
    · have e8 : errM C = 8 := by unfold errM; rw [if_neg (by simpa using c)]
      rw [e8, if_pos (by simp)]
      refine ⟨d1, d2, d3, d4, fun x hx => d5 x (by omega), fun x hx => d6 x (by omega), ?_, ⟨by (try dsimp only); omega, by (try dsimp only); omega⟩, fun e => by simp at e, fun _ => rfl⟩
      rw [dif_succ, dif_zero m (B + 1) fun x h1 h2 => d6 x (by omega), d7, d8]; omega
    · have e0 : errM C = 0 := by unfold errM; rw [if_pos (by simpa using c)]
      rw [e0, if_neg (by simp)]
      have hu : ∀ x, B + 1 ≤ x → usedM D (x : Int) = usedM C (x : Int) := fun x h1 => usedM_congr d1 (by rw [d10 c, ho]) d3 (by rw [Int.toNat_natCast]; exact d5 x (by omega))
      have I := ih (j + 1) (B + 1) D (by omega) (d10 c) (d11 hl) (by omega) (by omega) ⟨by omega, by omega⟩
        (fun x h1 h2 => by rw [d5 x (by omega), d1]; exact hlen x (by omega) (by omega))
        (fun x h1 h2 h3 => by rw [d6 x (by omega), d1]; rw [hu x h1] at h3; exact hw x (by omega) (by omega) h3)
        (fun x h1 h2 h3 => by rw [d5 x (by omega), d1]; rw [hu x h1] at h3; exact hbl x (by omega) (by omega) h3)
      generalize eraseL base m (j + 1) D = X at *
      have hBp := I.pg B (by omega)
      have hBe := I.er B (by omega)
      refine ⟨I.cfg.trans d1, I.bl.trans d2, I.np.trans d3, I.ne.trans d4, fun x hx => (I.pg x (by omega)).trans (d5 x (by omega)), fun x hx => (I.er x (by omega)).trans (d6 x (by omega)), ?_, ⟨by have := I.ab.1; omega, by have := I.ab.2; omega⟩, fun e => ?_, I.bad⟩
      · rw [I.acts, dif_succ, hBe, d7, d8, dif_congr m (B + 1) fun x h1 h2 => d6 x (by omega)]; omega
      · obtain ⟨g1, g2, g3⟩ := I.good e
        rw [d1] at g3
        refine ⟨g1, g2, fun x h1 h2 => ?_⟩
        by_cases c2 : x = B
        · subst c2
          rw [hBp, d9]
          exact erased_blank (hlen x (by omega) (by omega)) _ fun i => by unfold maskAt; rw [if_pos (by simpa using c)]
        · exact g3 x (by omega) (by omega)
end Go.Proofs.Ytamfkofcpoglnaa
end

/- AreaWrites: what the programs of a Write leave; laws about numbers alone. Own work. -/
section
set_option maxRecDepth 100000
set_option linter.unusedVariables false
namespace Go.Proofs.Ytamfkofcpoglnaa
open Go Go.Vc

/-- A cell of an area that begins at a page. -/
def cellOf (B cells : Nat) (D : Cm) (x : Nat) : List Int := cellAt (D.pg (B + x / cells)) (x % cells)
theorem prog_step {C : Cm} {P q : Nat} {rec : List Int} (ho : C.out = false) (hP : P < C.s.pages.length) (hq : (q : Int) < C.cfg.cells) (ha : 0 ≤ C.acts ∧ C.acts < 2 ^ 60) :
    ∃ D : Cm, programM C (P : Int) (q : Int) rec = (D, errM C) ∧ D.cfg = C.cfg ∧ D.s.blown = C.s.blown ∧ D.s.pages.length = C.s.pages.length ∧ D.s.erases = C.s.erases ∧ (∀ x, x ≠ P → D.pg x = C.pg x) ∧
      D.acts = C.acts + 1 ∧ D.pg P = rowSet (C.pg P) q (progCell (cellAt (C.pg P) q) rec (maskAt C)) ∧ (C.left ≠ 0 → D.out = false) ∧ (-1 ≤ C.left → -1 ≤ D.left) := by
  have hac : C.act.acts = C.acts + 1 := by
    unfold Cm.act
    have : w64 (C.acts + 1) = C.acts + 1 := by unfold w64; rw [IntKind.wrap_i64]; omega
    split <;> exact this
  have ec : asksCellM C (P : Int) (q : Int) = 0 := by
    unfold asksCellM
    rw [askedM_in ho (by omega) (by omega), if_neg (by simp), askedM_in ho (by omega) hq]
  unfold programM
  rw [ec, if_neg (by simp), Int.toNat_natCast, Int.toNat_natCast]
  refine ⟨_, rfl, act_cfg C, ?_, ?_, ?_, ?_, hac, ?_, ?_, ?_⟩
  · show C.act.s.blown = _; rw [act_s]
  · show (C.act.s.pages.set P _).length = _; rw [List.length_set, act_s]
  · show C.act.s.erases = _; rw [act_s]
  · intro x hx
    show (C.act.s.pages.set P _).getD x [] = C.s.pages.getD x []
    simp only [List.getD, List.getElem?_set_ne (Ne.symm hx), act_s]
  · show (C.act.s.pages.set P _).getD P [] = _
    rw [getD_put _ _ _ _ (by rw [act_s]; exact hP)]
    unfold rowOf
    rw [Int.toNat_natCast]; rfl
  · intro hl
    show C.act.out = false
    exact act_out ho hl
  · intro hl
    show -1 ≤ C.act.left
    unfold Cm.act
    split
    · dsimp only; split <;> omega
    · exact Int.le_refl _
theorem cellOf_step {B cells i : Nat} {C D : Cm} {c : List Int} (hc : 0 < cells) (h1 : ∀ x, x ≠ B + i / cells → D.pg x = C.pg x) (h2 : D.pg (B + i / cells) = rowSet (C.pg (B + i / cells)) (i % cells) c) (hl : (C.pg (B + i / cells)).length = cells * 32) (hcl : c.length = 32) :
    cellOf B cells D i = c ∧ (∀ x, x ≠ i → cellOf B cells D x = cellOf B cells C x) ∧ (D.pg (B + i / cells)).length = cells * 32 := by
  have hm : i % cells < cells := Nat.mod_lt _ hc
  have hb : (i % cells + 1) * 32 ≤ (C.pg (B + i / cells)).length := by rw [hl]; exact Nat.mul_le_mul_right 32 hm
  refine ⟨?_, ?_, ?_⟩
  · unfold cellOf
    rw [h2, rowSet_same hb hcl]
  · intro x hx
    unfold cellOf
    by_cases e : x / cells = i / cells
    · rw [e, h2]
      have hmx : x % cells < cells := Nat.mod_lt _ hc
      refine rowSet_other hb (by rw [hl]; exact Nat.mul_le_mul_right 32 hmx) hcl ?_
      intro e2
      have a1 := Nat.div_add_mod x cells
      have a2 := Nat.div_add_mod i cells
      rw [e, e2] at a1
      omega
    · rw [h1 _ (by omega)]
  · rw [h2, rowSet_length hb hcl, hl]
theorem prog_whole {X : List Int} (hX : X.length = 32) (hb : bytesOk X) : progCell blankCell X (fun _ => 255) = X := by
  have hcl : (progCell blankCell X fun _ => 255).length = 32 := progCell_length _ _ _ (by simp [blankCell])
  refine ext_getD (hcl.trans hX.symm) fun i hi => ?_
  rw [hcl] at hi
  rw [prog_getD _ _ _ hi]
  exact prog_full _ (getD_byte hb _)
theorem cellM_bytes {bs : List Int} (hb : bytesOk bs) (n : Nat) : bytesOk (cellM bs n) := by
  unfold cellM
  refine tab_bytes fun k => ?_
  split
  · exact getD_byte hb _
  · exact ⟨by decide, by decide⟩
def doneP (n k x : Nat) : Prop := (1 ≤ x ∧ x ≤ k ∧ x < n) ∨ (k = n ∧ x = 0 ∧ 0 < n)
instance (n k x : Nat) : Decidable (doneP n k x) := by unfold doneP; infer_instance
theorem done_next {n k : Nat} (hk : k < n) (x : Nat) : doneP n (k + 1) x ↔ (doneP n k x ∨ x = (k + 1) % n) := by
  unfold doneP
  by_cases c : k + 1 = n
  · rw [c, Nat.mod_self]; omega
  · rw [Nat.mod_eq_of_lt (by omega)]; omega
theorem not_done {n k : Nat} (hk : k < n) : ¬ doneP n k ((k + 1) % n) := by
  unfold doneP
  by_cases c : k + 1 = n
  · rw [c, Nat.mod_self]; omega
  · rw [Nat.mod_eq_of_lt (by omega)]; omega
/-- What programs do to an area. -/
structure Pr (B area cells n k : Nat) (bs : List Int) (C D : Cm) (e : Int) : Prop where
  cfg : D.cfg = C.cfg
  bl : D.s.blown = C.s.blown
  np : D.s.pages.length = C.s.pages.length
  es : D.s.erases = C.s.erases
  pg : ∀ x, x < B ∨ B + area ≤ x → D.pg x = C.pg x
  good : e = 0 → D.acts = C.acts + (n - k : Nat) ∧ ∀ x, x < area * cells → cellOf B cells D x = if doneP n n x then cellM bs x else ffs
  bad : e ≠ 0 → e = 8 ∧ ∃ t, k < t ∧ t ≤ n ∧ D.acts = C.acts + (t - k : Nat) ∧ ∀ x, x < area * cells → x ≠ t % n → cellOf B cells D x = if doneP n (t - 1) x then cellM bs x else ffs
theorem programs (B area cells n : Nat) (bs : List Int) (hb : bytesOk bs) (hn : 0 < n) (hN : n ≤ area * cells) (hc : 0 < cells) : ∀ (m k : Nat) (C : Cm), m + k = n → C.out = false → -1 ≤ C.left → (cells : Int) = C.cfg.cells → B + area ≤ C.s.pages.length → (0 ≤ C.acts ∧ C.acts + m < 2 ^ 60) →
    (∀ x, x < area → (C.pg (B + x)).length = cells * 32) → (∀ x, x < area * cells → cellOf B cells C x = if doneP n k x then cellM bs x else ffs) → Pr B area cells n k bs C (progL (B : Int) cells bs n m k C).1 (progL (B : Int) cells bs n m k C).2 := by
  intro m
  induction m with
  | zero =>
    intro k C hk ho hl hcc hp ha hlen hcell
    have : k = n := by omega
    subst this
    unfold progL
    exact ⟨rfl, rfl, rfl, rfl, fun _ _ => rfl, fun _ => ⟨by simp, hcell⟩, fun x => absurd rfl x⟩
  | succ m ih =>
    intro k C hk ho hl hcc hp ha hlen hcell
    unfold progL
    have hin : (k + 1) % n < n := Nat.mod_lt _ hn
    have hnd := not_done (n := n) (k := k) (by omega)
    have hnx := done_next (n := n) (k := k) (by omega)
    generalize hi : (k + 1) % n = i at *
    have hdiv : i / cells < area := (Nat.div_lt_iff_lt_mul hc).2 (by omega)
    have hmod : i % cells < cells := Nat.mod_lt _ hc
    have hBle : B ≤ B + i / cells := Nat.le_add_right _ _
    have hne : ∀ x, x < B ∨ B + area ≤ x → x ≠ B + i / cells := by
      intro x hx
      generalize i / cells = dd at *
      omega
    have eB : (B : Int) + ((i / cells : Nat) : Int) = ((B + i / cells : Nat) : Int) := by simp
    rw [eB]
    obtain ⟨D, hD, d1, d2, d3, d4, d5, d6, d7, d8, d9⟩ := prog_step (C := C) (P := B + i / cells) (q := i % cells) (rec := cellM bs i) ho (by omega) (by omega) ⟨ha.1, by omega⟩
    rw [hD]
    dsimp only
    have hold : cellAt (C.pg (B + i / cells)) (i % cells) = ffs := by
      have := hcell i (by omega)
      rw [if_neg hnd] at this
      exact this
    rw [hold] at d7
    have hclen : ∀ f, (progCell ffs (cellM bs i) f).length = 32 := fun f => progCell_length _ _ _ rfl
    obtain ⟨s1, s2, s3⟩ := cellOf_step (B := B) (i := i) hc (fun x hx => d5 x hx) d7 (hlen _ hdiv) (hclen _)
    have hlen2 : ∀ x, x < area → (D.pg (B + x)).length = cells * 32 := by
      intro x hx
      by_cases e : x = i / cells
      · rw [e]; exact s3
      · rw [d5 _ (by omega)]; exact hlen x hx
    by_cases c : C.left = 0
    · have e8 : errM C = 8 := by unfold errM; rw [if_neg (by simpa using c)]
      rw [e8, if_pos (by simp)]
      refine ⟨d1, d2, d3, d4, fun x hx => d5 x (hne x hx), fun e => by simp at e, fun _ => ⟨rfl, k + 1, by omega, by omega, by rw [d6]; omega, fun x hx hx2 => ?_⟩⟩
      rw [hi] at hx2
      rw [s2 x hx2, Nat.add_sub_cancel]
      exact hcell x hx
    · have e0 : errM C = 0 := by unfold errM; rw [if_pos (by simpa using c)]
      rw [e0, if_neg (by simp)]
      have hmask : maskAt C = fun _ => 255 := by funext q; unfold maskAt; rw [if_pos (by simpa using c)]
      rw [hmask, ← blankCell_ffs, prog_whole (cellM_length bs i) (cellM_bytes hb i)] at s1
      have I := ih (k + 1) D (by omega) (d8 c) (d9 hl) (by rw [d1]; exact hcc) (by rw [d3]; exact hp) ⟨by omega, by omega⟩ hlen2 (fun x hx => by
        by_cases e : x = i
        · rw [e, s1, if_pos ((hnx i).2 (Or.inr rfl))]
        · rw [s2 x e, hcell x hx]
          by_cases dn : doneP n k x
          · rw [if_pos dn, if_pos ((hnx x).2 (Or.inl dn))]
          · rw [if_neg dn, if_neg (fun y => by rcases (hnx x).1 y with y | y; exact dn y; exact e y)])
      generalize progL (B : Int) cells bs n m (k + 1) D = X at *
      refine ⟨I.cfg.trans d1, I.bl.trans d2, I.np.trans d3, I.es.trans d4, fun x hx => (I.pg x hx).trans (d5 x (hne x hx)), fun e => ?_, fun e => ?_⟩
      · obtain ⟨g1, g2⟩ := I.good e
        exact ⟨by rw [g1, d6]; omega, g2⟩
      · obtain ⟨g1, t, g2, g3, g4, g5⟩ := I.bad e
        exact ⟨g1, t, by omega, g3, by rw [g4, d6]; omega, g5⟩
end Go.Proofs.Ytamfkofcpoglnaa
end

/- AreaWrites: what a Write leaves; laws about numbers alone. Own work. -/
section
set_option maxRecDepth 100000
set_option linter.unusedVariables false
namespace Go.Proofs.Ytamfkofcpoglnaa
open Go Go.Vc

theorem blank_cellOf {B area cells : Nat} {D : Cm} (hc : 0 < cells) (h : ∀ x, B ≤ x → x < B + area → blankP (D.pg x) cells) (x : Nat) (hx : x < area * cells) : cellOf B cells D x = ffs := by
  have hdiv : x / cells < area := (Nat.div_lt_iff_lt_mul hc).2 hx
  have hmod : x % cells < cells := Nat.mod_lt _ hc
  exact h _ (Nat.le_add_right _ _) (by omega) _ hmod
theorem write_law {C : Cm} (ok : C.ok) (ho : C.out = false) (ha : C.acts = 0) (ar : Int) {bs : List Int} (hb : bytesOk bs) :
    ((writeM C ar bs).1 = C ∧ (writeM C ar bs).2 ≠ 0 ∧ (writeM C ar bs).2 ≠ 8) ∨
    (0 ≤ ar ∧ ar < 2 ∧ 0 < bs.length ∧ bs.length ≤ C.cfg.area.toNat * C.cfg.cells.toNat * 32 ∧
      (((writeM C ar bs).2 = 8 ∧ Er (2 + ar * C.cfg.area).toNat C.cfg.area.toNat C (writeM C ar bs).1 8) ∨
        ∃ D, Er (2 + ar * C.cfg.area).toNat C.cfg.area.toNat C D 0 ∧ Pr (2 + ar * C.cfg.area).toNat C.cfg.area.toNat C.cfg.cells.toNat ((bs.length + 31) / 32) 0 bs D (writeM C ar bs).1 (writeM C ar bs).2)) := by
  have hm := ok.may.area
  have hcl := ok.may.cells
  have hsl := ok.may.slots
  have hpg := ok.fits.pages
  have her := ok.fits.erases
  have hnp : C.cfg.np = 2 + 2 * C.cfg.area := rfl
  unfold writeM
  by_cases c1 : (wornM C ar).2 = 0
  case neg =>
    rw [if_pos (by simpa using c1)]
    refine Or.inl ⟨rfl, c1, ?_⟩
    unfold wornM askedM
    simp only [ho, Bool.false_eq_true, if_false]
    (repeat' split) <;> simp
  rw [if_neg (by simpa using c1)]
  by_cases c2 : bs.length = 0
  · rw [if_pos c2]; exact Or.inl ⟨rfl, by simp, by simp⟩
  rw [if_neg c2]
  by_cases c3 : sizeM C.cfg < bs.length
  · rw [if_pos c3]; exact Or.inl ⟨rfl, by simp, by simp⟩
  rw [if_neg c3]
  by_cases c4 : (wornM C ar).1 = true
  · rw [if_pos c4]; exact Or.inl ⟨rfl, by simp, by simp⟩
  rw [if_neg c4]
  have hask : askedM C ar 2 = 0 := by
    unfold wornM at c1
    by_cases y : askedM C ar 2 = 0
    · exact y
    · rw [if_pos (by simpa using y)] at c1; exact absurd c1 y
  obtain ⟨_, a1, a2⟩ := askedM_zero hask
  have z : 0 ≤ ar * C.cfg.area ∧ ar * C.cfg.area ≤ C.cfg.area ∧ C.cfg.area ≤ 64 := by
    have : ar = 0 ∨ ar = 1 := by omega
    rcases this with rfl | rfl <;> omega
  have hsize : (sizeM C.cfg : Int) = ((C.cfg.area.toNat * C.cfg.cells.toNat * 32 : Nat) : Int) := by
    unfold sizeM
    rw [if_pos ok.may]
    have e1 : (C.cfg.area.toNat : Int) = C.cfg.area := by omega
    have e2 : (C.cfg.cells.toNat : Int) = C.cfg.cells := by omega
    rw [← e1, ← e2]; simp
  rw [hsize] at c3
  refine Or.inr ⟨a1, a2, by omega, by omega, ?_⟩
  have hworn : ¬ wornP C ar C.cfg.area.toNat := by
    intro y
    apply c4
    unfold wornM
    rw [if_neg (by simpa using hask)]
    exact decide_eq_true y
  obtain ⟨B, hB⟩ : ∃ B, B = (2 + ar * C.cfg.area).toNat := ⟨_, rfl⟩
  have hBI : (B : Int) = 2 + ar * C.cfg.area := by omega
  rw [← hB, ← hBI]
  have used : ∀ x, B ≤ x → x < B + C.cfg.area.toNat → usedM C (x : Int) = !decide (blankP (C.pg x) C.cfg.cells.toNat) := by
    intro x h1 h2
    have := used_row ok ho (page := (x : Int)) (by omega) (by omega)
    rw [Int.toNat_natCast] at this
    exact this
  have I := erases (B : Int) C.cfg.area.toNat 0 B C (by simp) ho ok.left (by omega) (by omega) ⟨by omega, by omega⟩
    (fun x h1 h2 => by
      have hj : x < C.s.pages.length := by omega
      have e : C.pg x = C.s.pages[x] := by unfold Cm.pg; simp [List.getD, List.getElem?_eq_getElem hj]
      have := ok.fits.cells _ (List.getElem_mem hj)
      rw [e]; omega)
    (fun x h1 h2 h3 => by
      apply Classical.byContradiction
      intro hge
      refine hworn ⟨x - B, by omega, ?_⟩
      have ex : 2 + ar * C.cfg.area + ((x - B : Nat) : Int) = (x : Int) := by omega
      rw [ex]
      have ee : erasesM C (x : Int) = (C.er x, 0) := by unfold erasesM; rw [askedM_in ho (by omega) (by omega), if_neg (by simp), Int.toNat_natCast]; rfl
      rw [ee]
      exact ⟨rfl, by omega, h3⟩)
    (fun x h1 h2 h3 => by
      rw [used x h1 h2] at h3
      simpa using h3)
  generalize eraseL (B : Int) C.cfg.area.toNat 0 C = E at *
  by_cases c5 : E.2 = 0
  case neg =>
    rw [if_pos (by simpa using c5)]
    have e8 := I.bad c5
    rw [e8] at I
    exact Or.inl ⟨e8, I⟩
  rw [if_neg (by simpa using c5)]
  rw [c5] at I
  obtain ⟨g1, g2, g3⟩ := I.good rfl
  refine Or.inr ⟨E.1, I, ?_⟩
  have hN : (bs.length + 31) / 32 ≤ C.cfg.area.toNat * C.cfg.cells.toNat := by omega
  have hacts : 0 ≤ E.1.acts ∧ E.1.acts + ((bs.length + 31) / 32 : Nat) < 2 ^ 60 := by
    have hsz : C.cfg.area.toNat * C.cfg.cells.toNat ≤ 16384 := by
      calc C.cfg.area.toNat * C.cfg.cells.toNat ≤ 64 * C.cfg.cells.toNat := Nat.mul_le_mul_right _ (by omega)
        _ ≤ 16384 := by omega
    obtain ⟨b1, b2⟩ := I.ab
    omega
  exact programs B C.cfg.area.toNat C.cfg.cells.toNat ((bs.length + 31) / 32) bs hb (by omega) hN (by omega) _ 0 E.1 (by omega) g1 g2 (by rw [I.cfg]; omega) (by rw [I.np]; omega) hacts
    (fun x hx => by rw [(g3 (B + x) (by omega) (by omega)).1]) (fun x hx => by
      rw [if_neg (by unfold doneP; omega)]
      exact blank_cellOf (by omega) (fun y h1 h2 => (g3 y h1 h2).2) x hx)
end Go.Proofs.Ytamfkofcpoglnaa
end

/- AreaWrites: the statement's words about a Write, in plain numbers. Own work. -/
section
set_option maxRecDepth 100000
set_option linter.unusedVariables false
namespace Go.Proofs.Ytamfkofcpoglnaa
open Go Go.Vc

/-- What a byte of an area should be. -/
def wantM (bs : List Int) (x : Nat) : Int := if x < bs.length then bs.getD x 0 else 255
theorem cellM_want (bs : List Int) (x : Nat) : (cellM bs (x / 32)).getD (x % 32) 0 = wantM bs x := by
  unfold cellM wantM
  rw [tab_getD _ (Nat.mod_lt _ (by decide))]
  have : x / 32 * 32 + x % 32 = x := by omega
  rw [this]
theorem ffs_get (x : Nat) (h : x < 32) : ffs.getD x 0 = 255 := by unfold ffs; rw [tab_getD _ h]
theorem byteM_cell (D : Cm) (ar : Nat) (x : Nat) : byteM D.s D.cfg ar x = (cellOf (2 + ar * D.cfg.area.toNat) D.cfg.cells.toNat D (x / 32)).getD (x % 32) 0 := by
  unfold byteM cellOf Cm.pg
  rw [cellAt_getD _ _ _ (Nat.mod_lt _ (by decide))]
theorem want_cell (bs : List Int) (n q x : Nat) (hn : n = (bs.length + 31) / 32) (hq : q = x / 32) : (if q < n then cellM bs q else ffs).getD (x % 32) 0 = wantM bs x := by
  subst hq
  by_cases c : x / 32 < n
  · rw [if_pos c, cellM_want]
  · rw [if_neg c, ffs_get _ (Nat.mod_lt _ (by decide))]
    unfold wantM
    rw [if_neg (by omega)]
theorem done_all {n q : Nat} (hn : 0 < n) : doneP n n q ↔ q < n := by unfold doneP; omega
theorem done_most {n q : Nat} (hn : 0 < n) (hq : q ≠ 0) : doneP n (n - 1) q ↔ q < n := by unfold doneP; omega
theorem done_zero {n t : Nat} (ht : t < n) (h0 : 0 < t) : ¬ doneP n (t - 1) 0 := by unfold doneP; omega
theorem dif_er {C D D' : Cm} (h : D.s.erases = D'.s.erases) (m : Nat) : ∀ B, dif C D B m = dif C D' B m := by
  induction m with
  | zero => intro B; rfl
  | succ m ih => intro B; rw [dif_succ, dif_succ, ih]; unfold Cm.er; rw [h]
/-- What the statement asks of a Write that did something. -/
theorem write_says {C : Cm} (ok : C.ok) (ho : C.out = false) (ha : C.acts = 0) (ar : Nat) {bs : List Int} (hb : bytesOk bs) (hd : (writeM C (ar : Int) bs).2 = 0 ∨ (writeM C (ar : Int) bs).2 = 8) :
    ((writeM C (ar : Int) bs).2 = 0 → ∀ x, x < C.cfg.area.toNat * C.cfg.cells.toNat * 32 → byteM (writeM C (ar : Int) bs).1.s C.cfg ar x = wantM bs x) ∧
    ((writeM C (ar : Int) bs).2 = 8 →
      ((writeM C (ar : Int) bs).1.acts = dif C (writeM C (ar : Int) bs).1 (2 + ar * C.cfg.area.toNat) C.cfg.area.toNat + ((bs.length + 31) / 32 : Nat) ∧
        ∀ x, 32 ≤ x → x < C.cfg.area.toNat * C.cfg.cells.toNat * 32 → byteM (writeM C (ar : Int) bs).1.s C.cfg ar x = wantM bs x) ∨
      ((writeM C (ar : Int) bs).1.acts < dif C (writeM C (ar : Int) bs).1 (2 + ar * C.cfg.area.toNat) C.cfg.area.toNat + ((bs.length + 31) / 32 : Nat) ∧
        ((∀ x, x < 32 → x < C.cfg.area.toNat * C.cfg.cells.toNat * 32 → byteM (writeM C (ar : Int) bs).1.s C.cfg ar x = 255) ∨ (writeM C (ar : Int) bs).1.acts = dif C (writeM C (ar : Int) bs).1 (2 + ar * C.cfg.area.toNat) C.cfg.area.toNat))) := by
  have hm := ok.may.area
  have eB : (2 + (ar : Int) * C.cfg.area).toNat = 2 + ar * C.cfg.area.toNat := by
    have e1 : (C.cfg.area.toNat : Int) = C.cfg.area := by omega
    have e2 : 2 + (ar : Int) * C.cfg.area = ((2 + ar * C.cfg.area.toNat : Nat) : Int) := by rw [← e1]; simp
    rw [e2, Int.toNat_natCast]
  have W := write_law ok ho ha (ar : Int) hb
  rw [eB] at W
  generalize writeM C (ar : Int) bs = R at *
  obtain ⟨D, e⟩ := R
  dsimp only at *
  rcases W with ⟨_, w1, w2⟩ | ⟨_, _, hl0, hl, W⟩
  · rcases hd with y | y
    · exact absurd y w1
    · exact absurd y w2
  obtain ⟨n, hn⟩ : ∃ n, n = (bs.length + 31) / 32 := ⟨_, rfl⟩
  rw [← hn] at W ⊢
  have hn0 : 0 < n := by omega
  rcases W with ⟨w1, I⟩ | ⟨E, I, P⟩
  · refine ⟨fun y => by omega, fun _ => Or.inr ⟨?_, Or.inr ?_⟩⟩
    · rw [I.acts, ha]; omega
    · rw [I.acts, ha]; omega
  · have hcf : D.cfg = C.cfg := P.cfg.trans I.cfg
    have hby : ∀ x, byteM D.s C.cfg ar x = (cellOf (2 + ar * C.cfg.area.toNat) C.cfg.cells.toNat D (x / 32)).getD (x % 32) 0 := by
      intro x; have := byteM_cell D ar x; rw [hcf] at this; exact this
    have hdif : dif C D (2 + ar * C.cfg.area.toNat) C.cfg.area.toNat = dif C E (2 + ar * C.cfg.area.toNat) C.cfg.area.toNat := dif_er P.es _ _
    have hEa := I.acts
    rw [ha] at hEa
    refine ⟨fun y => ?_, fun y => ?_⟩
    · obtain ⟨_, g⟩ := P.good y
      intro x hx
      rw [hby, g _ (by omega)]
      have := want_cell bs n (x / 32) x hn rfl
      by_cases c : x / 32 < n
      · rw [if_pos ((done_all hn0).2 c)]; rw [if_pos c] at this; exact this
      · rw [if_neg (fun z => c ((done_all hn0).1 z))]; rw [if_neg c] at this; exact this
    · obtain ⟨_, t, t1, t2, t3, g⟩ := P.bad (by omega)
      rw [hdif, t3]
      by_cases c : t = n
      · refine Or.inl ⟨by rw [hEa]; omega, fun x h1 hx => ?_⟩
        subst c
        rw [hby, g _ (by omega) (by rw [Nat.mod_self]; omega)]
        have := want_cell bs t (x / 32) x hn rfl
        by_cases c : x / 32 < t
        · rw [if_pos ((done_most hn0 (by omega)).2 c)]; rw [if_pos c] at this; exact this
        · rw [if_neg (fun z => c ((done_most hn0 (by omega)).1 z))]; rw [if_neg c] at this; exact this
      · refine Or.inr ⟨by rw [hEa]; omega, Or.inl fun x h1 hx => ?_⟩
        have hx0 : x / 32 = 0 := by omega
        rw [hby, hx0, g 0 (by omega) (by rw [Nat.mod_eq_of_lt (by omega)]; omega), if_neg (done_zero (by omega) (by omega))]
        exact ffs_get _ (Nat.mod_lt _ (by decide))
end Go.Proofs.Ytamfkofcpoglnaa
end

/- Contracts of the areas' statements: AreaWrites. Own work. -/
section
set_option maxRecDepth 100000
set_option linter.unusedVariables false
namespace Go.Proofs.Ytamfkofcpoglnaa
open Go Go.Vc

theorem dif_snoc (C D : Cm) (m : Nat) : ∀ B, dif C D B (m + 1) = dif C D B m + (D.er (B + m) - C.er (B + m)) := by
  induction m with
  | zero => intro B; rw [dif_succ]; simp [dif]
  | succ m ih =>
    intro B
    rw [dif_succ, ih, dif_succ C D B m, show B + 1 + m = B + (m + 1) by omega]; omega
/-- What a Write leaves alone. -/
theorem write_frame {C : Cm} (ok : C.ok) (ho : C.out = false) (ha : C.acts = 0) (ar : Int) {bs : List Int} (hb : bytesOk bs) :
    (writeM C ar bs).1.s.blown = C.s.blown ∧ (writeM C ar bs).1.s.pages.length = C.s.pages.length ∧ ((writeM C ar bs).2 ≠ 0 → (writeM C ar bs).2 ≠ 8 → (writeM C ar bs).1 = C) ∧
    ((writeM C ar bs).2 = 0 ∨ (writeM C ar bs).2 = 8 → 0 ≤ ar ∧ ar < 2 ∧ bs.length ≤ C.cfg.area.toNat * C.cfg.cells.toNat * 32) ∧
    (∀ x : Nat, ¬ (0 ≤ ar ∧ ar < 2 ∧ 2 + ar * C.cfg.area ≤ (x : Int) ∧ (x : Int) < 2 + (ar + 1) * C.cfg.area) → (writeM C ar bs).1.pg x = C.pg x) ∧
    ((writeM C ar bs).2 = 0 ∨ (writeM C ar bs).2 = 8 → 0 ≤ dif C (writeM C ar bs).1 (2 + ar * C.cfg.area).toNat C.cfg.area.toNat ∧ dif C (writeM C ar bs).1 (2 + ar * C.cfg.area).toNat C.cfg.area.toNat ≤ 64) := by
  have hm := ok.may.area
  have W := write_law ok ho ha ar hb
  generalize writeM C ar bs = R at *
  obtain ⟨D, e⟩ := R
  dsimp only at *
  have em : (ar + 1) * C.cfg.area = ar * C.cfg.area + C.cfg.area := by rw [Int.add_mul, Int.one_mul]
  rcases W with ⟨rfl, w1, w2⟩ | ⟨a1, a2, hl0, hl, W⟩
  · exact ⟨rfl, rfl, fun _ _ => rfl, fun y => by omega, fun _ _ => rfl, fun y => by omega⟩
  have z : 0 ≤ ar * C.cfg.area := by
    have : ar = 0 ∨ ar = 1 := by omega
    rcases this with rfl | rfl <;> omega
  rcases W with ⟨w1, I⟩ | ⟨E, I, P⟩
  · refine ⟨I.bl, I.np, fun _ y => absurd w1 y, fun _ => ⟨a1, a2, hl⟩, fun x hx => I.pg x (by omega), fun _ => ?_⟩
    have h1 := I.acts
    have h2 := I.ab
    omega
  · refine ⟨P.bl.trans I.bl, P.np.trans I.np, ?_, fun _ => ⟨a1, a2, hl⟩, fun x hx => (P.pg x (by omega)).trans (I.pg x (by omega)), fun _ => ?_⟩
    · intro y1 y2; exact absurd (P.bad y1).1 y2
    · rw [dif_er P.es]
      have h1 := I.acts
      have h2 := I.ab
      omega

theorem Sat.eqA {h0 h : H} {A B : List Ent} (s : Sat h0 A h) (e : B = A) : Sat h0 B h := e ▸ s
section
variable {h0 h : H} {A : List Ent} {i j p r b : Nat} {C : Cm}
theorem AreaWrites_sp {a b c' : Sl} {Q : Bool → H → Prop} {bp xp : Option Addr} {bl bc xl xc : Nat} {bs mask : List Int} (c : Cfg) (s : St) (rd0 : RdS h0 a b c' s) (ty : s.typed) (ar at_ : Int) (hat : at_ < 2 ^ 63)
    (rdb : hsv h0 bp 1 bl (ints .u8 bs)) (bb : bytesOk bs) (bll : bs.length + 4096 ≤ 2 ^ 47) (blc : bl ≤ bc) (rdm : hsv h0 xp 1 xl (ints .u8 mask)) (mb : bytesOk mask) (mll : mask.length + 4096 ≤ 2 ^ 47) (k : ∀ h', Ext none_ h0 h' → Q true h') :
    F_portcullislaw14_AreaWrites c.cells c.slots c.fuses c.step c.keys c.erases c.area a.1 a.2.1 a.2.2 b.1 b.2.1 b.2.2 c'.1 c'.2.1 c'.2.2 ar bp bl bc at_ xp xl xc Q h0 := by
  unfold F_portcullislaw14_AreaWrites G_portcullislaw14_AreaWrites
  have hs := Sat.init h0
  simp only [add_mk, Nat.zero_add, List.append_nil]
  intro n34 _ hn; replace hs := Sat.new hs hn; clear hn
  intro n37 _ hn; replace hs := Sat.new hs hn; clear hn
  have hml : mask.length = xl := by have := rdm.1; simpa using this
  have hbl : bs.length = bl := by have := rdb.1; simpa using this
  refine fixed14_sp hs ?_
  intro h1 hs
  (repeat first | refine ⟨_, Sat.ld hs (by (repeat (first | exact At.z | apply At.s))) (by rfl), ?_⟩ | refine ⟨_, _, _, Sat.ld hs (by (repeat (first | exact At.z | apply At.s))) (by rfl), ?_⟩ | (intro _ _ hn; replace hs := Sat.new hs hn; clear hn) | refine ⟨Sat.cs hs (by (repeat (first | exact At.z | apply At.s))) (by rfl), ?_⟩ | (refine ⟨Sat.can hs (by (repeat (first | exact At.z | apply At.s))) (by simp), ?_⟩; intro _ e; replace hs := Sat.wr hs (by (repeat (first | exact At.z | apply At.s))) e; clear e; simp only [put, splice, List.set] at hs))
  refine Lay_sp (a := a) (b := b) (c' := c') (s := s) c hs (fun h' hs' => rd0.ext hs'.ex) ty ?_ ?_ ?_
  · intro nm h2 hs J hJ
    rw [if_neg (by simp), if_pos (by simp), if_pos (by simp)]
    have := k _ hs.ex
    simpa using this
  · intro m nl h2 hs J hJ
    rw [if_neg (by simp), if_pos (by simp), if_pos (by simp)]
    have := k _ hs.ex
    simpa using this
  intro m lay px h2 hs J hJ
  rw [if_neg (by simp), if_neg (by simp), if_neg (by simp)]
  apply hJ
  clear hJ J
  refine ⟨_, rfl, ?_⟩
  refine Cut_sp hs .z at_ hat (hs.base rdm) mb (by omega) ?_
  intro h3 hs
  simp only [put] at hs
  have okC := chip_ok hs .z
  obtain ⟨C, hC⟩ : ∃ C, C = cutM (layC c s) at_ mask := ⟨_, rfl⟩
  rw [← hC] at hs okC
  have cc : C.cfg = c := by rw [hC]; rfl
  have cs : C.s = s := by rw [hC]; rfl
  have co : C.out = false := by rw [hC]; rfl
  have ca : C.acts = 0 := by rw [hC]; rfl
  clear hC
  refine ⟨_, rfl, ?_⟩
  refine aWrite_sp (bs := bs) hs .z ar (fun D h' hs' => hs'.base rdb) (by omega) blc ?_
  intro h4 hs
  simp only [put] at hs
  obtain ⟨f1, f2, f3, f4, f5, f6⟩ := write_frame okC co ca ar bb
  have says : 0 ≤ ar → _ := fun hr => write_says okC co ca ar.toNat (bs := bs) bb
  have hnn : 0 ≤ ar → ((ar.toNat : Nat) : Int) = ar := fun hr => by omega
  have hcf := write_cfg C ar bs
  have hw : ∀ hr : 0 ≤ ar, writeM C ((ar.toNat : Nat) : Int) bs = writeM C ar bs := fun hr => by rw [hnn hr]
  have says2 := fun hr : 0 ≤ ar => by have := says hr; rw [hw hr] at this; exact this
  clear says hw
  generalize writeM C ar bs = R at *
  obtain ⟨D, e⟩ := R
  dsimp only at *
  rw [cc] at f4 f5 f6 says2 hcf
  have okD := chip_ok hs .z
  have hm := m.area
  have hcl := m.cells
  have hsl := m.slots
  refine ⟨_, rfl, ?_⟩
  refine State_sp hs .z ?_
  intro a1 b1 c1 h5 hs
  replace hs : Sat h0 (matE 32 a1 D.s.pages :: sE b1 1 (ints .i64 D.s.erases) :: sE c1 1 (bools D.s.blown) :: [chipE px D, blk n37 [a.v, b.v, c'.v], blk n34 [.int .i64 c.cells, .int .i64 c.slots, .int .i64 c.fuses, .int .i64 c.step, .int .i64 c.keys, .int .i64 c.erases, .int .i64 c.area]]) h5 := hs
  intro n79 _ hn; replace hs := Sat.new hs hn; clear hn
  (refine ⟨Sat.can hs (by (repeat (first | exact At.z | apply At.s))) (by simp), ?_⟩; intro _ e; replace hs := Sat.wr hs (by (repeat (first | exact At.z | apply At.s))) e; clear e; simp only [put, splice, List.set] at hs)
  intro J84 hJ84
  obtain ⟨L, hL⟩ : ∃ L, L = [blk n79 [a1.v, b1.v, c1.v], matE 32 a1 D.s.pages, sE b1 1 (ints .i64 D.s.erases), sE c1 1 (bools D.s.blown), chipE px D, blk n37 [a.v, b.v, c'.v], blk n34 [.int .i64 c.cells, .int .i64 c.slots, .int .i64 c.fuses, .int .i64 c.step, .int .i64 c.keys, .int .i64 c.erases, .int .i64 c.area]] := ⟨_, rfl⟩
  replace hs := Sat.eqA hs hL
  have t79 : At L 0 (blk n79 [a1.v, b1.v, c1.v]) := by rw [hL]; exact .z
  have t37 : At L 5 (blk n37 [a.v, b.v, c'.v]) := by rw [hL]; exact .s (.s (.s (.s (.s .z))))
  have t34 : At L 6 (blk n34 [.int .i64 c.cells, .int .i64 c.slots, .int .i64 c.fuses, .int .i64 c.step, .int .i64 c.keys, .int .i64 c.erases, .int .i64 c.area]) := by rw [hL]; exact .s (.s (.s (.s (.s (.s .z)))))
  have tC : At L 4 (chipE px D) := by rw [hL]; exact .s (.s (.s (.s .z)))
  have rdD : ∀ h', Sat h0 L h' → RdS h' a1 b1 c1 D.s := fun h' hs' => sat_rdS (hL ▸ hs') (i := 1) (j := 2) (k := 3) (.s .z) (.s (.s .z)) (.s (.s (.s .z)))
  have rdS : ∀ h', Sat h0 L h' → RdS h' a b c' s := fun h' hs' => rd0.ext hs'.ex
  clear hL
  have eD1 := (rdD _ hs).pg.len
  have eS1 := rd0.pg.len
  have hfp := okC.fits.pages
  have hfe := okC.fits.erases
  have hfeD := okD.fits.erases
  have hnp : c.np = 2 + 2 * c.area := rfl
  rw [cc, cs] at hfp hfe
  rw [hcf] at hfeD
  rw [cs] at f1 f2
  have hnpc : D.s.pages.length = s.pages.length := f2
  have hlen : ∀ (t : St) (x : Sl) (h' : H), hsv h' x.1 1 x.2.1 (bools t.blown) → t.blown.length = x.2.1 := fun t x h' g => by have := g.1; simpa using this
  have eD2 := hlen _ _ _ (rdD _ hs).bl
  have eS2 := hlen _ _ _ rd0.bl
  have hblE : D.s.blown.length = s.blown.length := by rw [f1]
  -- the first two tests
  refine ⟨_, _, _, hs.ld t79 rfl, _, _, _, hs.ld t37 rfl, ?_⟩
  rw [if_neg (by simp; omega)]
  refine ⟨_, _, _, hs.ld t79 rfl, _, _, _, hs.ld t37 rfl, ?_⟩
  rw [if_neg (by simp; omega)]
  apply hJ84
  clear hJ84 J84
  intro J86 hJ86
  have hpl : s.pages.length ≤ 130 := by omega
  -- the pages
  refine loop_up s.pages.length (fun _ h => Sat h0 L h) ?_ ?_ 0 _ (by omega) hs
  · intro x h6 hx hs hk
    apply hJ86
    refine ⟨_, _, _, hs.ld t79 rfl, ?_⟩
    rw [ltI_eq, if_pos (by simp; omega)]
    intro J92 hJ92
    have way : ∀ bb : Bool, (bb = false → ¬ (0 ≤ ar ∧ ar < 2 ∧ 2 + ar * c.area ≤ (x : Int) ∧ (x : Int) < 2 + (ar + 1) * c.area)) → ∀ h7, Sat h0 L h7 → J92 [.dv (.one (.bool bb))] h7 := by
      intro bb hbb h7 hs
      apply hJ92
      intro J95 hJ95
      have hsame : D.pg x = C.pg x → J95 [] h7 := by
        intro hsm
        apply hJ95
        clear hJ95 J95
        unfold Cm.pg at hsm
        rw [cs] at hsm
        have hxD : x < D.s.pages.length := by omega
        have e1 : D.s.pages.getD x [] = D.s.pages[x] := by simp [List.getD, List.getElem?_eq_getElem hxD]
        have e2 : s.pages.getD x [] = s.pages[x] := by simp [List.getD, List.getElem?_eq_getElem hx]
        rw [e1, e2] at hsm
        have hrl := okC.fits.cells s.pages[x] (by rw [cs]; exact List.getElem_mem hx)
        rw [cc] at hrl
        intro J97 hJ97
        obtain ⟨q1, x1, hq1, hx1, hrd1⟩ := (rdD _ hs).pg.at hxD
        refine loop_up c.cells.toNat (fun _ h => Sat h0 L h) ?_ ?_ 0 _ (by omega) hs
        · intro y h8 hy hs hk2
          obtain ⟨q1, x1, q1', hq1, hx1, hxl1, hq1', hr1⟩ := (rdD _ hs).pg.cell hxD (k := y) (by rw [hsm]; omega)
          obtain ⟨q2, x2, q2', hq2, hx2, hxl2, hq2', hr2⟩ := (rdS _ hs).pg.cell hx (k := y) (by omega)
          apply hJ97
          rw [hsm] at hxl1
          refine ⟨_, _, _, hs.ld t79 rfl, _, hq1, by omega, by omega, _, _, _, hx1, ?_⟩
          rw [ltI_eq, if_pos (by simp; omega)]
          refine ⟨_, _, _, hs.ld t79 rfl, _, hq1, by omega, by omega, _, _, _, hx1, _, hq1', by omega, by omega, _, cellAt_length (by rw [hsm]; omega), hr1, ?_⟩
          refine ⟨_, _, _, hs.ld t37 rfl, _, hq2, by omega, by omega, _, _, _, hx2, _, hq2', by omega, by omega, _, cellAt_length (by omega), hr2, ?_⟩
          rw [hsm, if_neg (by simp), wrap_succ (by omega)]
          exact hk2 _ hs
        · intro h8 hs
          obtain ⟨q1, x1, hq1, hx1, hrd1⟩ := (rdD _ hs).pg.at hxD
          have hxl1 : x1.2.1 * 32 = D.s.pages[x].length := by have := hrd1.1; simp at this; omega
          rw [hsm] at hxl1
          apply hJ97
          refine ⟨_, _, _, hs.ld t79 rfl, _, hq1, by omega, by omega, _, _, _, hx1, ?_⟩
          rw [ltI_eq, if_neg (by simp; omega), wrap_succ (by omega)]
          exact hk _ hs
      have e5 : (e ≠ 0 ∧ e ≠ 8) ∨ ¬ (e ≠ 0 ∧ e ≠ 8) := Classical.em _
      cases bb with
      | false =>
        rw [if_neg (by simp)]
        exact hsame (f5 x (hbb rfl))
      | true =>
        rw [if_pos rfl]
        by_cases g0 : e = 0
        · rw [if_pos (by simpa using g0), wrap_succ (by omega)]
          exact hk _ hs
        rw [if_neg (by simpa using g0)]
        by_cases g8 : e = 8
        · rw [if_pos (by simpa using g8), wrap_succ (by omega)]
          exact hk _ hs
        rw [if_neg (by simpa using g8)]
        exact hsame (by rw [f3 g0 g8])
    have mul2 : (ar + 1) * c.area = ar * c.area + c.area := by rw [Int.add_mul, Int.one_mul]
    have band : ar = 0 ∨ ar = 1 → ∀ h7, Sat h0 L h7 → ∃ i : Int, hc h7 ⟨n34, 6, none⟩ = some (.int .i64 i) ∧ if leI (IntKind.i64.wrap (2 + IntKind.i64.wrap (ar * i))) (x : Int) = true then ∃ i : Int, hc h7 ⟨n34, 6, none⟩ = some (.int .i64 i) ∧ J92 [.dv (.one (.bool (ltI (x : Int) (IntKind.i64.wrap (2 + IntKind.i64.wrap (IntKind.i64.wrap (ar + 1) * i))))))] h7 else J92 [.dv (.one (.bool false))] h7 := by
      intro har h7 hs
      have z : 0 ≤ ar * c.area ∧ ar * c.area ≤ c.area := by
        rcases har with rfl | rfl <;> omega
      refine ⟨_, hs.ld t34 rfl, ?_⟩
      have w1 : IntKind.i64.wrap (2 + IntKind.i64.wrap (ar * c.area)) = 2 + ar * c.area := by
        rw [wrap_id (n := ar * c.area) (by omega), wrap_id (by omega)]
      have w2 : IntKind.i64.wrap (2 + IntKind.i64.wrap (IntKind.i64.wrap (ar + 1) * c.area)) = 2 + (ar + 1) * c.area := by
        rw [wrap_id (n := ar + 1) (by omega), mul2, wrap_id (n := ar * c.area + c.area) (by omega), wrap_id (by omega)]
      rw [w1, leI_eq]
      by_cases g : 2 + ar * c.area ≤ (x : Int)
      · rw [if_pos (by simpa using g)]
        refine ⟨_, hs.ld t34 rfl, ?_⟩
        rw [w2, ltI_eq]
        refine way _ (fun y => ?_) _ hs
        rw [decide_eq_false_iff_not] at y
        exact fun z => y z.2.2.2
      · rw [if_neg (by simpa using g)]
        exact way false (fun _ z => g z.2.2.1) _ hs
    by_cases g0 : ar = 0
    · rw [if_pos (by simpa using g0)]
      exact band (Or.inl g0) _ hs
    rw [if_neg (by simpa using g0)]
    by_cases g1 : ar = 1
    · rw [if_pos (by simpa using g1)]
      exact band (Or.inr g1) _ hs
    rw [if_neg (by simpa using g1)]
    exact way false (fun _ z => by omega) _ hs
  intro h6 hs
  apply hJ86
  refine ⟨_, _, _, hs.ld t79 rfl, ?_⟩
  rw [ltI_eq, if_neg (by simp; omega)]
  clear hJ86 J86
  intro J135 hJ135
  have hbsz : s.blown.length < 2 ^ 62 := by
    have := okC.small.blown
    rw [cs] at this; omega
  -- the fuses
  refine loop_up s.blown.length (fun _ h => Sat h0 L h) ?_ ?_ 0 _ (by omega) hs
  · intro x h7 hx hs hk
    apply hJ135
    refine ⟨_, _, _, hs.ld t79 rfl, ?_⟩
    rw [ltI_eq, if_pos (by simp; omega)]
    obtain ⟨q1, hq1, g1⟩ := hsv_get (rdD _ hs).bl (i := x) (v := .bool (s.blown[x])) (by rw [f1]; simp [bools, hx])
    obtain ⟨q2, hq2, g2⟩ := hsv_get (rdS _ hs).bl (i := x) (v := .bool (s.blown[x])) (by simp [bools, hx])
    refine ⟨_, _, _, hs.ld t79 rfl, _, hq1, by omega, by omega, _, by simpa using g1, ?_⟩
    refine ⟨_, _, _, hs.ld t37 rfl, _, hq2, by omega, by omega, _, by simpa using g2, ?_⟩
    rw [if_neg (by simp), wrap_succ (by omega)]
    exact hk _ hs
  intro h7 hs
  apply hJ135
  refine ⟨_, _, _, hs.ld t79 rfl, ?_⟩
  rw [ltI_eq, if_neg (by simp; omega)]
  clear hJ135 J135
  intro J151 hJ151
  by_cases ge : e = 0 ∨ e = 8
  case neg =>
    rw [if_pos (by simp; omega), if_pos (by simp; omega)]
    refine ⟨_, rfl, Acts_sp hs tC ?_⟩
    rw [f3 (by omega) (by omega), ca]
    exact k _ hs.ex
  have way : J151 [] h7 := by
    apply hJ151
    clear hJ151 J151
    obtain ⟨ar0, ar2, hbs⟩ := f4 ge
    obtain ⟨d1, d2⟩ := f6 ge
    obtain ⟨sy1, sy2⟩ := says2 ar0 ge
    have hsz : c.area.toNat * c.cells.toNat ≤ 16384 := by
      calc c.area.toNat * c.cells.toNat ≤ 64 * c.cells.toNat := Nat.mul_le_mul_right _ (by omega)
        _ ≤ 16384 := by omega
    have hsize : sizeM c = ((c.area.toNat * c.cells.toNat * 32 : Nat) : Int) := by
      unfold sizeM
      rw [if_pos m]
      have e1 : (c.area.toNat : Int) = c.area := by omega
      have e2 : (c.cells.toNat : Int) = c.cells := by omega
      rw [← e1, ← e2]; simp
    refine ⟨_, hs.ld t34 rfl, _, hs.ld t34 rfl, _, hs.ld t34 rfl, _, hs.ld t34 rfl, _, hs.ld t34 rfl, _, hs.ld t34 rfl, _, hs.ld t34 rfl, ?_⟩
    refine aSize_sp c hs ?_
    intro h8 hs
    rw [hsize]
    have hfpD : (D.s.pages.length : Int) = c.np := by omega
    have hfcD : ∀ l, l ∈ D.s.pages → (l.length : Int) = 32 * c.cells := fun l hl => by have := okD.fits.cells l hl; rw [hcf] at this; exact this
    -- a byte
    have byte : ∀ {Q : Int → H → Prop} (x : Nat) {h' : H}, x < c.area.toNat * c.cells.toNat * 32 → Sat h0 L h' → (∀ h'', Sat h0 L h'' → Q (byteM D.s c ar.toNat x) h'') →
        ∃ (o168 : Option Addr) (n169 n170 : Nat), hc h' ⟨n79, 0, none⟩ = some (.slice o168 n169 n170) ∧ ∃ (o171 : Option Addr) (n172 n173 : Nat), hc h' ⟨n79, 1, none⟩ = some (.slice o171 n172 n173) ∧ ∃ (o174 : Option Addr) (n175 n176 : Nat), hc h' ⟨n79, 2, none⟩ = some (.slice o174 n175 n176) ∧
          ∃ i177 : Int, hc h' ⟨n34, 0, none⟩ = some (.int .i64 i177) ∧ ∃ i178 : Int, hc h' ⟨n34, 1, none⟩ = some (.int .i64 i178) ∧ ∃ i179 : Int, hc h' ⟨n34, 2, none⟩ = some (.int .i64 i179) ∧ ∃ i180 : Int, hc h' ⟨n34, 3, none⟩ = some (.int .i64 i180) ∧
          ∃ i181 : Int, hc h' ⟨n34, 4, none⟩ = some (.int .i64 i181) ∧ ∃ i182 : Int, hc h' ⟨n34, 5, none⟩ = some (.int .i64 i182) ∧ ∃ i183 : Int, hc h' ⟨n34, 6, none⟩ = some (.int .i64 i183) ∧ F_portcullislaw14_byteOf o168 n169 n170 o171 n172 n173 o174 n175 n176 i177 i178 i179 i180 i181 i182 i183 ar (x : Int) Q h' := by
      intro Q x h' hx hs kk
      refine ⟨_, _, _, hs.ld t79 rfl, _, _, _, hs.ld t79 rfl, _, _, _, hs.ld t79 rfl, _, hs.ld t34 rfl, _, hs.ld t34 rfl, _, hs.ld t34 rfl, _, hs.ld t34 rfl, _, hs.ld t34 rfl, _, hs.ld t34 rfl, _, hs.ld t34 rfl, ?_⟩
      have key := byteOf_sp (Q := Q) (a := a1) (b' := b1) (c' := c1) (s := D.s) c m ar.toNat (by omega) x hx hs rdD hfpD hfcD kk
      rw [hnn ar0] at key
      exact key
    have bget : ∀ (x : Nat) {h' : H}, x < bl → Sat h0 L h' → ∃ q, bp = some q ∧ hc h' (q.add x) = some (.int .u8 (bs.getD x 0)) := fun x h' hx hs => hsv_int (hs.base rdb) hx
    obtain ⟨N, hN⟩ : ∃ N, N = c.area.toNat * c.cells.toNat * 32 := ⟨_, rfl⟩
    rw [← hN] at byte sy1 sy2 hbs ⊢
    have hN2 : N ≤ 524288 := by omega
    have hN32 : 32 ≤ N ∨ N = 0 := by omega
    have want1 : ∀ x, x < bl → wantM bs x = bs.getD x 0 := fun x hx => by unfold wantM; rw [if_pos (by omega)]
    have want2 : ∀ x, ¬ x < bl → wantM bs x = 255 := fun x hx => by unfold wantM; rw [if_neg (by omega)]
    intro J162 hJ162
    obtain ⟨M, hM⟩ : ∃ M, M = max N 32 := ⟨_, rfl⟩
    refine loop_st M (fun i (w : Bool) => [.dv (.one (.bool w)), si i]) (fun i w h => Sat h0 L h ∧ 32 ≤ i ∧ (w = true ↔ ∀ x, 32 ≤ x → x < i → byteM D.s c ar.toNat x = wantM bs x)) ?_ ?_ 32 true _ (by omega) ⟨hs, by omega, by simp; omega⟩
    · rintro i w h9 hi ⟨hs, hi32, hw⟩ hk
      have hiN : i < N := by omega
      apply hJ162
      rw [ltI_eq, if_pos (by simp; omega), wrap_succ (by omega)]
      have nx : ∀ (v : Bool) h', Sat h0 L h' → (v = true ↔ (w = true ∧ byteM D.s c ar.toNat i = wantM bs i)) → J162 [.dv (.one (.bool v)), si (i + 1)] h' := fun v h' hs hv => hk v h' ⟨hs, by omega, by
        rw [hv, hw]
        constructor
        · rintro ⟨y1, y2⟩ x x1 x2
          by_cases y : x = i
          · rw [y]; exact y2
          · exact y1 x x1 (by omega)
        · intro y
          exact ⟨fun x x1 x2 => y x x1 (by omega), y i hi32 (by omega)⟩⟩
      by_cases hib : i < bl
      · rw [ltI_eq, if_pos (by simp; omega)]
        obtain ⟨q, hq, hg⟩ := bget i hib hs
        refine ⟨_, hq, by omega, by omega, _, by simpa using hg, ?_⟩
        by_cases w1 : w = true
        · rw [if_pos w1]
          refine byte i hiN hs ?_
          intro h10 hs
          refine nx _ _ hs ?_
          rw [beq_iff_eq, want1 i hib]; simp [w1]
        · rw [if_neg w1]
          exact nx _ _ hs (by simp [w1])
      · rw [ltI_eq, if_neg (by simp; omega)]
        by_cases w1 : w = true
        · rw [if_pos w1]
          refine byte i hiN hs ?_
          intro h10 hs
          refine nx _ _ hs ?_
          rw [beq_iff_eq, want2 i hib]; simp [w1]
        · rw [if_neg w1]
          exact nx _ _ hs (by simp [w1])
    rintro w h9 ⟨hs, _, hw⟩
    apply hJ162
    rw [ltI_eq, if_neg (by simp; omega)]
    clear hJ162 J162
    intro J204 hJ204 J238 hJ238
    obtain ⟨M2, hM2⟩ : ∃ M, M = min N 32 := ⟨_, rfl⟩
    refine loop_st M2 (fun i (w : Bool × Bool) => [.dv (.one (.bool w.1)), .dv (.one (.bool w.2)), si i]) (fun i w h => Sat h0 L h ∧ (w.1 = true ↔ ∀ x, x < i → byteM D.s c ar.toNat x = wantM bs x) ∧ (w.2 = true ↔ ∀ x, x < i → byteM D.s c ar.toNat x = 255)) ?_ ?_ 0 (true, true) _ (by omega) ⟨hs, by simp, by simp⟩
    · rintro i ⟨w1, w2⟩ h10 hi ⟨hs, hw1, hw2⟩ hk
      dsimp only at hw1 hw2
      have hiN : i < N := by omega
      apply hJ238
      intro J243 hJ243
      rw [ltI_eq, if_pos (by simp; omega), ltI_eq, if_pos (by simp; omega)]
      apply hJ243
      rw [wrap_succ (by omega)]
      have ext : ∀ (v w : Bool) (P : Nat → Prop), (w = true ↔ ∀ x, x < i → P x) → (v = true ↔ (w = true ∧ P i)) → (v = true ↔ ∀ x, x < i + 1 → P x) := by
        intro v w P h1 h2
        rw [h2, h1]
        constructor
        · rintro ⟨y1, y2⟩ x x2
          by_cases y : x = i
          · rw [y]; exact y2
          · exact y1 x (by omega)
        · intro y
          exact ⟨fun x x2 => y x (by omega), y i (by omega)⟩
      have nx : ∀ (v1 v2 : Bool) h', Sat h0 L h' → (v1 = true ↔ (w1 = true ∧ byteM D.s c ar.toNat i = wantM bs i)) → (v2 = true ↔ (w2 = true ∧ byteM D.s c ar.toNat i = 255)) → J238 [.dv (.one (.bool v1)), .dv (.one (.bool v2)), si (i + 1)] h' :=
        fun v1 v2 h' hs hv1 hv2 => hk (v1, v2) h' ⟨hs, ext _ _ _ hw1 hv1, ext _ _ _ hw2 hv2⟩
      by_cases hib : i < bl
      · rw [ltI_eq, if_pos (by simp; omega)]
        obtain ⟨q, hq, hg⟩ := bget i hib hs
        refine ⟨_, hq, by omega, by omega, _, by simpa using hg, ?_⟩
        refine byte i hiN hs ?_
        intro h11 hs
        rw [want1 i hib] at nx
        cases w1 <;> cases w2 <;> simp only [if_true, if_false, Bool.false_eq_true] <;> refine nx _ _ _ hs ?_ ?_ <;> simp
      · rw [ltI_eq, if_neg (by simp; omega)]
        refine byte i hiN hs ?_
        intro h11 hs
        rw [want2 i hib] at nx
        cases w1 <;> cases w2 <;> simp only [if_true, if_false, Bool.false_eq_true] <;> refine nx _ _ _ hs ?_ ?_ <;> simp
    rintro ⟨w1, w2⟩ h10 ⟨hs, hw1, hw2⟩
    dsimp only at hw1 hw2
    apply hJ238
    intro J243 hJ243
    have fin : J204 [.dv (.one (.bool w1)), .dv (.one (.bool w2))] h10 := by
      apply hJ204
      clear hJ204 J204 hJ238 J238 hJ243 J243
      by_cases g0 : e = 0
      · have hwt : w = true := hw.2 fun x x1 x2 => sy1 g0 x (by omega)
        have hw1t : w1 = true := hw1.2 fun x x2 => sy1 g0 x (by omega)
        rw [if_pos (by simpa using g0), if_pos hwt, hw1t]
        exact k _ hs.ex
      have g8 : e = 8 := by omega
      have S := sy2 g8
      rw [if_neg (by simpa using g0)]
      refine ⟨by decide, ?_⟩
      intro J208 hJ208
      have eB : (2 + ar * c.area).toNat = 2 + ar.toNat * c.area.toNat := by
        have e1 : (c.area.toNat : Int) = c.area := by omega
        have e2 : 2 + ar * c.area = ((2 + ar.toNat * c.area.toNat : Nat) : Int) := by
          rw [← e1, ← hnn ar0]; simp
        rw [e2, Int.toNat_natCast]
      rw [eB] at d1 d2
      have z : ar.toNat * c.area.toNat ≤ c.area.toNat := by
        have : ar.toNat = 0 ∨ ar.toNat = 1 := by omega
        rcases this with y | y <;> rw [y] <;> omega
      have ez : ar * c.area = ((ar.toNat * c.area.toNat : Nat) : Int) := by
        have e1 : (c.area.toNat : Int) = c.area := by omega
        rw [Int.natCast_mul, e1, hnn ar0]
      generalize ar.toNat * c.area.toNat = aa at *
      generalize hdf : dif C D (2 + aa) c.area.toNat = df at *
      refine loop_st c.area.toNat (fun p (t : Int) => [.dv (.one (.int .i64 t)), si p]) (fun p t h => Sat h0 L h ∧ t = IntKind.i64.wrap (dif C D (2 + aa) p)) ?_ ?_ 0 0 _ (by omega) ⟨hs, by unfold dif; decide⟩
      · rintro p t h11 hp ⟨hs, ht⟩ hk
        apply hJ208
        refine ⟨_, hs.ld t34 rfl, ?_⟩
        rw [ltI_eq, if_pos (by simp; omega)]
        have w1 : IntKind.i64.wrap (IntKind.i64.wrap (2 + IntKind.i64.wrap (ar * c.area)) + (p : Int)) = ((2 + aa + p : Nat) : Int) := by
          rw [ez, wrap_id (n := (aa : Int)) (by omega), wrap_id (n := 2 + (aa : Int)) (by omega), wrap_id (by omega)]; omega
        have le1 : D.s.erases.length = b1.2.1 := by have := (rdD _ hs).er.1; simpa using this
        have le2 : s.erases.length = b.2.1 := by have := (rdS _ hs).er.1; simpa using this
        obtain ⟨q1, hq1, r1⟩ := hsv_int (rdD _ hs).er (x := 2 + aa + p) (by omega)
        obtain ⟨q2, hq2, r2⟩ := hsv_int (rdS _ hs).er (x := 2 + aa + p) (by omega)
        refine ⟨_, _, _, hs.ld t79 rfl, _, hs.ld t34 rfl, ?_⟩
        rw [w1]
        refine ⟨_, hq1, by omega, by omega, _, by rw [Int.toNat_natCast, Nat.mul_one]; exact r1, _, _, _, hs.ld t37 rfl, _, hs.ld t34 rfl, ?_⟩
        rw [w1]
        refine ⟨_, hq2, by omega, by omega, _, by rw [Int.toNat_natCast, Nat.mul_one]; exact r2, ?_⟩
        rw [wrap_succ (by omega)]
        refine hk _ _ ⟨hs, ?_⟩
        rw [dif_snoc, ht]
        unfold Cm.er
        rw [cs]
        generalize dif C D (2 + aa) p = dd
        generalize D.s.erases.getD (2 + aa + p) 0 = u1
        generalize s.erases.getD (2 + aa + p) 0 = u2
        rw [IntKind.wrap_i64, IntKind.wrap_i64, IntKind.wrap_i64, IntKind.wrap_i64]
        omega
      rintro t h11 ⟨hs, ht⟩
      apply hJ208
      refine ⟨_, hs.ld t34 rfl, ?_⟩
      rw [ltI_eq, if_neg (by simp; omega)]
      rw [hdf, wrap_id (by omega)] at ht
      have en : IntKind.i64.wrap ((IntKind.i64.wrap ((bl : Int) + 31)).tdiv 32) = (((bs.length + 31) / 32 : Nat) : Int) := by
        rw [wrap_id (n := (bl : Int) + 31) (by omega), Int.tdiv_eq_ediv_of_nonneg (by omega), wrap_id (by omega)]; omega
      rw [en, ht, wrap_id (by omega)]
      refine ⟨_, rfl, Acts_sp hs tC ?_⟩
      by_cases ga : D.acts = df + (((bs.length + 31) / 32 : Nat) : Int)
      · rw [if_pos (by simpa using ga)]
        have hwt : w = true := by
          rcases S with ⟨_, S⟩ | ⟨S, _⟩
          · exact hw.2 fun x x1 x2 => S x x1 (by omega)
          · omega
        rw [hwt]
        exact k _ hs.ex
      rw [if_neg (by simpa using ga)]
      refine ⟨_, rfl, Acts_sp hs tC ?_⟩
      rcases S with ⟨S, _⟩ | ⟨S, S2⟩
      · exact absurd S ga
      rw [ltI_eq, if_pos (by simpa using S)]
      split
      · exact k _ hs.ex
      rename_i gb
      refine ⟨_, rfl, Acts_sp hs tC ?_⟩
      rcases S2 with S2 | S2
      · exact absurd (hw2.2 fun x x2 => S2 x (by omega) (by omega)) gb
      · rw [S2, beq_self_eq_true]
        exact k _ hs.ex
    rw [ltI_eq]
    split
    · rw [ltI_eq, if_neg ?_]
      · exact fin
      · rename_i g
        simp at g ⊢; omega
    · exact fin
  by_cases g0 : e = 0
  · rw [if_neg (by simpa using g0)]
    exact way
  · rw [if_pos (by simpa using g0), if_neg (by simp; omega)]
    exact way
end
end Go.Proofs.Ytamfkofcpoglnaa
end

/- AreaWrites: what a Write leaves, whole or cut; the first cell last; for every input. -/
section
set_option maxRecDepth 100000
set_option linter.unusedVariables false
namespace Go.Proofs.Ytamfkofcpoglnaa
open Go Go.Vc Go.ChangeShapes Go.WideShapes Go.ChangeAt Go.RowKit

theorem AreaWrites_calls {D : Type} {enc : TypeId × Value → D} {W : World} {base : Nat} (vs : List Value) (h : ArgsOk enc PP W base [23, 40, 3, 43, 3, 43] vs) : CallsTrue PP 12 vs W := by
  obtain ⟨hl, h⟩ := h
  match vs, hl with
  | [v0, v1, v2, v3, v4, v5], _ =>
  obtain ⟨r0, w0⟩ := h 0 _ v0 rfl rfl
  obtain ⟨r1, w1⟩ := h 1 _ v1 rfl rfl
  obtain ⟨r2, w2⟩ := h 2 _ v2 rfl rfl
  obtain ⟨r3, w3⟩ := h 3 _ v3 rfl rfl
  obtain ⟨r4, w4⟩ := h 4 _ v4 rfl rfl
  obtain ⟨r5, w5⟩ := h 5 _ v5 rfl rfl
  obtain ⟨c, rfl⟩ := cfg_of r0 w0
  obtain ⟨a, b, c', s, rfl, rd, ty, sm⟩ := chip_of r1 w1
  obtain ⟨x2, rfl, b2⟩ := int_of (by kernel_rfl) r2 w2
  obtain ⟨p3, l3, c3, rfl, hsl3⟩ := slice_of (e := 5) (by kernel_rfl) r3 w3
  obtain ⟨bs, s1, s2, s3⟩ := bytes_of hsl3
  obtain ⟨x4, rfl, b4⟩ := int_of (by kernel_rfl) r4 w4
  obtain ⟨p, l, cc, rfl, hsl⟩ := slice_of (e := 5) (by kernel_rfl) r5 w5
  obtain ⟨mask, m1, m2, m3⟩ := bytes_of hsl
  have := R_portcullislaw14_AreaWrites [.agg (c.vals.map .c), .agg [.c a.v, .c b.v, .c c'.v], .one (.int .i64 x2), .one (.slice p3 l3 c3), .one (.int .i64 x4), .one (.slice p l cc)] (fun rs h' => rs = [DV.one (.bool true)] ∧ Ext none_ W.heap h') W.heap (by
    intro x hx
    simp only [List.mem_cons, List.not_mem_nil, or_false] at hx
    rcases hx with rfl | rfl | rfl | rfl | rfl | rfl
    · exact ok_cfg c
    · exact ok_chip a b c'
    all_goals rfl) (by
    show F_portcullislaw14_AreaWrites c.cells c.slots c.fuses c.step c.keys c.erases c.area a.1 a.2.1 a.2.2 b.1 b.2.1 b.2.2 c'.1 c'.2.1 c'.2.2 x2 p3 l3 c3 x4 p l cc (fun b h' => [DV.one (.bool b)] = [DV.one (.bool true)] ∧ Ext none_ W.heap h') W.heap
    exact AreaWrites_sp c s rd ty x2 x4 b4.2 s1 s2 s3 hsl3.1 m1 m2 m3 fun h' x => ⟨rfl, x⟩)
  exact this
theorem AreaWrites_lifted (os : Os) (started : os.Started) (D : Type) (enc : TypeId × Value → D) :
    ReturnsInHanded {} Try.checked os 12 .any (Rows.areaWritesSpec.pre6 enc Try.prog Try.f12 Rows.areaWritesRow.domain false) (Rows.areaWritesSpec.post enc Try.prog Try.f12 false true false false) := by
  refine returnsInHanded_of_change_sized (C := Try.checked) Try.own started (by kernel_rfl) Try.func12
    (ChangeSpec.witness6 (enc := enc) (C := Try.checked) false ⟨#[], #[.agg #[.int .i64 0, .int .i64 0, .int .i64 0, .int .i64 0, .int .i64 0, .int .i64 0, .int .i64 0], .agg #[.slice none 0 0, .slice none 0 0, .slice none 0 0], .int .i64 0, .slice none 0 0, .int .i64 0, .slice none 0 0], []⟩ 8 (by kernel_rfl) (by kernel_rfl) (by kernel_rfl) (by kernel_rfl)) ?_
  intro W base args ds gs before hval hW hcnd hsz _
  exact law_go (P := Try.prog) (fn := Try.f12) (s := Rows.areaWritesSpec) [23, 40, 3, 43, 3, 43] (by kernel_rfl) Try.laidOut rfl (by kernel_rfl) (by kernel_rfl) Try.ubool
    (fun ds hl => match ds, hl with | [d1, d2, d3, d4, d5, d6], _ => rfl) hval hW hsz AreaWrites_calls

theorem AreaWrites_holds : Rows.AreaWritesSaid :=
  OpenClaim.holds_of_wide 12 Try.f12 rfl rfl rfl rfl rfl rfl rfl ⟨rfl, rfl, rfl, rfl, rfl⟩ rfl rfl rfl rfl rfl (by kernel_rfl) Try.func12 (by kernel_rfl)
    (of_decide_eq_true (by kernel_rfl)) (by unfold Func.isWrapper; first | (rw [if_pos (by decide +kernel)]; kernel_rfl) | (rw [if_neg (by decide +kernel)]; exact ⟨rfl, rfl⟩))
    (fun os started H enc _ => AreaWrites_lifted os started H enc)

end Go.Proofs.Ytamfkofcpoglnaa
end
