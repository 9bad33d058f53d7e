/- Contracts of the fuses' statements: FuseRises. Own work. -/
import Derived.Test.YtamfkofcpoglnaaFa7
import Derived.Test.YtamfkofcpoglnaaFu4
set_option autoImplicit false
set_option linter.all false
set_option maxRecDepth 100000
set_option linter.unusedVariables false
namespace Go.Proofs.Ytamfkofcpoglnaa
open Go Go.Vc

section
variable {h0 h : H} {A : List Ent} {i j p r : Nat} {C : Cm}
theorem FuseRises_sp {a b c' : Sl} {Q : Bool → H → Prop} (c : Cfg) (s : St) (rd0 : RdS h0 a b c' s) (ty : s.typed) (slot n at_ mask : Int) (hn : -(2 ^ 63) ≤ n ∧ n < 2 ^ 63) (hat : at_ < 2 ^ 63) (hmask : isByte mask) (k : ∀ h', Ext none_ h0 h' → Q true h') :
    F_portcullislaw07_FuseRises c.cells c.slots c.fuses c.step c.keys c.erases c.area a.1 a.2.1 a.2.2 b.1 b.2.1 b.2.2 c'.1 c'.2.1 c'.2.2 slot n at_ mask Q h0 := by
  unfold F_portcullislaw07_FuseRises G_portcullislaw07_FuseRises
  have hs := Sat.init h0
  simp only [add_mk, Nat.zero_add, List.append_nil]
  intro n1 _ hn; replace hs := Sat.new hs hn; clear hn
  intro n2 _ hn; replace hs := Sat.new hs hn; clear hn
  refine fixed7_sp hs ?_
  intro h1 hs
  (repeat first | refine ⟨_, Sat.ld hs (by (repeat (first | exact At.z | apply At.s))) (by rfl), ?_⟩ | refine ⟨_, _, _, Sat.ld hs (by (repeat (first | exact At.z | apply At.s))) (by rfl), ?_⟩ | (intro _ _ hn; replace hs := Sat.new hs hn; clear hn) | refine ⟨Sat.cs hs (by (repeat (first | exact At.z | apply At.s))) (by rfl), ?_⟩ | (refine ⟨Sat.can hs (by (repeat (first | exact At.z | apply At.s))) (by simp), ?_⟩; intro _ e; replace hs := Sat.wr hs (by (repeat (first | exact At.z | apply At.s))) e; clear e; simp only [put, splice, List.set] at hs))
  refine Lay_sp (a := a) (b := b) (c' := c') (s := s) c hs (fun h' hs' => rd0.ext hs'.ex) ty ?_ ?_ ?_
  · intro nm h2 hs J hJ
    rw [if_neg (by simp), if_pos (by simp), if_pos (by simp)]
    have := k _ hs.ex
    simpa using this
  · intro m nl h2 hs J hJ
    rw [if_neg (by simp), if_pos (by simp), if_pos (by simp)]
    have := k _ hs.ex
    simpa using this
  intro m l pc h2 hs J hJ
  rw [if_neg (by simp), if_neg (by simp), if_neg (by simp)]
  apply hJ
  clear hJ J
  have ok0 := layC_ok m l ty
  obtain ⟨C0, hC0⟩ : ∃ C0, C0 = layC c s := ⟨_, rfl⟩
  rw [← hC0] at hs ok0
  have c0c : C0.cfg = c := by rw [hC0]; rfl
  have c0s : C0.s = s := by rw [hC0]; rfl
  have c0o : C0.out = false := by rw [hC0]; rfl
  have c0a : C0.acts = 0 := by rw [hC0]; rfl
  refine ⟨_, rfl, ?_⟩
  refine Count_sp hs .z slot ?_
  intro h3 hs J hJ
  by_cases s1 : slot < 0
  · rw [ltI_eq, if_pos (by simpa using s1)]
    have e2 : (countM C0 slot).2 = 2 := by
      unfold countM; rw [askedM_neg c0o s1]; rfl
    rw [e2]
    exact k _ hs.ex
  rw [ltI_eq, if_neg (by simpa using s1)]
  refine ⟨_, Sat.ld hs (by (repeat (first | exact At.z | apply At.s))) (by rfl), ?_⟩
  by_cases s2 : c.slots ≤ slot
  · rw [leI_eq, if_pos (by simpa using s2)]
    have e2 : (countM C0 slot).2 = 2 := by
      unfold countM; rw [askedM_hi c0o (by rw [c0c]; exact s2)]; rfl
    rw [e2]
    exact k _ hs.ex
  rw [leI_eq, if_neg (by simpa using s2)]
  apply hJ
  clear hJ J
  have hin1 : 0 ≤ slot := by omega
  have hin2 : slot < c.slots := by omega
  have hr0 := row_in ok0 hin1 (by rw [c0c]; exact hin2)
  rw [c0c, c0s] at hr0
  obtain ⟨e1, e2, e3, e4, e5, e6⟩ := hr0
  have ec : ∀ D : Cm, D.cfg = c → D.out = false → countM D slot = (((cnt D.s.blown (slot * c.fuses).toNat c.fuses.toNat : Nat) : Int), (0 : Int)) := by
    intro D h1 h2
    unfold countM
    rw [h1, askedM_in h2 hin1 hin2, if_neg (by simp)]
  have er : ∀ D : Cm, D.cfg = c → D.out = false → raiseM D slot n = if n < 0 then (D, 2) else if c.fuses < n then (D, 2) else raiseL (slot * c.fuses).toNat c.fuses.toNat n c.fuses.toNat D := by
    intro D h1 h2
    unfold raiseM
    rw [h1, askedM_in h2 hin1 hin2, if_neg (by simp)]
  generalize hf : c.fuses.toNat = f at *
  generalize ha : (slot * c.fuses).toNat = ao at *
  intro n3 _ hn; replace hs := Sat.new hs hn; clear hn
  refine ⟨_, rfl, ?_⟩
  refine Cut_sp (bs := [mask]) hs (.s .z) at_ hat (hs.bv .z (by simp) (by simp)) (by intro x hx; simp at hx; subst hx; exact hmask) (by decide) ?_
  intro h4 hs
  obtain ⟨C1, hC1⟩ : ∃ C1, C1 = cutM C0 at_ [mask] := ⟨_, rfl⟩
  replace hs : Sat h0 (blk n3 [.int .u8 mask] :: chipE pc C1 :: blk n2 [a.v, b.v, c'.v] :: [blk n1 [.int .i64 c.cells, .int .i64 c.slots, .int .i64 c.fuses, .int .i64 c.step, .int .i64 c.keys, .int .i64 c.erases, .int .i64 c.area]]) h4 := by rw [hC1]; exact hs
  have c1c : C1.cfg = c := by rw [hC1]; exact c0c
  have c1s : C1.s = s := by rw [hC1]; exact c0s
  have c1o : C1.out = false := by rw [hC1]; exact c0o
  have c1a : C1.acts = 0 := by rw [hC1]; exact c0a
  have c1l : C1.left = if at_ > -1 then at_ else -1 := by rw [hC1]; rfl
  refine ⟨_, rfl, ?_⟩
  refine Raise_sp hs (.s .z) slot n ?_
  intro h5 hs
  rw [er C1 c1c c1o] at hs ⊢
  rw [ec C0 c0c c0o] at ⊢
  dsimp only
  rw [c0s]
  by_cases q1 : n < 0
  · rw [if_pos q1] at hs ⊢
    intro J hJ
    rw [ltI_eq, if_pos (by simpa using q1), if_pos (by simp)]
    refine ⟨_, rfl, ?_⟩
    refine Acts_sp hs (i := 1) (.s .z) ?_
    dsimp only
    rw [c1a]
    exact k _ hs.ex
  rw [if_neg q1] at hs ⊢
  by_cases q2 : c.fuses < n
  · rw [if_pos q2] at hs ⊢
    intro J hJ
    rw [ltI_eq, if_neg (by simpa using q1)]
    refine ⟨_, Sat.ld hs (by (repeat (first | exact At.z | apply At.s))) (by rfl), ?_⟩
    rw [ltI_eq, if_pos (by simpa using q2), if_pos (by simp)]
    refine ⟨_, rfl, ?_⟩
    refine Acts_sp hs (i := 1) (.s .z) ?_
    dsimp only
    rw [c1a]
    exact k _ hs.ex
  rw [if_neg q2] at hs ⊢
  have hcl := cnt_le s.blown ao f
  have R := raised ao f n (by omega) f C1 c1o (by rw [c1l]; split <;> omega) (by rw [c1s]; omega) (by omega)
  generalize raiseL ao f n f C1 = X at *
  obtain ⟨D, ee⟩ := X
  dsimp only at hs R ⊢
  have hcl3 : (f : Int) ≤ 64 := by omega
  rw [wrap_id (n := n - _) (by omega)]
  have emiss : IntKind.i64.wrap ((cnt s.blown ao f : Int) + (if n - (cnt s.blown ao f : Int) > 0 then n - (cnt s.blown ao f : Int) else 0)) = max n (cnt s.blown ao f) := by
    rw [wrap_id (by split <;> omega)]; split <;> omega
  rw [emiss]
  intro J hJ
  rw [ltI_eq, if_neg (by simpa using q1)]
  refine ⟨_, Sat.ld hs (by (repeat (first | exact At.z | apply At.s))) (by rfl), ?_⟩
  rw [ltI_eq, if_neg (by simpa using q2)]
  apply hJ
  clear hJ J
  refine ⟨_, rfl, ?_⟩
  refine Restore_sp hs (i := 1) (.s .z) ?_
  intro h6 hs
  refine ⟨_, rfl, ?_⟩
  refine Cut_sp (i := 1) (bs := []) hs (.s .z) (-1) (by decide) ⟨rfl, fun v hv => absurd hv List.not_mem_nil, Or.inl rfl⟩ (by intro x hx; simp at hx) (by decide) ?_
  intro h7 hs
  obtain ⟨C2, hC2⟩ : ∃ C2, C2 = cutM { D with out := false } (-1) [] := ⟨_, rfl⟩
  replace hs : Sat h0 (blk n3 [.int .u8 mask] :: chipE pc C2 :: blk n2 [a.v, b.v, c'.v] :: [blk n1 [.int .i64 c.cells, .int .i64 c.slots, .int .i64 c.fuses, .int .i64 c.step, .int .i64 c.keys, .int .i64 c.erases, .int .i64 c.area]]) h7 := by rw [hC2]; exact hs
  have c2c : C2.cfg = c := by rw [hC2]; exact R.cfg.trans c1c
  have c2s : C2.s = D.s := by rw [hC2]; rfl
  have c2o : C2.out = false := by rw [hC2]; rfl
  have c2l : C2.left = -1 := by rw [hC2]; rfl
  refine ⟨_, rfl, ?_⟩
  refine Count_sp hs (i := 1) (.s .z) slot ?_
  intro h8 hs J hJ
  rw [ec C2 c2c c2o, c2s]
  dsimp only
  have R4 := R.ge; have R5 := R.le; have R6 := R.good; have R7 := R.bad; have R8 := R.len
  rw [c1s] at R4 R5 R6 R7 R8
  rw [c1l] at R7
  have hcl2 := cnt_le D.s.blown ao f
  -- the second half
  have half : J [] h8 := by
    apply hJ
    clear hJ J
    refine ⟨_, rfl, ?_⟩
    refine Raise_sp hs (i := 1) (.s .z) slot n ?_
    intro h9 hs
    rw [er C2 c2c c2o, if_neg q1, if_neg q2] at hs ⊢
    have S := raised ao f n (by omega) f C2 c2o (by rw [c2l]; omega) (by rw [c2s, R8]; omega) (by rw [c2s]; omega)
    generalize raiseL ao f n f C2 = Y at *
    obtain ⟨E, e9⟩ := Y
    dsimp only at hs S ⊢
    have S4 := S.ge; have S5 := S.le; have S6 := S.good; have S7 := S.bad; have S8 := S.len
    rw [c2s] at S4 S5 S6 S7 S8
    have z9 : e9 = 0 := by
      by_cases x : e9 = 0
      · exact x
      · have := S7 x; rw [c2l] at this; omega
    have S6 := S6 z9
    refine ⟨_, rfl, ?_⟩
    have oE : E.out = false := S.on z9
    have cE : E.cfg = c := S.cfg.trans c2c
    refine Count_sp hs (i := 1) (.s .z) slot ?_
    intro h10 hs
    rw [ec E cE oE]
    refine ⟨_, rfl, ?_⟩
    refine State_sp (i := 1) hs (.s .z) ?_
    intro a1 b1 c1 h11 hs
    replace hs : Sat h0 (matE 32 a1 E.s.pages :: sE b1 1 (ints .i64 E.s.erases) :: sE c1 1 (bools E.s.blown) :: blk n3 [.int .u8 mask] :: chipE pc E :: blk n2 [a.v, b.v, c'.v] :: [blk n1 [.int .i64 c.cells, .int .i64 c.slots, .int .i64 c.fuses, .int .i64 c.step, .int .i64 c.keys, .int .i64 c.erases, .int .i64 c.area]]) h11 := hs
    intro n4 _ hn; replace hs := Sat.new hs hn; clear hn
    (refine ⟨Sat.can hs (by (repeat (first | exact At.z | apply At.s))) (by simp), ?_⟩; intro _ e; replace hs := Sat.wr hs (by (repeat (first | exact At.z | apply At.s))) e; clear e; simp only [put, splice, List.set] at hs)
    intro J hJ
    have lT : E.s.blown.length = s.blown.length := by rw [S8, R8]
    have rdT : ∀ h', Sat h0 _ h' → RdS h' a1 b1 c1 E.s := fun h' (hs' : Sat h0 (blk n4 [a1.v, b1.v, c1.v] :: matE 32 a1 E.s.pages :: sE b1 1 (ints .i64 E.s.erases) :: sE c1 1 (bools E.s.blown) :: blk n3 [.int .u8 mask] :: chipE pc E :: blk n2 [a.v, b.v, c'.v] :: [blk n1 [.int .i64 c.cells, .int .i64 c.slots, .int .i64 c.fuses, .int .i64 c.step, .int .i64 c.keys, .int .i64 c.erases, .int .i64 c.area]]) h') => sat_rdS hs' (i := 1) (j := 2) (k := 3) (by (repeat (first | exact At.z | apply At.s))) (by (repeat (first | exact At.z | apply At.s))) (by (repeat (first | exact At.z | apply At.s)))
    have lc1 : E.s.blown.length = c1.2.1 := by have := (rdT _ hs).bl.1; simpa using this
    have lc0 : s.blown.length = c'.2.1 := by have := rd0.bl.1; simpa using this
    have efar : IntKind.i64.wrap (IntKind.i64.wrap (slot + 1) * c.fuses) = ((ao + f : Nat) : Int) := by
      have hsl := m.slots
      rw [wrap_id (n := slot + 1) (by omega), Int.add_mul, wrap_id (by omega)]; omega
    refine loop_up c1.2.1 (fun _ h => Sat h0 (blk n4 [a1.v, b1.v, c1.v] :: matE 32 a1 E.s.pages :: sE b1 1 (ints .i64 E.s.erases) :: sE c1 1 (bools E.s.blown) :: blk n3 [.int .u8 mask] :: chipE pc E :: blk n2 [a.v, b.v, c'.v] :: [blk n1 [.int .i64 c.cells, .int .i64 c.slots, .int .i64 c.fuses, .int .i64 c.step, .int .i64 c.keys, .int .i64 c.erases, .int .i64 c.area]]) h) ?_ ?_ 0 _ (by omega) hs
    · intro x h12 hx hs hk
      apply hJ
      have xt : x < E.s.blown.length := by omega
      have xs : x < s.blown.length := by omega
      obtain ⟨u1, u2, u3⟩ := hsv_get (rdT _ hs).bl (i := x) (v := .bool (E.s.blown.getD x false)) (by rw [bools_get, List.getElem?_eq_getElem xt]; simp [List.getD, List.getElem?_eq_getElem xt])
      obtain ⟨v1, v2, v3⟩ := hsv_get (hs.base rd0.bl) (i := x) (v := .bool (s.blown.getD x false)) (by rw [bools_get, List.getElem?_eq_getElem xs]; simp [List.getD, List.getElem?_eq_getElem xs])
      have hsame : x < ao ∨ ao + f ≤ x → E.s.blown.getD x false = s.blown.getD x false := by
        intro y
        rw [S.same x y, c2s, R.same x y, c1s]
      have hup : s.blown.getD x false = true → E.s.blown.getD x false = true := by
        intro y
        refine S.up x ?_
        rw [c2s]
        refine R.up x ?_
        rw [c1s]; exact y
      refine ⟨_, _, _, Sat.ld hs (by (repeat (first | exact At.z | apply At.s))) (by rfl), ?_⟩
      rw [ltI_eq, if_pos (by simp; omega)]
      refine ⟨_, Sat.ld hs (by (repeat (first | exact At.z | apply At.s))) (by rfl), ?_⟩
      rw [← e1, wrap_id (n := (ao : Int)) (by omega)]
      by_cases g1 : x < ao
      · rw [ltI_eq, if_pos (by simp; omega)]
        refine ⟨_, _, _, Sat.ld hs (by (repeat (first | exact At.z | apply At.s))) (by rfl), ?_⟩
        refine ⟨_, u2, by omega, by omega, _, by rw [Int.toNat_natCast, Nat.mul_one]; exact u3, ?_⟩
        refine ⟨_, _, _, Sat.ld hs (by (repeat (first | exact At.z | apply At.s))) (by rfl), ?_⟩
        refine ⟨_, v2, by omega, by omega, _, by rw [Int.toNat_natCast, Nat.mul_one]; exact v3, ?_⟩
        rw [if_neg (by rw [hsame (Or.inl g1)]; simp)]
        refine ⟨_, _, _, Sat.ld hs (by (repeat (first | exact At.z | apply At.s))) (by rfl), ?_⟩
        refine ⟨_, v2, by omega, by omega, _, by rw [Int.toNat_natCast, Nat.mul_one]; exact v3, ?_⟩
        split
        · rename_i g3
          refine ⟨_, _, _, Sat.ld hs (by (repeat (first | exact At.z | apply At.s))) (by rfl), ?_⟩
          refine ⟨_, u2, by omega, by omega, _, by rw [Int.toNat_natCast, Nat.mul_one]; exact u3, ?_⟩
          rw [if_neg (by rw [hup g3]; simp), wrap_succ (by omega)]
          exact hk _ hs
        · rw [wrap_succ (by omega)]
          exact hk _ hs
      rw [ltI_eq, if_neg (by simp; omega)]
      refine ⟨_, Sat.ld hs (by (repeat (first | exact At.z | apply At.s))) (by rfl), ?_⟩
      rw [efar]
      by_cases g2 : ao + f ≤ x
      · rw [leI_eq, if_pos (by simp; omega)]
        refine ⟨_, _, _, Sat.ld hs (by (repeat (first | exact At.z | apply At.s))) (by rfl), ?_⟩
        refine ⟨_, u2, by omega, by omega, _, by rw [Int.toNat_natCast, Nat.mul_one]; exact u3, ?_⟩
        refine ⟨_, _, _, Sat.ld hs (by (repeat (first | exact At.z | apply At.s))) (by rfl), ?_⟩
        refine ⟨_, v2, by omega, by omega, _, by rw [Int.toNat_natCast, Nat.mul_one]; exact v3, ?_⟩
        rw [if_neg (by rw [hsame (Or.inr g2)]; simp)]
        refine ⟨_, _, _, Sat.ld hs (by (repeat (first | exact At.z | apply At.s))) (by rfl), ?_⟩
        refine ⟨_, v2, by omega, by omega, _, by rw [Int.toNat_natCast, Nat.mul_one]; exact v3, ?_⟩
        split
        · rename_i g3
          refine ⟨_, _, _, Sat.ld hs (by (repeat (first | exact At.z | apply At.s))) (by rfl), ?_⟩
          refine ⟨_, u2, by omega, by omega, _, by rw [Int.toNat_natCast, Nat.mul_one]; exact u3, ?_⟩
          rw [if_neg (by rw [hup g3]; simp), wrap_succ (by omega)]
          exact hk _ hs
        · rw [wrap_succ (by omega)]
          exact hk _ hs
      rw [leI_eq, if_neg (by simp; omega)]
      refine ⟨_, _, _, Sat.ld hs (by (repeat (first | exact At.z | apply At.s))) (by rfl), ?_⟩
      refine ⟨_, v2, by omega, by omega, _, by rw [Int.toNat_natCast, Nat.mul_one]; exact v3, ?_⟩
      split
      · rename_i g3
        refine ⟨_, _, _, Sat.ld hs (by (repeat (first | exact At.z | apply At.s))) (by rfl), ?_⟩
        refine ⟨_, u2, by omega, by omega, _, by rw [Int.toNat_natCast, Nat.mul_one]; exact u3, ?_⟩
        rw [if_neg (by rw [hup g3]; simp), wrap_succ (by omega)]
        exact hk _ hs
      · rw [wrap_succ (by omega)]
        exact hk _ hs
    · intro h12 hs
      apply hJ
      refine ⟨_, _, _, Sat.ld hs (by (repeat (first | exact At.z | apply At.s))) (by rfl), ?_⟩
      rw [ltI_eq, if_neg (by simp)]
      rw [if_pos (by rw [z9]; rfl)]
      have efin : (cnt E.s.blown ao f : Int) = max n (cnt s.blown ao f) := by omega
      rw [efin]
      have := k _ hs.ex
      simpa using this
  rw [if_neg (by simp), if_neg (by simp), ltI_eq, if_neg (by simp; omega), ltI_eq, if_neg (by simp; omega)]
  by_cases z : ee = 0
  · rw [if_pos (by rw [z]; rfl), if_neg (by rw [R6 z]; simp), if_neg (by rw [z]; simp)]
    exact half
  · obtain ⟨z1, z2, z3⟩ := R7 z
    have hat2 : ¬ at_ < 0 ∧ at_ < n - cnt s.blown ao f := by
      by_cases y : at_ > -1
      · rw [if_pos y] at z2 z3; exact ⟨by omega, by omega⟩
      · rw [if_neg y] at z2; omega
    rw [if_neg (by simpa using z), if_pos (by simpa using z), if_neg (by rw [z1]; simp), ltI_eq, if_neg (by simpa using hat2.1), leI_eq, if_neg (by
      rw [if_pos (by omega)]; simp; omega)]
    exact half
end
end Go.Proofs.Ytamfkofcpoglnaa
