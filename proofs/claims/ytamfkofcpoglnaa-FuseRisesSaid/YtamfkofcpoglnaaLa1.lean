/- Contracts of the chip's statements: a state is written over. Own work. -/
import Derived.Test.YtamfkofcpoglnaaFa3
import Derived.Test.YtamfkofcpoglnaaRf8
set_option autoImplicit false
set_option linter.all false
set_option linter.unusedVariables false
namespace Go.Proofs.Ytamfkofcpoglnaa
open Go Go.Vc

section
variable {h0 h : H} {A : List Ent} {i p : Nat} {C : Cm}
theorem someInts {k : IntKind} (n : Nat) : ∃ ns : List Int, ns.length = n ∧ True := ⟨List.replicate n 0, by simp, trivial⟩
theorem splice_ints (k : IntKind) (ns : List Int) (o : Nat) (xs : List Int) : ∃ ms : List Int, ms.length = ns.length ∧ splice (ints k ns) o (ints k xs) = ints k ms := by
  induction xs generalizing ns o with
  | nil => exact ⟨ns, rfl, rfl⟩
  | cons x r ih =>
    obtain ⟨ms, h1, h2⟩ := ih (ns.set o x) (o + 1)
    refine ⟨ms, by rw [h1]; simp, ?_⟩
    rw [ints_cons, splice_cons, ints_set]; exact h2
theorem wreck_sp {a b c : Sl} {s : St} {Q : H → Prop} (hs : Sat h0 (stL a b c s ++ A) h) (sm : s.small) (k : ∀ h', Sat h0 A h' → Q h') :
    F_portcullislaw04_wreck a.1 a.2.1 a.2.2 b.1 b.2.1 b.2.2 c.1 c.2.1 c.2.2 Q h := by
  unfold F_portcullislaw04_wreck G_portcullislaw04_wreck
  simp only [add_mk, Nat.zero_add]
  replace hs : Sat h0 (matE 32 a s.pages :: sE b 1 (ints .i64 s.erases) :: sE c 1 (bools s.blown) :: A) h := hs
  obtain ⟨pgs, hpg, hs⟩ := hs.open_
  have sm1 := sm.pages
  have sm2 := sm.erases
  have sm3 := sm.blown
  have hl1 := hs.sl_len .z
  simp only [pgSl_length, Nat.mul_one] at hl1
  have hlp : pgs.length = s.pages.length := by rw [hpg]; simp
  have hrow : ∀ x, x ∈ pgs → x.bytes.length + 4096 ≤ 2 ^ 47 := fun x hx => sm.rows _ (by rw [hpg]; exact List.mem_map_of_mem hx)
  intro n1 _ hn; replace hs := Sat.new hs hn; clear hn
  intro J14 hJ14
  obtain ⟨ap, al, ac⟩ := a
  dsimp only at hl1
  refine loop_up al (fun i h => ∃ hd : List Value, (∀ j, i ≤ j → hd[j]? = (pgSl pgs)[j]?) ∧ Sat h0 (blk n1 [Sl.v (ap, al, ac), b.v, c.v] :: sE (ap, al, ac) 1 hd :: (rowsE 32 (pgs.drop i) ++ (sE b 1 (ints .i64 s.erases) :: sE c 1 (bools s.blown) :: A))) h) ?_ ?_ 0 _ (by omega) ⟨_, fun _ _ => rfl, by simpa [matL] using hs⟩
  · rintro j h1 hj ⟨hd, hhd, hs⟩ hk
    apply hJ14
    refine ⟨_, _, _, Sat.ld hs (by (repeat (first | exact At.z | apply At.s))) (by rfl), ?_⟩
    rw [ltI_eq, if_pos (by simp; omega)]
    have hjp : j < pgs.length := by omega
    have ed : rowsE 32 (pgs.drop j) = sE pgs[j].sl 32 (ints .u8 pgs[j].bytes) :: rowsE 32 (pgs.drop (j + 1)) := by rw [List.drop_eq_getElem_cons hjp]; rfl
    rw [ed] at hs
    obtain ⟨qb, hq⟩ := hs.sl_some (.s .z) (show 0 < al by omega)
    dsimp only at hq
    subst hq
    refine ⟨_, _, _, Sat.ld hs (by (repeat (first | exact At.z | apply At.s))) (by rfl), ?_⟩
    refine ⟨_, rfl, by omega, by (try dsimp only); omega, ?_⟩
    simp only [add_mk, Nat.zero_add, Int.toNat_natCast, Nat.mul_one]
    have ehd : hd[j]? = some (pgs[j].sl.v) := by rw [hhd j (Nat.le_refl _)]; simp [pgSl, hjp]
    refine ⟨_, _, _, hs.sld (.s .z) ehd, ?_⟩
    have hr := hrow _ (List.getElem_mem hjp)
    generalize pgs[j] = pg at *
    obtain ⟨⟨xp, xl, xc⟩, bytes⟩ := pg
    dsimp only at hr ehd ed
    have hxl := hs.sl_len (i := 2) (.s (.s .z))
    simp only [ints_length] at hxl
    intro J27 hJ27
    replace hs := hs.front (i := 2) (.s (.s .z))
    simp only [del] at hs
    refine loop_up xl (fun i h => ∃ bs : List Int, bs.length = bytes.length ∧ Sat h0 (sE (xp, xl, xc) 32 (ints .u8 bs) :: blk n1 [Sl.v (some ⟨qb, 0, none⟩, al, ac), b.v, c.v] :: sE (some ⟨qb, 0, none⟩, al, ac) 1 hd :: (rowsE 32 (pgs.drop (j + 1)) ++ (sE b 1 (ints .i64 s.erases) :: sE c 1 (bools s.blown) :: A))) h) ?_ ?_ 0 _ (by omega) ⟨_, rfl, hs⟩
    · rintro m h2 hm ⟨bs, hbs, hs⟩ hk2
      apply hJ27
      rw [ltI_eq, if_pos (by simp; omega)]
      obtain ⟨xb, hx⟩ := hs.sl_some .z (show 0 < xl by omega)
      dsimp only at hx
      subst hx
      refine ⟨_, rfl, by omega, by (try dsimp only); omega, ?_⟩
      simp only [add_mk, Nat.zero_add, Int.toNat_natCast]
      refine ⟨hs.scan .z (show 0 < xl by omega) (by simp; omega), ?_⟩
      intro h3 e3
      replace hs := hs.swr .z e3 (show 0 < xl by omega) (by simp; omega) (ints_one _ _)
      obtain ⟨ms, hm1, hm2⟩ := splice_ints .u8 bs (m * 32) [7, 0, 0, 0, 0, 0, 0, 0, 0, 0, 0, 0, 0, 0, 0, 0, 0, 0, 0, 0, 0, 0, 0, 0, 0, 0, 0, 0, 0, 0, 0, 0]
      rw [hm2] at hs
      rw [wrap_succ (by omega)]
      exact hk2 _ ⟨ms, by omega, hs⟩
    · rintro h2 ⟨bs, hbs, hs⟩
      apply hJ27
      rw [ltI_eq, if_neg (by simp)]
      intro J33 hJ33
      have key : ∀ d n xp xl' xc bs h3, n + d = 3 → xl' = xl + n → bs.length = xl' * 32 → Sat h0 (sE (xp, xl', xc) 32 (ints .u8 bs) :: blk n1 [Sl.v (some ⟨qb, 0, none⟩, al, ac), b.v, c.v] :: sE (some ⟨qb, 0, none⟩, al, ac) 1 hd :: (rowsE 32 (pgs.drop (j + 1)) ++ (sE b 1 (ints .i64 s.erases) :: sE c 1 (bools s.blown) :: A))) h3 →
          J33 [SV.dv (DV.one (.slice xp xl' xc)), SV.dv (DV.one (.int .i64 (n : Int)))] h3 := by
        intro d
        induction d with
        | zero =>
          intro n xp xl' xc bs h3 hn hx hb hs
          apply hJ33
          rw [ltI_eq, if_neg (by simp; omega)]
          refine ⟨_, _, _, Sat.ld hs (by (repeat (first | exact At.z | apply At.s))) (by rfl), ?_⟩
          refine ⟨_, rfl, by omega, by (try dsimp only); omega, ?_⟩
          simp only [add_mk, Nat.zero_add, Int.toNat_natCast, Nat.mul_one]
          have hhl := hs.sl_len (i := 2) (.s (.s .z))
          refine ⟨hs.scan (.s (.s .z)) (show 0 < al by omega) (by simp at hhl; omega), ?_⟩
          intro h4 e4
          replace hs := hs.swr (.s (.s .z)) e4 (show 0 < al by omega) (by simp at hhl ⊢; omega) (by simp)
          rw [wrap_succ (by omega)]
          refine hk _ ⟨hd.set j (.slice none 0 0), ?_, ?_⟩
          · intro m hm
            rw [List.getElem?_set_ne (by omega)]
            exact hhd m (by omega)
          · exact hs.drop
        | succ d ih =>
          intro n xp xl' xc bs h3 hn hx hb hs
          apply hJ33
          rw [ltI_eq, if_pos (by simp; omega)]
          (intro _ _ hn; replace hs := Sat.new hs hn; clear hn)
          refine ⟨_, Sat.bv hs .z (by simp) (ints_one _ _), ?_⟩
          refine hs.app (i := 1) (.s .z) (by simp) (by simp) (ints_one _ _) (by (try dsimp only); omega) ?_
          intro p' c' h5 hs
          rw [wrap_succ (by omega)]
          simp only [put] at hs
          rw [← ints_append] at hs
          refine ih (n + 1) p' (xl' + 1) c' (bs ++ _) h5 (by omega) (by omega) ?_ hs.drop
          simp; omega
      exact key 3 0 xp xl xc bs h2 (by omega) (by omega) (by omega) hs
  · rintro h1 ⟨hd, hhd, hs⟩
    apply hJ14
    refine ⟨_, _, _, Sat.ld hs (by (repeat (first | exact At.z | apply At.s))) (by rfl), ?_⟩
    rw [ltI_eq, if_neg (by simp)]
    rw [show pgs.drop al = [] by rw [List.drop_eq_nil_iff]; omega] at hs
    replace hs : Sat h0 (blk n1 [Sl.v (ap, al, ac), b.v, c.v] :: sE (ap, al, ac) 1 hd :: sE b 1 (ints .i64 s.erases) :: sE c 1 (bools s.blown) :: A) h1 := hs
    have hhl := hs.sl_len (.s .z)
    have hbl := hs.sl_len (i := 2) (.s (.s .z))
    simp only [ints_length] at hbl
    have hcl := hs.sl_len (i := 3) (.s (.s (.s .z)))
    simp only [bools_length] at hcl
    obtain ⟨bp, bl, bc⟩ := b
    obtain ⟨cp, cl, cc⟩ := c
    dsimp only at hbl hcl
    intro J57 hJ57
    refine loop_up bl (fun i h => ∃ es : List Int, es.length = bl ∧ Sat h0 (blk n1 [Sl.v (ap, al, ac), Sl.v (bp, bl, bc), Sl.v (cp, cl, cc)] :: sE (ap, al, ac) 1 hd :: sE (bp, bl, bc) 1 (ints .i64 es) :: sE (cp, cl, cc) 1 (bools s.blown) :: A) h) ?_ ?_ 0 _ (by omega) ⟨_, by omega, hs⟩
    · rintro m h2 hm ⟨es, hes, hs⟩ hk2
      apply hJ57
      refine ⟨_, _, _, Sat.ld hs (by (repeat (first | exact At.z | apply At.s))) (by rfl), ?_⟩
      rw [ltI_eq, if_pos (by simp; omega)]
      refine ⟨_, _, _, Sat.ld hs (by (repeat (first | exact At.z | apply At.s))) (by rfl), ?_⟩
      obtain ⟨xb, hx⟩ := hs.sl_some (i := 2) (.s (.s .z)) (show 0 < bl by omega)
      dsimp only at hx
      subst hx
      refine ⟨_, rfl, by omega, by (try dsimp only); omega, ?_⟩
      simp only [add_mk, Nat.zero_add, Int.toNat_natCast, Nat.mul_one]
      refine ⟨hs.scan (i := 2) (.s (.s .z)) (show 0 < bl by omega) (by simp; omega), ?_⟩
      intro h3 e3
      replace hs := hs.swr (i := 2) (.s (.s .z)) e3 (show 0 < bl by omega) (by simp; omega) (by simp)
      simp only [put, splice, ints_set] at hs
      rw [wrap_succ (by omega)]
      exact hk2 _ ⟨_, by simpa using hes, hs⟩
    · rintro h2 ⟨es, hes, hs⟩
      apply hJ57
      refine ⟨_, _, _, Sat.ld hs (by (repeat (first | exact At.z | apply At.s))) (by rfl), ?_⟩
      rw [ltI_eq, if_neg (by simp)]
      intro J69 hJ69
      refine loop_up cl (fun i h => ∃ fs : List Bool, fs.length = cl ∧ Sat h0 (blk n1 [Sl.v (ap, al, ac), Sl.v (bp, bl, bc), Sl.v (cp, cl, cc)] :: sE (ap, al, ac) 1 hd :: sE (bp, bl, bc) 1 (ints .i64 es) :: sE (cp, cl, cc) 1 (bools fs) :: A) h) ?_ ?_ 0 _ (by omega) ⟨_, by omega, hs⟩
      · rintro m h3 hm ⟨fs, hfs, hs⟩ hk2
        apply hJ69
        refine ⟨_, _, _, Sat.ld hs (by (repeat (first | exact At.z | apply At.s))) (by rfl), ?_⟩
        rw [ltI_eq, if_pos (by simp; omega)]
        refine ⟨_, _, _, Sat.ld hs (by (repeat (first | exact At.z | apply At.s))) (by rfl), ?_⟩
        refine ⟨_, _, _, Sat.ld hs (by (repeat (first | exact At.z | apply At.s))) (by rfl), ?_⟩
        obtain ⟨xb, hx⟩ := hs.sl_some (i := 3) (.s (.s (.s .z))) (show 0 < cl by omega)
        dsimp only at hx
        subst hx
        refine ⟨_, rfl, by omega, by (try dsimp only); omega, ?_⟩
        simp only [add_mk, Nat.zero_add, Int.toNat_natCast, Nat.mul_one]
        refine ⟨_, hs.sld (i := 3) (.s (.s (.s .z))) (by rw [bools_get, List.getElem?_eq_getElem (show m < fs.length by omega)]; rfl), _, rfl, by omega, by (try dsimp only); omega, ?_⟩
        simp only [add_mk, Nat.zero_add]
        refine ⟨hs.scan (i := 3) (.s (.s (.s .z))) (show 0 < cl by omega) (by simp; omega), ?_⟩
        intro h4 e4
        replace hs := hs.swr (i := 3) (.s (.s (.s .z))) e4 (show 0 < cl by omega) (by simp; omega) (by simp)
        simp only [put, splice] at hs
        rw [wrap_succ (by omega)]
        refine hk2 _ ⟨fs.set m (!fs[m]), by simpa using hfs, ?_⟩
        have : bools (fs.set m (!fs[m])) = (bools fs).set m (.bool (!fs[m])) := by simp [bools, List.map_set]
        rw [this]; exact hs
      · rintro h3 ⟨fs, hfs, hs⟩
        apply hJ69
        refine ⟨_, _, _, Sat.ld hs (by (repeat (first | exact At.z | apply At.s))) (by rfl), ?_⟩
        rw [ltI_eq, if_neg (by simp)]
        refine ⟨_, _, _, Sat.ld hs (by (repeat (first | exact At.z | apply At.s))) (by rfl), ?_⟩
        refine ⟨_, _, _, Sat.ld hs (by (repeat (first | exact At.z | apply At.s))) (by rfl), ?_⟩
        refine ⟨_, _, _, Sat.ld hs (by (repeat (first | exact At.z | apply At.s))) (by rfl), ?_⟩
        intro J95 hJ95
        have key : ∀ d n (ap : Option Addr) al' ac bp bl' bc cp cl' cc (hd : List Value) (es : List Int) (fs : List Bool) h4, n + d = 3 → al' = al + n → bl' = bl + n → cl' = cl + n → Sat h0 (sE (ap, al', ac) 1 hd :: sE (bp, bl', bc) 1 (ints .i64 es) :: sE (cp, cl', cc) 1 (bools fs) :: A) h4 →
            J95 [SV.dv (DV.one (.slice ap al' ac)), SV.dv (DV.one (.slice bp bl' bc)), SV.dv (DV.one (.slice cp cl' cc)), SV.dv (DV.one (.int .i64 (n : Int)))] h4 := by
          intro d
          induction d with
          | zero =>
            intro n ap al' ac bp bl' bc cp cl' cc hd es fs h4 hn e1 e2 e3 hs
            apply hJ95
            rw [ltI_eq, if_neg (by simp; omega)]
            exact k _ hs.drop.drop.drop
          | succ d ih =>
            intro n ap al' ac bp bl' bc cp cl' cc hd es fs h4 hn e1 e2 e3 hs
            apply hJ95
            rw [ltI_eq, if_pos (by simp; omega)]
            (intro _ _ hn; replace hs := Sat.new hs hn; clear hn)
            refine ⟨_, Sat.bv hs .z (by simp) (by simp), ?_⟩
            refine hs.app (i := 1) (.s .z) (by simp) (by simp) (by simp) (by (try dsimp only); omega) ?_
            intro p1 c1 h5 hs
            replace hs := hs.drop
            (intro _ _ hn; replace hs := Sat.new hs hn; clear hn)
            refine ⟨_, Sat.bv hs .z (by simp) (by simp), ?_⟩
            refine hs.app (i := 2) (.s (.s .z)) (by simp) (by simp) (by simp) (by (try dsimp only); omega) ?_
            intro p2 c2 h6 hs
            replace hs := hs.drop
            (intro _ _ hn; replace hs := Sat.new hs hn; clear hn)
            refine ⟨_, Sat.bv hs .z (by simp) (by simp), ?_⟩
            refine hs.app (i := 3) (.s (.s (.s .z))) (by simp) (by simp) (by simp) (by (try dsimp only); omega) ?_
            intro p3 c3 h7 hs
            replace hs := hs.drop
            rw [wrap_succ (by omega)]
            have ee : ints .i64 es ++ [Value.int .i64 (-8)] = ints .i64 (es ++ [-8]) := by simp
            have ef : bools fs ++ [Value.bool true] = bools (fs ++ [true]) := by simp [bools]
            simp only [put] at hs
            rw [ee, ef] at hs
            exact ih (n + 1) p1 (al' + 1) c1 p2 (bl' + 1) c2 p3 (cl' + 1) c3 _ _ _ h7 (by omega) (by omega) (by omega) (by omega) hs
        exact key 3 0 ap al ac bp bl bc cp cl cc hd es fs h3 (by omega) (by omega) (by omega) (by omega) hs.drop
end
end Go.Proofs.Ytamfkofcpoglnaa
