/- Contracts of the chip's statements: a state is written over. Own work. -/
import Derived.Test.YtamfkofcpoglnaaFa3
import Derived.Test.YtamfkofcpoglnaaFa4
import Derived.Test.YtamfkofcpoglnaaRf8
set_option autoImplicit false
set_option linter.all false
set_option linter.unusedVariables false
namespace Go.Proofs.Ytamfkofcpoglnaa
open Go Go.Vc

section
variable {h0 h : H} {A : List Ent} {i p : Nat} {C : Cm}
theorem someInts {k : IntKind} (n : Nat) : ∃ ns : List Int, ns.length = n ∧ True := ⟨List.replicate n 0, by simp, trivial⟩
theorem splice_ints (k : IntKind) (ns : List Int) (o : Nat) (xs : List Int) : ∃ ms : List Int, ms.length = ns.length ∧ splice (ints k ns) o (ints k xs) = ints k ms := by
  induction xs generalizing ns o with
  | nil => exact ⟨ns, rfl, rfl⟩
  | cons x r ih =>
    obtain ⟨ms, h1, h2⟩ := ih (ns.set o x) (o + 1)
    refine ⟨ms, by rw [h1]; simp, ?_⟩
    rw [ints_cons, splice_cons, ints_set]; exact h2
theorem wreck_sp {a b c : Sl} {s : St} {Q : H → Prop} (hs : Sat h0 (stL a b c s ++ A) h) (sm : s.small) (k : ∀ h', Sat h0 A h' → Q h') :
    F_portcullislaw04_wreck a.1 a.2.1 a.2.2 b.1 b.2.1 b.2.2 c.1 c.2.1 c.2.2 Q h := by
  unfold F_portcullislaw04_wreck G_portcullislaw04_wreck
  simp only [add_mk, Nat.zero_add]
  replace hs : Sat h0 (matE 32 a s.pages :: sE b 1 (ints .i64 s.erases) :: sE c 1 (bools s.blown) :: A) h := hs
  obtain ⟨pgs, hpg, hs⟩ := hs.open_
  have sm1 := sm.pages
  have sm2 := sm.erases
  have sm3 := sm.blown
  have hl1 := hs.sl_len .z
  simp only [pgSl_length, Nat.mul_one] at hl1
  have hlp : pgs.length = s.pages.length := by rw [hpg]; simp
  have hrow : ∀ x, x ∈ pgs → x.bytes.length + 4096 ≤ 2 ^ 47 := fun x hx => sm.rows _ (by rw [hpg]; exact List.mem_map_of_mem hx)
  intro n1 _ hn; replace hs := Sat.new hs hn; clear hn
  intro J14 hJ14
  obtain ⟨ap, al, ac⟩ := a
  dsimp only at hl1
  refine loop_up al (fun i h => ∃ hd : List Value, (∀ j, i ≤ j → hd[j]? = (pgSl pgs)[j]?) ∧ Sat h0 (blk n1 [Sl.v (ap, al, ac), b.v, c.v] :: sE (ap, al, ac) 1 hd :: (rowsE 32 (pgs.drop i) ++ (sE b 1 (ints .i64 s.erases) :: sE c 1 (bools s.blown) :: A))) h) ?_ ?_ 0 _ (by omega) ⟨_, fun _ _ => rfl, by simpa [matL] using hs⟩
  · rintro j h1 hj ⟨hd, hhd, hs⟩ hk
    apply hJ14
    refine ⟨_, _, _, Sat.ld hs (by (repeat (first | exact At.z | apply At.s))) (by rfl), ?_⟩
    rw [ltI_eq, if_pos (by simp; omega)]
    have hjp : j < pgs.length := by omega
    have ed : rowsE 32 (pgs.drop j) = sE pgs[j].sl 32 (ints .u8 pgs[j].bytes) :: rowsE 32 (pgs.drop (j + 1)) := by rw [List.drop_eq_getElem_cons hjp]; rfl
    rw [ed] at hs
    obtain ⟨qb, hq⟩ := hs.sl_some (.s .z) (show 0 < al by omega)
    dsimp only at hq
    subst hq
    refine ⟨_, _, _, Sat.ld hs (by (repeat (first | exact At.z | apply At.s))) (by rfl), ?_⟩
    refine ⟨_, rfl, by omega, by (try dsimp only); omega, ?_⟩
    simp only [add_mk, Nat.zero_add, Int.toNat_natCast, Nat.mul_one]
    have ehd : hd[j]? = some (pgs[j].sl.v) := by rw [hhd j (Nat.le_refl _)]; simp [pgSl, hjp]
    refine ⟨_, _, _, hs.sld (.s .z) ehd, ?_⟩
    have hr := hrow _ (List.getElem_mem hjp)
    generalize pgs[j] = pg at *
    obtain ⟨⟨xp, xl, xc⟩, bytes⟩ := pg
    dsimp only at hr ehd ed
    have hxl := hs.sl_len (i := 2) (.s (.s .z))
    simp only [ints_length] at hxl
    intro J27 hJ27
    replace hs := hs.front (i := 2) (.s (.s .z))
    simp only [del] at hs
    refine loop_up xl (fun i h => ∃ bs : List Int, bs.length = bytes.length ∧ Sat h0 (sE (xp, xl, xc) 32 (ints .u8 bs) :: blk n1 [Sl.v (some ⟨qb, 0, none⟩, al, ac), b.v, c.v] :: sE (some ⟨qb, 0, none⟩, al, ac) 1 hd :: (rowsE 32 (pgs.drop (j + 1)) ++ (sE b 1 (ints .i64 s.erases) :: sE c 1 (bools s.blown) :: A))) h) ?_ ?_ 0 _ (by omega) ⟨_, rfl, hs⟩
    · rintro m h2 hm ⟨bs, hbs, hs⟩ hk2
      apply hJ27
      rw [ltI_eq, if_pos (by simp; omega)]
      obtain ⟨xb, hx⟩ := hs.sl_some .z (show 0 < xl by omega)
      dsimp only at hx
      subst hx
      refine ⟨_, rfl, by omega, by (try dsimp only); omega, ?_⟩
      simp only [add_mk, Nat.zero_add, Int.toNat_natCast]
      refine ⟨hs.scan .z (show 0 < xl by omega) (by simp; omega), ?_⟩
      intro h3 e3
      replace hs := hs.swr .z e3 (show 0 < xl by omega) (by simp; omega) (ints_one _ _)
      obtain ⟨ms, hm1, hm2⟩ := splice_ints .u8 bs (m * 32) [7, 0, 0, 0, 0, 0, 0, 0, 0, 0, 0, 0, 0, 0, 0, 0, 0, 0, 0, 0, 0, 0, 0, 0, 0, 0, 0, 0, 0, 0, 0, 0]
      rw [hm2] at hs
      rw [wrap_succ (by omega)]
      exact hk2 _ ⟨ms, by omega, hs⟩
    · rintro h2 ⟨bs, hbs, hs⟩
      apply hJ27
      rw [ltI_eq, if_neg (by simp)]
      intro J33 hJ33
      have key : ∀ d n xp xl' xc bs h3, n + d = 3 → xl' = xl + n → bs.length = xl' * 32 → Sat h0 (sE (xp, xl', xc) 32 (ints .u8 bs) :: blk n1 [Sl.v (some ⟨qb, 0, none⟩, al, ac), b.v, c.v] :: sE (some ⟨qb, 0, none⟩, al, ac) 1 hd :: (rowsE 32 (pgs.drop (j + 1)) ++ (sE b 1 (ints .i64 s.erases) :: sE c 1 (bools s.blown) :: A))) h3 →
          J33 [SV.dv (DV.one (.slice xp xl' xc)), SV.dv (DV.one (.int .i64 (n : Int)))] h3 := by
        intro d
        induction d with
        | zero =>
          intro n xp xl' xc bs h3 hn hx hb hs
          apply hJ33
          rw [ltI_eq, if_neg (by simp; omega)]
          refine ⟨_, _, _, Sat.ld hs (by (repeat (first | exact At.z | apply At.s))) (by rfl), ?_⟩
          refine ⟨_, rfl, by omega, by (try dsimp only); omega, ?_⟩
          simp only [add_mk, Nat.zero_add, Int.toNat_natCast, Nat.mul_one]
          have hhl := hs.sl_len (i := 2) (.s (.s .z))
          refine ⟨hs.scan (.s (.s .z)) (show 0 < al by omega) (by simp at hhl; omega), ?_⟩
          intro h4 e4
          replace hs := hs.swr (.s (.s .z)) e4 (show 0 < al by omega) (by simp at hhl ⊢; omega) (by simp)
          rw [wrap_succ (by omega)]
          refine hk _ ⟨hd.set j (.slice none 0 0), ?_, ?_⟩
          · intro m hm
            rw [List.getElem?_set_ne (by omega)]
            exact hhd m (by omega)
          · exact hs.drop
        | succ d ih =>
          intro n xp xl' xc bs h3 hn hx hb hs
          apply hJ33
          rw [ltI_eq, if_pos (by simp; omega)]
          (intro _ _ hn; replace hs := Sat.new hs hn; clear hn)
          refine ⟨_, Sat.bv hs .z (by simp) (ints_one _ _), ?_⟩
          refine hs.app (i := 1) (.s .z) (by simp) (by simp) (ints_one _ _) (by (try dsimp only); omega) ?_
          intro p' c' h5 hs
          rw [wrap_succ (by omega)]
          simp only [put] at hs
          rw [← ints_append] at hs
          refine ih (n + 1) p' (xl' + 1) c' (bs ++ _) h5 (by omega) (by omega) ?_ hs.drop
          simp; omega
      exact key 3 0 xp xl xc bs h2 (by omega) (by omega) (by omega) hs
  · rintro h1 ⟨hd, hhd, hs⟩
    apply hJ14
    refine ⟨_, _, _, Sat.ld hs (by (repeat (first | exact At.z | apply At.s))) (by rfl), ?_⟩
    rw [ltI_eq, if_neg (by simp)]
    rw [show pgs.drop al = [] by rw [List.drop_eq_nil_iff]; omega] at hs
    replace hs : Sat h0 (blk n1 [Sl.v (ap, al, ac), b.v, c.v] :: sE (ap, al, ac) 1 hd :: sE b 1 (ints .i64 s.erases) :: sE c 1 (bools s.blown) :: A) h1 := hs
    have hhl := hs.sl_len (.s .z)
    have hbl := hs.sl_len (i := 2) (.s (.s .z))
    simp only [ints_length] at hbl
    have hcl := hs.sl_len (i := 3) (.s (.s (.s .z)))
    simp only [bools_length] at hcl
    obtain ⟨bp, bl, bc⟩ := b
    obtain ⟨cp, cl, cc⟩ := c
    dsimp only at hbl hcl
    intro J57 hJ57
    refine loop_up bl (fun i h => ∃ es : List Int, es.length = bl ∧ Sat h0 (blk n1 [Sl.v (ap, al, ac), Sl.v (bp, bl, bc), Sl.v (cp, cl, cc)] :: sE (ap, al, ac) 1 hd :: sE (bp, bl, bc) 1 (ints .i64 es) :: sE (cp, cl, cc) 1 (bools s.blown) :: A) h) ?_ ?_ 0 _ (by omega) ⟨_, by omega, hs⟩
    · rintro m h2 hm ⟨es, hes, hs⟩ hk2
      apply hJ57
      refine ⟨_, _, _, Sat.ld hs (by (repeat (first | exact At.z | apply At.s))) (by rfl), ?_⟩
      rw [ltI_eq, if_pos (by simp; omega)]
      refine ⟨_, _, _, Sat.ld hs (by (repeat (first | exact At.z | apply At.s))) (by rfl), ?_⟩
      obtain ⟨xb, hx⟩ := hs.sl_some (i := 2) (.s (.s .z)) (show 0 < bl by omega)
      dsimp only at hx
      subst hx
      refine ⟨_, rfl, by omega, by (try dsimp only); omega, ?_⟩
      simp only [add_mk, Nat.zero_add, Int.toNat_natCast, Nat.mul_one]
      refine ⟨hs.scan (i := 2) (.s (.s .z)) (show 0 < bl by omega) (by simp; omega), ?_⟩
      intro h3 e3
      replace hs := hs.swr (i := 2) (.s (.s .z)) e3 (show 0 < bl by omega) (by simp; omega) (by simp)
      simp only [put, splice, ints_set] at hs
      rw [wrap_succ (by omega)]
      exact hk2 _ ⟨_, by simpa using hes, hs⟩
    · rintro h2 ⟨es, hes, hs⟩
      apply hJ57
      refine ⟨_, _, _, Sat.ld hs (by (repeat (first | exact At.z | apply At.s))) (by rfl), ?_⟩
      rw [ltI_eq, if_neg (by simp)]
      intro J69 hJ69
      refine loop_up cl (fun i h => ∃ fs : List Bool, fs.length = cl ∧ Sat h0 (blk n1 [Sl.v (ap, al, ac), Sl.v (bp, bl, bc), Sl.v (cp, cl, cc)] :: sE (ap, al, ac) 1 hd :: sE (bp, bl, bc) 1 (ints .i64 es) :: sE (cp, cl, cc) 1 (bools fs) :: A) h) ?_ ?_ 0 _ (by omega) ⟨_, by omega, hs⟩
      · rintro m h3 hm ⟨fs, hfs, hs⟩ hk2
        apply hJ69
        refine ⟨_, _, _, Sat.ld hs (by (repeat (first | exact At.z | apply At.s))) (by rfl), ?_⟩
        rw [ltI_eq, if_pos (by simp; omega)]
        refine ⟨_, _, _, Sat.ld hs (by (repeat (first | exact At.z | apply At.s))) (by rfl), ?_⟩
        refine ⟨_, _, _, Sat.ld hs (by (repeat (first | exact At.z | apply At.s))) (by rfl), ?_⟩
        obtain ⟨xb, hx⟩ := hs.sl_some (i := 3) (.s (.s (.s .z))) (show 0 < cl by omega)
        dsimp only at hx
        subst hx
        refine ⟨_, rfl, by omega, by (try dsimp only); omega, ?_⟩
        simp only [add_mk, Nat.zero_add, Int.toNat_natCast, Nat.mul_one]
        refine ⟨_, hs.sld (i := 3) (.s (.s (.s .z))) (by rw [bools_get, List.getElem?_eq_getElem (show m < fs.length by omega)]; rfl), _, rfl, by omega, by (try dsimp only); omega, ?_⟩
        simp only [add_mk, Nat.zero_add]
        refine ⟨hs.scan (i := 3) (.s (.s (.s .z))) (show 0 < cl by omega) (by simp; omega), ?_⟩
        intro h4 e4
        replace hs := hs.swr (i := 3) (.s (.s (.s .z))) e4 (show 0 < cl by omega) (by simp; omega) (by simp)
        simp only [put, splice] at hs
        rw [wrap_succ (by omega)]
        refine hk2 _ ⟨fs.set m (!fs[m]), by simpa using hfs, ?_⟩
        have : bools (fs.set m (!fs[m])) = (bools fs).set m (.bool (!fs[m])) := by simp [bools, List.map_set]
        rw [this]; exact hs
      · rintro h3 ⟨fs, hfs, hs⟩
        apply hJ69
        refine ⟨_, _, _, Sat.ld hs (by (repeat (first | exact At.z | apply At.s))) (by rfl), ?_⟩
        rw [ltI_eq, if_neg (by simp)]
        refine ⟨_, _, _, Sat.ld hs (by (repeat (first | exact At.z | apply At.s))) (by rfl), ?_⟩
        refine ⟨_, _, _, Sat.ld hs (by (repeat (first | exact At.z | apply At.s))) (by rfl), ?_⟩
        refine ⟨_, _, _, Sat.ld hs (by (repeat (first | exact At.z | apply At.s))) (by rfl), ?_⟩
        intro J95 hJ95
        have key : ∀ d n (ap : Option Addr) al' ac bp bl' bc cp cl' cc (hd : List Value) (es : List Int) (fs : List Bool) h4, n + d = 3 → al' = al + n → bl' = bl + n → cl' = cl + n → Sat h0 (sE (ap, al', ac) 1 hd :: sE (bp, bl', bc) 1 (ints .i64 es) :: sE (cp, cl', cc) 1 (bools fs) :: A) h4 →
            J95 [SV.dv (DV.one (.slice ap al' ac)), SV.dv (DV.one (.slice bp bl' bc)), SV.dv (DV.one (.slice cp cl' cc)), SV.dv (DV.one (.int .i64 (n : Int)))] h4 := by
          intro d
          induction d with
          | zero =>
            intro n ap al' ac bp bl' bc cp cl' cc hd es fs h4 hn e1 e2 e3 hs
            apply hJ95
            rw [ltI_eq, if_neg (by simp; omega)]
            exact k _ hs.drop.drop.drop
          | succ d ih =>
            intro n ap al' ac bp bl' bc cp cl' cc hd es fs h4 hn e1 e2 e3 hs
            apply hJ95
            rw [ltI_eq, if_pos (by simp; omega)]
            (intro _ _ hn; replace hs := Sat.new hs hn; clear hn)
            refine ⟨_, Sat.bv hs .z (by simp) (by simp), ?_⟩
            refine hs.app (i := 1) (.s .z) (by simp) (by simp) (by simp) (by (try dsimp only); omega) ?_
            intro p1 c1 h5 hs
            replace hs := hs.drop
            (intro _ _ hn; replace hs := Sat.new hs hn; clear hn)
            refine ⟨_, Sat.bv hs .z (by simp) (by simp), ?_⟩
            refine hs.app (i := 2) (.s (.s .z)) (by simp) (by simp) (by simp) (by (try dsimp only); omega) ?_
            intro p2 c2 h6 hs
            replace hs := hs.drop
            (intro _ _ hn; replace hs := Sat.new hs hn; clear hn)
            refine ⟨_, Sat.bv hs .z (by simp) (by simp), ?_⟩
            refine hs.app (i := 3) (.s (.s (.s .z))) (by simp) (by simp) (by simp) (by (try dsimp only); omega) ?_
            intro p3 c3 h7 hs
            replace hs := hs.drop
            rw [wrap_succ (by omega)]
            have ee : ints .i64 es ++ [Value.int .i64 (-8)] = ints .i64 (es ++ [-8]) := by simp
            have ef : bools fs ++ [Value.bool true] = bools (fs ++ [true]) := by simp [bools]
            simp only [put] at hs
            rw [ee, ef] at hs
            exact ih (n + 1) p1 (al' + 1) c1 p2 (bl' + 1) c2 p3 (cl' + 1) c3 _ _ _ h7 (by omega) (by omega) (by omega) (by omega) hs
        exact key 3 0 ap al ac bp bl bc cp cl cc hd es fs h3 (by omega) (by omega) (by omega) (by omega) hs.drop
end
end Go.Proofs.Ytamfkofcpoglnaa

/- Contracts of the chip's statements: pairs of chips. Own work. -/
set_option autoImplicit false
set_option maxRecDepth 100000
set_option linter.unusedVariables false
namespace Go.Proofs.Ytamfkofcpoglnaa
open Go Go.Vc

section
variable {h0 h : H} {A : List Ent} {i j p r : Nat} {C : Cm}
theorem ref_ld (hs : Sat h0 A h) (cj : At A j (refE r C)) : ∃ w : Pl, ∀ o v, (C.cells w.a w.b w.c w.m)[o]? = some v → hc h ⟨r, o, none⟩ = some v := by
  obtain ⟨⟨w, ms⟩, _, hs⟩ := (hs.front cj).open_
  exact ⟨w, fun o v e => hs.ld .z e⟩
theorem chip_ok (hs : Sat h0 A h) (ci : At A i (chipE p C)) : C.ok := by
  obtain ⟨w, ok, _⟩ := (hs.front ci).open_
  exact ok
theorem same_sp {Q : Bool → H → Prop} (hs : Sat h0 A h) (ci : At A i (chipE p C)) (cj : At A j (refE r C)) (k : ∀ h', Sat h0 A h' → Q true h') : F_portcullislaw04_pair_same (some ⟨p, 0, none⟩) (some ⟨r, 0, none⟩) Q h := by
  unfold F_portcullislaw04_pair_same G_portcullislaw04_pair_same
  simp only [add_mk, Nat.zero_add]
  have ok := chip_ok hs ci
  have sm := ok.small
  have smp := sm.pages; have sme := sm.erases; have smb := sm.blown
  have smr : ∀ l, l ∈ C.s.pages → l.length < 2 ^ 62 := fun l hl => by have := sm.rows l hl; omega
  intro n0 _ hn; replace hs := Sat.new hs hn; clear hn
  refine ⟨_, Sat.ld hs (by (repeat (first | exact At.z | apply At.s))) (by rfl), ?_⟩
  refine ⟨_, rfl, ?_⟩
  refine State_sp hs ci.s ?_
  intro a1 b1 c1 h1 hs
  replace hs : Sat h0 (matE 32 a1 C.s.pages :: sE b1 1 (ints .i64 C.s.erases) :: sE c1 1 (bools C.s.blown) :: blk n0 [.pointer (some ⟨p, 0, none⟩), .pointer (some ⟨r, 0, none⟩)] :: A) h1 := hs
  intro n1 _ hn; replace hs := Sat.new hs hn; clear hn
  (refine ⟨Sat.can hs (by (repeat (first | exact At.z | apply At.s))) (by simp), ?_⟩; intro _ e; replace hs := Sat.wr hs (by (repeat (first | exact At.z | apply At.s))) e; clear e; simp only [put, splice, List.set] at hs)
  refine ⟨_, Sat.ld hs (by (repeat (first | exact At.z | apply At.s))) (by rfl), ?_⟩
  refine ⟨_, rfl, ?_⟩
  refine State_sp hs (i := i + 5) ci.s.s.s.s.s ?_
  intro a2 b2 c2 h2 hs
  replace hs : Sat h0 (matE 32 a2 C.s.pages :: sE b2 1 (ints .i64 C.s.erases) :: sE c2 1 (bools C.s.blown) :: blk n1 [a1.v, b1.v, c1.v] :: matE 32 a1 C.s.pages :: sE b1 1 (ints .i64 C.s.erases) :: sE c1 1 (bools C.s.blown) :: blk n0 [.pointer (some ⟨p, 0, none⟩), .pointer (some ⟨r, 0, none⟩)] :: A) h2 := hs
  intro n2 _ hn; replace hs := Sat.new hs hn; clear hn
  (refine ⟨Sat.can hs (by (repeat (first | exact At.z | apply At.s))) (by simp), ?_⟩; intro _ e; replace hs := Sat.wr hs (by (repeat (first | exact At.z | apply At.s))) e; clear e; simp only [put, splice, List.set] at hs)
  -- the document's chip laid open
  have cj9 := cj.s (x := blk n0 [.pointer (some ⟨p, 0, none⟩), .pointer (some ⟨r, 0, none⟩)])
  obtain ⟨⟨w, ms⟩, ⟨_, mb, ml, me⟩, hs⟩ := (hs.front (i := j + 9) cj.s.s.s.s.s.s.s.s.s).open_
  replace hs : Sat h0 (blk r (C.cells w.a w.b w.c w.m) :: matE 32 w.a C.s.pages :: sE w.b 1 (ints .i64 C.s.erases) :: sE w.c 1 (bools C.s.blown) :: sE w.m 1 (ints .u8 ms) ::
    blk n2 [a2.v, b2.v, c2.v] :: matE 32 a2 C.s.pages :: sE b2 1 (ints .i64 C.s.erases) :: sE c2 1 (bools C.s.blown) :: blk n1 [a1.v, b1.v, c1.v] :: matE 32 a1 C.s.pages :: sE b1 1 (ints .i64 C.s.erases) :: sE c1 1 (bools C.s.blown) ::
    blk n0 [.pointer (some ⟨p, 0, none⟩), .pointer (some ⟨r, 0, none⟩)] :: del A j) _ := hs
  refine ⟨_, _, _, Sat.ld hs (by (repeat (first | exact At.z | apply At.s))) (by rfl), ?_⟩
  refine ⟨_, _, _, Sat.ld hs (by (repeat (first | exact At.z | apply At.s))) (by rfl), ?_⟩
  refine ⟨_, _, _, Sat.ld hs (by (repeat (first | exact At.z | apply At.s))) (by rfl), ?_⟩
  refine ⟨_, Sat.ld hs (by (repeat (first | exact At.z | apply At.s))) (by rfl), ?_⟩
  refine ⟨_, rfl, ?_⟩
  simp only [add_mk, Nat.zero_add]
  refine ⟨_, _, _, Sat.ld hs (by (repeat (first | exact At.z | apply At.s))) (by rfl), ?_⟩
  refine ⟨_, _, _, Sat.ld hs (by (repeat (first | exact At.z | apply At.s))) (by rfl), ?_⟩
  refine ⟨_, _, _, Sat.ld hs (by (repeat (first | exact At.z | apply At.s))) (by rfl), ?_⟩
  refine SameState_sp (a := a1) (b := b1) (c := c1) (a2 := w.a) (b2 := w.b) (c2 := w.c) (s := C.s) hs
    (fun h' hs' => sat_rdS hs' (i := 10) (j := 11) (k := 12) (by (repeat (first | exact At.z | apply At.s))) (by (repeat (first | exact At.z | apply At.s))) (by (repeat (first | exact At.z | apply At.s)))) (fun h' hs' => sat_rdS hs' (i := 1) (j := 2) (k := 3) (by (repeat (first | exact At.z | apply At.s))) (by (repeat (first | exact At.z | apply At.s))) (by (repeat (first | exact At.z | apply At.s)))) (by omega) (by omega) (by omega) smr ?_
  intro h3 hs
  refine ⟨_, _, _, Sat.ld hs (by (repeat (first | exact At.z | apply At.s))) (by rfl), ?_⟩
  refine ⟨_, _, _, Sat.ld hs (by (repeat (first | exact At.z | apply At.s))) (by rfl), ?_⟩
  refine ⟨_, _, _, Sat.ld hs (by (repeat (first | exact At.z | apply At.s))) (by rfl), ?_⟩
  replace hs := Sat.front hs (e := sE c1 1 (bools C.s.blown)) (by (repeat (first | exact At.z | apply At.s)))
  replace hs := Sat.front hs (e := sE b1 1 (ints .i64 C.s.erases)) (by (repeat (first | exact At.z | apply At.s)))
  replace hs := Sat.front hs (e := matE 32 a1 C.s.pages) (by (repeat (first | exact At.z | apply At.s)))
  simp only [del] at hs
  refine wreck_sp (a := a1) (b := b1) (c := c1) hs sm ?_
  intro h4 hs
  refine ⟨_, _, _, Sat.ld hs (by (repeat (first | exact At.z | apply At.s))) (by rfl), ?_⟩
  refine ⟨_, _, _, Sat.ld hs (by (repeat (first | exact At.z | apply At.s))) (by rfl), ?_⟩
  refine ⟨_, _, _, Sat.ld hs (by (repeat (first | exact At.z | apply At.s))) (by rfl), ?_⟩
  refine ⟨_, Sat.ld hs (by (repeat (first | exact At.z | apply At.s))) (by rfl), ?_⟩
  refine ⟨_, rfl, ?_⟩
  simp only [add_mk, Nat.zero_add]
  refine ⟨_, _, _, Sat.ld hs (by (repeat (first | exact At.z | apply At.s))) (by rfl), ?_⟩
  refine ⟨_, _, _, Sat.ld hs (by (repeat (first | exact At.z | apply At.s))) (by rfl), ?_⟩
  refine ⟨_, _, _, Sat.ld hs (by (repeat (first | exact At.z | apply At.s))) (by rfl), ?_⟩
  refine SameState_sp (a := a2) (b := b2) (c := c2) (a2 := w.a) (b2 := w.b) (c2 := w.c) (s := C.s) hs
    (fun h' hs' => sat_rdS hs' (i := 6) (j := 7) (k := 8) (by (repeat (first | exact At.z | apply At.s))) (by (repeat (first | exact At.z | apply At.s))) (by (repeat (first | exact At.z | apply At.s)))) (fun h' hs' => sat_rdS hs' (i := 1) (j := 2) (k := 3) (by (repeat (first | exact At.z | apply At.s))) (by (repeat (first | exact At.z | apply At.s))) (by (repeat (first | exact At.z | apply At.s)))) (by omega) (by omega) (by omega) smr ?_
  intro h5 hs
  refine ⟨_, _, _, Sat.ld hs (by (repeat (first | exact At.z | apply At.s))) (by rfl), ?_⟩
  refine ⟨_, _, _, Sat.ld hs (by (repeat (first | exact At.z | apply At.s))) (by rfl), ?_⟩
  refine ⟨_, _, _, Sat.ld hs (by (repeat (first | exact At.z | apply At.s))) (by rfl), ?_⟩
  replace hs := Sat.front hs (e := sE c2 1 (bools C.s.blown)) (by (repeat (first | exact At.z | apply At.s)))
  replace hs := Sat.front hs (e := sE b2 1 (ints .i64 C.s.erases)) (by (repeat (first | exact At.z | apply At.s)))
  replace hs := Sat.front hs (e := matE 32 a2 C.s.pages) (by (repeat (first | exact At.z | apply At.s)))
  simp only [del] at hs
  refine wreck_sp (a := a2) (b := b2) (c := c2) hs sm ?_
  intro h6 hs
  replace hs := ref_close (C := C) (a := w.a) (b := w.b) (c := w.c) (m := w.m) ok mb ml me cj.s.s.s hs
  simp only [put_succ, cj.put_self] at hs
  replace hs := hs.drop.drop
  refine ⟨_, Sat.ld hs (by (repeat (first | exact At.z | apply At.s))) (by rfl), ?_⟩
  refine ⟨_, Sat.ld hs (by (repeat (first | exact At.z | apply At.s))) (by rfl), ?_⟩
  refine ⟨_, rfl, ?_⟩
  simp only [add_mk, Nat.zero_add]
  obtain ⟨w1, ld⟩ := ref_ld hs cj.s
  refine ⟨_, ld 0 _ rfl, _, ld 1 _ rfl, _, ld 2 _ rfl, _, ld 3 _ rfl, _, ld 4 _ rfl, _, ld 5 _ rfl, _, ld 6 _ rfl, _, rfl, ?_⟩
  refine Config_sp hs ci.s ?_
  intro h7 hs
  obtain ⟨w2, ld2⟩ := ref_ld hs cj.s
  have hc7 : hcs h7 ⟨r, 0, none⟩ [Value.int .i64 C.cfg.cells, .int .i64 C.cfg.slots, .int .i64 C.cfg.fuses, .int .i64 C.cfg.step, .int .i64 C.cfg.keys, .int .i64 C.cfg.erases, .int .i64 C.cfg.area] := by
    intro o v hv
    have : o < 7 := by have := (List.getElem?_eq_some_iff.1 hv).1; simpa using this
    rw [add_mk, Nat.zero_add]
    refine ld2 o v ?_
    rw [← hv]
    match o, this with
    | 0, _ => rfl
    | 1, _ => rfl
    | 2, _ => rfl
    | 3, _ => rfl
    | 4, _ => rfl
    | 5, _ => rfl
    | 6, _ => rfl
  refine ⟨hc7, hcs_one (hs.ld .z rfl), ?_⟩
  rw [if_pos (by simp), if_pos (by simp), if_pos (by simp)]
  refine ⟨_, Sat.ld hs (by (repeat (first | exact At.z | apply At.s))) (by rfl), ?_⟩
  refine ⟨_, Sat.ld hs (by (repeat (first | exact At.z | apply At.s))) (by rfl), ?_⟩
  refine ⟨_, rfl, ?_⟩
  simp only [add_mk, Nat.zero_add]
  refine ⟨_, ld2 10 _ rfl, _, rfl, ?_⟩
  refine Acts_sp hs ci.s ?_
  refine ⟨hcs_one (ld2 10 _ rfl), hcs_one (hs.ld .z rfl), ?_⟩
  rw [if_pos (by simp)]
  refine ⟨_, Sat.ld hs (by (repeat (first | exact At.z | apply At.s))) (by rfl), ?_⟩
  refine ⟨_, Sat.ld hs (by (repeat (first | exact At.z | apply At.s))) (by rfl), ?_⟩
  refine ⟨_, rfl, ?_⟩
  simp only [add_mk, Nat.zero_add]
  refine ⟨_, ld2 11 _ rfl, _, rfl, ?_⟩
  refine Out_sp hs ci.s ?_
  refine ⟨hcs_one (ld2 11 _ rfl), hcs_one (hs.ld .z rfl), ?_⟩
  have := k _ hs.drop
  simpa using this
end
end Go.Proofs.Ytamfkofcpoglnaa
