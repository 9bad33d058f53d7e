/- Contracts of the chip's statements: a step. Own work. -/
import Derived.Test.YtamfkofcpoglnaaFa2
import Derived.Test.YtamfkofcpoglnaaFa3
import Derived.Test.YtamfkofcpoglnaaFa4
import Derived.Test.YtamfkofcpoglnaaFa5
import Derived.Test.YtamfkofcpoglnaaFa6
import Derived.Test.YtamfkofcpoglnaaLa2
set_option autoImplicit false
set_option linter.all false
set_option maxRecDepth 100000
set_option linter.unusedVariables false
namespace Go.Proofs.Ytamfkofcpoglnaa
open Go Go.Vc

/-- A step of a script over a chip. -/
structure Stp where
  kind : Int
  a : Int
  b : Int
  x : List Int
  mask : List Int
structure Stp.ok (s : Stp) : Prop where
  a : -(2 ^ 63) ≤ s.a ∧ s.a < 2 ^ 63
  x : s.x.length = 32
  mb : bytesOk s.mask
  ml : s.mask.length + 4096 ≤ 2 ^ 47
def stepM (C : Cm) (s : Stp) : Cm :=
  if s.kind = 2 then (programM C s.a s.b s.x).1 else if s.kind = 3 then (eraseM C s.a).1 else if s.kind = 4 then (blowM C s.a).1
  else if s.kind = 7 then cutM C s.a s.mask else if s.kind = 8 then { C with out := false } else C

theorem get_x (a b c : Int) (x : List Int) (m : Value) (hx : x.length = 32) : (Value.int .i64 a :: .int .i64 b :: .int .i64 c :: (ints .u8 x ++ [m]))[35]? = some m := by
  have : (ints .u8 x).length = 32 := by simpa using hx
  simp [this]
theorem row_x (a b c : Int) (x : List Int) (m : Value) (hx : x.length = 32) : ∀ i, i < x.length → (Value.int .i64 a :: .int .i64 b :: .int .i64 c :: (ints .u8 x ++ [m]))[3 + i]? = x[i]?.map (Value.int .u8) := by
  intro i hi
  have : (ints .u8 x).length = x.length := by simp
  rw [show 3 + i = i + 1 + 1 + 1 by omega]
  simp only [List.getElem?_cons_succ]
  rw [List.getElem?_append_left (by omega), ints_get]

section
variable {h0 h : H} {A : List Ent} {i j p r : Nat} {C : Cm}
theorem step_sp {Q : Bool → H → Prop} (s : Stp) (so : s.ok) {mp : Option Addr} {ml mc : Nat} (hs : Sat h0 A h) (ci : At A i (chipE p C)) (cj : At A j (refE r C)) (ij : i ≠ j) (rd : hsv h0 mp 1 ml (ints .u8 s.mask))
    (k : ∀ h', Sat h0 (put (put A i (chipE p (stepM C s))) j (refE r (stepM C s))) h' → Q true h') :
    F_portcullislaw04_pair_step (some ⟨p, 0, none⟩) (some ⟨r, 0, none⟩) s.kind s.a s.b s.x mp ml mc Q h := by
  unfold F_portcullislaw04_pair_step G_portcullislaw04_pair_step
  simp only [add_mk, Nat.zero_add, List.append_nil]
  have ok := chip_ok hs ci
  have hx := so.x
  intro n0 _ hn; replace hs := Sat.new hs hn; clear hn
  intro n1 _ hn; replace hs := Sat.new hs hn; clear hn
  obtain ⟨kind, a, b, x, mask⟩ := s
  dsimp only at *
  have same : put (put A i (chipE p C)) j (refE r C) = A := by rw [ci.put_self, cj.put_self]
  refine ⟨_, Sat.ld hs (by (repeat (first | exact At.z | apply At.s))) (by rfl), ?_⟩
  unfold stepM at k
  dsimp only at k
  by_cases h1 : kind = 1
  · subst h1
    simp only [show ((1 : Int) = 2) = False by simp, show ((1 : Int) = 3) = False by simp, show ((1 : Int) = 4) = False by simp, show ((1 : Int) = 7) = False by simp, show ((1 : Int) = 8) = False by simp, if_false, same] at k
    rw [if_pos (by simp)]
    refine ⟨_, Sat.ld hs (by (repeat (first | exact At.z | apply At.s))) (by rfl), ?_⟩
    refine ⟨_, Sat.ld hs (by (repeat (first | exact At.z | apply At.s))) (by rfl), ?_⟩
    refine ⟨_, Sat.ld hs (by (repeat (first | exact At.z | apply At.s))) (by rfl), ?_⟩
    refine ⟨_, rfl, ?_⟩
    refine Read_sp hs ci.s.s _ _ ?_
    intro h2 hs
    intro n2 _ hn; replace hs := Sat.new hs hn; clear hn
    have hr : (readM C a b).1.length = 32 := by
      unfold readM; split
      · simp
      · rename_i h3
        obtain ⟨_, _, _, _, _, hj, _, hk⟩ := asksCellM_zero ok (by simpa using h3)
        rw [show C.s.pages.getD a.toNat [] = C.s.pages[a.toNat] by simp [List.getD, List.getElem?_eq_getElem hj]]
        exact cellAt_length hk
    (refine ⟨Sat.can hs (by (repeat (first | exact At.z | apply At.s))) (by simp), ?_⟩; intro _ e; replace hs := Sat.wra hs (by (repeat (first | exact At.z | apply At.s))) e (by simp [*]); clear e; simp only [put] at hs)
    refine ⟨_, Sat.ld hs (by (repeat (first | exact At.z | apply At.s))) (by rfl), ?_⟩
    refine ⟨_, Sat.ld hs (by (repeat (first | exact At.z | apply At.s))) (by rfl), ?_⟩
    refine ⟨_, Sat.ld hs (by (repeat (first | exact At.z | apply At.s))) (by rfl), ?_⟩
    refine ⟨_, rfl, ?_⟩
    refine rRead_sp hs cj.s.s.s _ _ ?_
    intro h3 hs
    intro n3 _ hn; replace hs := Sat.new hs hn; clear hn
    (refine ⟨Sat.can hs (by (repeat (first | exact At.z | apply At.s))) (by simp), ?_⟩; intro _ e; replace hs := Sat.wra hs (by (repeat (first | exact At.z | apply At.s))) e (by simp [*]); clear e; simp only [put] at hs)
    refine ⟨_, hr, hs.row0 (.s .z), _, hr, hs.row0 .z, ?_⟩
    rw [if_pos (by simp)]
    have := k _ hs.drop.drop.drop.drop
    simpa using this
  rw [if_neg (by simpa using h1)]
  by_cases h2 : kind = 2
  · subst h2
    rw [if_pos rfl] at k
    rw [if_pos (by simp)]
    refine ⟨_, Sat.ld hs (by (repeat (first | exact At.z | apply At.s))) (by rfl), ?_⟩
    refine ⟨_, Sat.ld hs (by (repeat (first | exact At.z | apply At.s))) (by rfl), ?_⟩
    refine ⟨_, Sat.ld hs (by (repeat (first | exact At.z | apply At.s))) (by rfl), ?_⟩
    refine ⟨_, hx, hs.row .z (row_x _ _ _ _ _ hx), _, rfl, ?_⟩
    refine Program_sp hs ci.s.s a b x hx ?_
    intro h2 hs
    simp only [put_succ] at hs
    refine ⟨_, Sat.ld hs (by (repeat (first | exact At.z | apply At.s))) (by rfl), ?_⟩
    refine ⟨_, Sat.ld hs (by (repeat (first | exact At.z | apply At.s))) (by rfl), ?_⟩
    refine ⟨_, Sat.ld hs (by (repeat (first | exact At.z | apply At.s))) (by rfl), ?_⟩
    refine ⟨_, hx, hs.row .z (row_x _ _ _ _ _ hx), _, rfl, ?_⟩
    refine rProgram_sp hs (cj.put_ne (Ne.symm ij) _).s.s a b x hx ?_
    intro h3 hs
    have := k _ hs.drop.drop
    simpa using this
  rw [if_neg (by simpa using h2)]
  rw [if_neg h2] at k
  by_cases h3 : kind = 3
  · subst h3
    rw [if_pos rfl] at k
    rw [if_pos (by simp)]
    refine ⟨_, Sat.ld hs (by (repeat (first | exact At.z | apply At.s))) (by rfl), ?_⟩
    refine ⟨_, Sat.ld hs (by (repeat (first | exact At.z | apply At.s))) (by rfl), ?_⟩
    refine ⟨_, rfl, ?_⟩
    refine Erase_sp hs ci.s.s a ?_
    intro h2 hs
    simp only [put_succ] at hs
    refine ⟨_, Sat.ld hs (by (repeat (first | exact At.z | apply At.s))) (by rfl), ?_⟩
    refine ⟨_, Sat.ld hs (by (repeat (first | exact At.z | apply At.s))) (by rfl), ?_⟩
    refine ⟨_, rfl, ?_⟩
    refine rErase_sp hs (cj.put_ne (Ne.symm ij) _).s.s a ?_
    intro h3 hs
    have := k _ hs.drop.drop
    simpa using this
  rw [if_neg (by simpa using h3)]
  rw [if_neg h3] at k
  by_cases h4 : kind = 4
  · subst h4
    rw [if_pos rfl] at k
    rw [if_pos (by simp)]
    refine ⟨_, Sat.ld hs (by (repeat (first | exact At.z | apply At.s))) (by rfl), ?_⟩
    refine ⟨_, Sat.ld hs (by (repeat (first | exact At.z | apply At.s))) (by rfl), ?_⟩
    refine ⟨_, rfl, ?_⟩
    refine Blow_sp hs ci.s.s a ?_
    intro h2 hs
    simp only [put_succ] at hs
    refine ⟨_, Sat.ld hs (by (repeat (first | exact At.z | apply At.s))) (by rfl), ?_⟩
    refine ⟨_, Sat.ld hs (by (repeat (first | exact At.z | apply At.s))) (by rfl), ?_⟩
    refine ⟨_, rfl, ?_⟩
    refine rBlow_sp hs (cj.put_ne (Ne.symm ij) _).s.s a ?_
    intro h3 hs
    have := k _ hs.drop.drop
    simpa using this
  rw [if_neg (by simpa using h4)]
  rw [if_neg h4] at k
  by_cases h5 : kind = 5
  · subst h5
    simp only [show ((5 : Int) = 7) = False by simp, show ((5 : Int) = 8) = False by simp, if_false, same] at k
    rw [if_pos (by simp)]
    refine ⟨_, Sat.ld hs (by (repeat (first | exact At.z | apply At.s))) (by rfl), ?_⟩
    refine ⟨_, Sat.ld hs (by (repeat (first | exact At.z | apply At.s))) (by rfl), ?_⟩
    refine ⟨_, rfl, ?_⟩
    refine Blown_sp hs ci.s.s a ?_
    refine ⟨_, Sat.ld hs (by (repeat (first | exact At.z | apply At.s))) (by rfl), ?_⟩
    refine ⟨_, Sat.ld hs (by (repeat (first | exact At.z | apply At.s))) (by rfl), ?_⟩
    refine ⟨_, rfl, ?_⟩
    refine rBlown_sp hs cj.s.s a ?_
    rw [if_pos (by simp)]
    have := k _ hs.drop.drop
    simpa using this
  rw [if_neg (by simpa using h5)]
  by_cases h6 : kind = 6
  · subst h6
    simp only [show ((6 : Int) = 7) = False by simp, show ((6 : Int) = 8) = False by simp, if_false, same] at k
    rw [if_pos (by simp)]
    refine ⟨_, Sat.ld hs (by (repeat (first | exact At.z | apply At.s))) (by rfl), ?_⟩
    refine ⟨_, Sat.ld hs (by (repeat (first | exact At.z | apply At.s))) (by rfl), ?_⟩
    refine ⟨_, rfl, ?_⟩
    refine Erases_sp hs ci.s.s a ?_
    refine ⟨_, Sat.ld hs (by (repeat (first | exact At.z | apply At.s))) (by rfl), ?_⟩
    refine ⟨_, Sat.ld hs (by (repeat (first | exact At.z | apply At.s))) (by rfl), ?_⟩
    refine ⟨_, rfl, ?_⟩
    refine rErases_sp hs cj.s.s a ?_
    rw [if_pos (by simp)]
    have := k _ hs.drop.drop
    simpa using this
  rw [if_neg (by simpa using h6)]
  by_cases h7 : kind = 7
  · subst h7
    rw [if_pos rfl] at k
    rw [if_pos (by simp)]
    intro n2 _ hn; replace hs := Sat.new hs hn; clear hn
    refine ⟨_, _, _, hs.ld (.s .z) (get_x _ _ _ _ _ hx), ?_⟩
    have rd1 := hs.base rd
    have hml := rd1.1
    simp only [ints_length, Nat.mul_one] at hml
    have hmm : mask.length + 4096 ≤ 2 ^ 47 := so.ml
    refine ⟨_, rd1, Sat.app_new hs rd1.1 rfl (ints_one _ _) (by omega) ?_⟩
    intro p' c' h2 hs
    refine ⟨_, Sat.ld hs (by (repeat (first | exact At.z | apply At.s))) (by rfl), ?_⟩
    refine ⟨_, Sat.ld hs (by (repeat (first | exact At.z | apply At.s))) (by rfl), ?_⟩
    refine ⟨_, rfl, ?_⟩
    refine Cut_sp hs ci.s.s.s.s a so.a.2 (hs.sv .z) so.mb (by omega) ?_
    intro h3 hs
    simp only [put_succ] at hs
    refine ⟨_, Sat.ld hs (by (repeat (first | exact At.z | apply At.s))) (by rfl), ?_⟩
    refine ⟨_, Sat.ld hs (by (repeat (first | exact At.z | apply At.s))) (by rfl), ?_⟩
    refine ⟨_, _, _, hs.ld (.s (.s .z)) (get_x _ _ _ _ _ hx), _, rfl, ?_⟩
    refine rCut_sp hs (cj.put_ne (Ne.symm ij) _).s.s.s.s a so.a.2 (fun C' h' hs' => hs'.base rd) so.mb (by omega) ?_
    intro h4 hs
    simp only [put_succ] at hs
    refine ⟨_, hs.sv .z, ?_⟩
    refine ⟨_, _, _, hs.ld (.s (.s .z)) (get_x _ _ _ _ _ hx), ?_⟩
    refine ⟨_, hs.base rd, ?_⟩
    intro J hJ
    refine loop_up ml (fun n h => ∃ ns : List Int, ns.length = ml ∧ Sat h0 (slE p' ml c' 1 (ints .u8 ns) :: put (put A i (chipE p (cutM C a mask))) j (refE r (cutM C a mask))) h) ?_ ?_ 0 _ (by omega) ⟨mask, by omega, hs.sub (by (repeat (first | exact List.Sublist.refl _ | apply List.Sublist.cons_cons | apply List.Sublist.cons)))⟩
    · rintro n h5 hn ⟨ns, hns, hs⟩ hk
      apply hJ
      rw [ltI_eq, if_pos (by simp; omega)]
      obtain ⟨q, hq⟩ := hs.sl_some .z (by omega)
      subst hq
      refine ⟨_, rfl, by omega, by omega, ?_⟩
      simp only [add_mk, Nat.zero_add, Int.toNat_natCast, Nat.mul_one]
      refine ⟨_, hs.sld .z (by rw [ints_get, List.getElem?_eq_getElem (show n < ns.length by omega)]; rfl), _, rfl, by omega, by omega, ?_⟩
      simp only [add_mk, Nat.zero_add]
      refine ⟨hs.scan .z (by omega) (by simp; omega), ?_⟩
      intro h6 e6
      replace hs := hs.swr .z e6 (by omega) (by simp; omega) (by simp)
      simp only [put, splice, ints_set] at hs
      rw [wrap_succ (by omega)]
      exact hk _ ⟨_, by simpa using hns, hs⟩
    · rintro h5 ⟨ns, hns, hs⟩
      apply hJ
      rw [ltI_eq, if_neg (by simp)]
      have := k _ hs.drop
      simpa using this
  rw [if_neg (by simpa using h7)]
  rw [if_neg h7] at k
  by_cases h8 : kind = 8
  · subst h8
    rw [if_pos rfl] at k
    rw [if_pos (by simp)]
    refine ⟨_, Sat.ld hs (by (repeat (first | exact At.z | apply At.s))) (by rfl), ?_⟩
    refine ⟨_, rfl, ?_⟩
    refine Restore_sp hs ci.s.s ?_
    intro h2 hs
    simp only [put_succ] at hs
    refine ⟨_, Sat.ld hs (by (repeat (first | exact At.z | apply At.s))) (by rfl), ?_⟩
    refine ⟨_, rfl, ?_⟩
    refine rRestore_sp hs (cj.put_ne (Ne.symm ij) _).s.s ?_
    intro h3 hs
    exact k _ hs.drop.drop
  rw [if_neg (by simpa using h8)]
  rw [if_neg h8, same] at k
  refine ⟨_, Sat.ld hs (by (repeat (first | exact At.z | apply At.s))) (by rfl), ?_⟩
  refine ⟨_, Sat.ld hs (by (repeat (first | exact At.z | apply At.s))) (by rfl), ?_⟩
  refine same_sp hs ci.s.s cj.s.s ?_
  intro h2 hs
  exact k _ hs.drop.drop
end
end Go.Proofs.Ytamfkofcpoglnaa

/- Contracts of the chip's statements: games; calls whose answers are fixed. Own work. -/
set_option autoImplicit false
set_option maxRecDepth 100000
set_option linter.unusedVariables false
namespace Go.Proofs.Ytamfkofcpoglnaa
open Go Go.Vc

theorem at_det {A : List Ent} {i : Nat} {e e' : Ent} (a : At A i e) (b : At A i e') : e = e' := by
  induction a with
  | z => cases b; rfl
  | s _ ih => cases b with
    | s b => exact ih b
theorem chip_ne_ref {A : List Ent} {i j p r : Nat} {C D : Cm} (a : At A i (chipE p C)) (b : At A j (refE r D)) : i ≠ j := by
  rintro rfl
  have := congrArg Ent.tag (at_det a b)
  simp [chipE, refE, exE] at this

section
variable {h0 h : H} {A : List Ent} {i j p r : Nat} {C : Cm}
abbrev fixC0 : Cm := freshC ⟨4, 1, 2, 1, 1, 1, 0⟩
abbrev fixC1 : Cm := (programM fixC0 0 1 (zeros 32)).1
abbrev fixC2 : Cm := cutM fixC1 0 [1]
abbrev fixC3 : Cm := { (blowM fixC2 2).1 with out := false }
theorem fixed_sp {Q : Bool → H → Prop} (hs : Sat h0 A h) (k : ∀ h', Sat h0 A h' → Q true h') : F_portcullislaw04_fixed Q h := by
  unfold F_portcullislaw04_fixed G_portcullislaw04_fixed
  simp only [add_mk, Nat.zero_add, List.append_nil]
  refine New_sp ⟨4, 1, 2, 1, 1, 1, 0⟩ hs (fun nm => absurd (show Cfg.may ⟨4, 1, 2, 1, 1, 1, 0⟩ by decide) nm) ?_
  intro _ p h1 hs
  intro J hJ
  rw [if_neg (by simp), if_neg (by simp)]
  apply hJ
  refine ⟨_, rfl, ?_⟩
  refine Program_sp hs .z 0 1 (zeros 32) (by simp) ?_
  intro h2 hs
  replace hs : Sat h0 (chipE p fixC1 :: A) h2 := hs
  refine ⟨_, rfl, ?_⟩
  refine Read_sp hs .z 0 1 ?_
  intro h3 hs
  intro n1 _ hn; replace hs := Sat.new hs hn; clear hn
  have hr : (readM fixC1 0 1).1.length = 32 := by decide +kernel
  (refine ⟨Sat.can hs (by (repeat (first | exact At.z | apply At.s))) (by simp), ?_⟩; intro _ e; replace hs := Sat.wra hs (by (repeat (first | exact At.z | apply At.s))) e (by simp [*]); clear e; simp only [put] at hs)
  intro n2 _ hn; replace hs := Sat.new hs hn; clear hn
  refine ⟨_, rfl, ?_⟩
  refine Cut_sp (bs := [1]) hs (.s (.s .z)) 0 (by decide) (hs.bv .z (by simp) (by simp)) (by intro n hn; simp at hn; subst hn; exact ⟨by decide, by decide⟩) (by decide) ?_
  intro h4 hs
  replace hs : Sat h0 (blk n2 [.int .u8 1] :: blk n1 (ints .u8 (readM fixC1 0 1).1) :: chipE p fixC2 :: A) h4 := hs
  refine ⟨_, rfl, ?_⟩
  refine Blow_sp hs (.s (.s .z)) 2 ?_
  intro h5 hs
  refine ⟨_, rfl, ?_⟩
  refine Restore_sp hs (i := 2) (.s (.s .z)) ?_
  intro h6 hs
  replace hs : Sat h0 (blk n2 [.int .u8 1] :: blk n1 (ints .u8 (readM fixC1 0 1).1) :: chipE p fixC3 :: A) h6 := hs
  refine ⟨_, rfl, ?_⟩
  refine Blown_sp hs (.s (.s .z)) 2 ?_
  have e1 : (programM fixC0 0 1 (zeros 32)).2 = 0 := by decide +kernel
  have e2 : (readM fixC1 0 1).2 = 0 := by decide +kernel
  have e3 : (readM fixC1 0 1).1 = zeros 32 := by decide +kernel
  have e4 : (blowM fixC2 2).2 = 8 := by decide +kernel
  have e5 : (blownM fixC3 2).1 = true := by decide +kernel
  have e6 : (blownM fixC3 2).2 = 0 := by decide +kernel
  have e7 : fixC3.acts = 2 := by decide +kernel
  rw [if_pos (by rw [e1]; rfl), if_pos (by rw [e2]; rfl)]
  refine ⟨_, hr, hs.row0 (.s .z), ?_⟩
  rw [if_pos (by rw [e3]; simp), if_pos (by rw [e4]; rfl), if_pos e5, if_pos (by rw [e6]; rfl)]
  refine ⟨_, rfl, ?_⟩
  refine Acts_sp hs (.s (.s .z)) ?_
  rw [e7]
  exact k _ hs.drop.drop.drop

/-- How a script lies in memory. -/
structure ScriptRd (h : H) (p : Option Addr) (l : Nat) (sc : List Stp) : Prop where
  len : sc.length = l
  small : l < 2 ^ 62
  el : ∀ i (hi : i < sc.length), ∃ (q : Addr) (mp : Option Addr) (ml mc : Nat), p = some q ∧ hc h (q.add (i * 36)) = some (.int .i64 sc[i].kind) ∧ hc h ((q.add (i * 36)).add 1) = some (.int .i64 sc[i].a) ∧
    hc h ((q.add (i * 36)).add 2) = some (.int .i64 sc[i].b) ∧ hrow h ((q.add (i * 36)).add 3) .u8 sc[i].x ∧ hc h ((q.add (i * 36)).add 35) = some (.slice mp ml mc) ∧ hsv h mp 1 ml (ints .u8 sc[i].mask) ∧ sc[i].ok
abbrev prE (n p r : Nat) : Ent := blk n [.pointer (some ⟨p, 0, none⟩), .pointer (some ⟨r, 0, none⟩)]
def GS (h0 : H) (np nq : Nat) (h : H) : Prop := ∃ (L : List Ent) (i j i' j' pc pr qc qr : Nat) (C D : Cm), Sat h0 (prE np pc pr :: prE nq qc qr :: L) h ∧ At L i (chipE pc C) ∧ At L j (refE pr C) ∧ At L i' (chipE qc D) ∧ At L j' (refE qr D) ∧
  ((i' = i ∧ j' = j ∧ qc = pc ∧ qr = pr ∧ D = C) ∨ (i' ≠ i ∧ j' ≠ j))
theorem game_sp {Q : Bool → H → Prop} {mp : Option Addr} {ml mc : Nat} (sc : List Stp) (rd : ScriptRd h0 mp ml sc) (hs : Sat h0 (chipE p C :: refE r C :: A) h) (k : ∀ h', Ext none_ h0 h' → Q true h') :
    F_portcullislaw04_game ⟨p, 0, none⟩ ⟨r, 0, none⟩ mp ml mc Q h := by
  unfold F_portcullislaw04_game G_portcullislaw04_game
  simp only [add_mk, Nat.zero_add, List.append_nil]
  intro np _ hn; replace hs := Sat.new hs hn; clear hn
  (refine ⟨Sat.can hs (by (repeat (first | exact At.z | apply At.s))) (by simp), ?_⟩; intro _ e; replace hs := Sat.wr hs (by (repeat (first | exact At.z | apply At.s))) e; clear e; simp only [put, splice, List.set] at hs)
  intro nq _ hn; replace hs := Sat.new hs hn; clear hn
  (refine ⟨Sat.can hs (by (repeat (first | exact At.z | apply At.s))) (by simp), ?_⟩; intro _ e; replace hs := Sat.wr hs (by (repeat (first | exact At.z | apply At.s))) e; clear e; simp only [put, splice, List.set] at hs)
  have hsm := rd.small
  have hln := rd.len
  intro J21 hJ21
  have h00 : GS h0 np nq _ := ⟨_, 0, 1, 0, 1, p, r, p, r, C, C, hs.perm (List.Perm.swap _ _ _), .z, .s .z, .z, .s .z, Or.inl ⟨rfl, rfl, rfl, rfl, rfl⟩⟩
  refine loop_up ml (fun _ h => GS h0 np nq h) ?_ ?_ 0 _ (by omega) h00
  · rintro n h1 hn hg hk
    apply hJ21
    rw [ltI_eq, if_pos (by simp; omega)]
    intro J24 hJ24
    have hJ : ∀ h, GS h0 np nq h → J24 [] h := by
      rintro h2 ⟨L, i, j, i', j', pc, pr, qc, qr, C, D, hs, a1, a2, a3, a4, d⟩
      apply hJ24
      split
      · refine ⟨_, Sat.ld hs (by (repeat (first | exact At.z | apply At.s))) (by rfl), ?_⟩; refine ⟨_, Sat.ld hs (by (repeat (first | exact At.z | apply At.s))) (by rfl), ?_⟩; refine same_sp hs a1.s.s a2.s.s ?_; intro _ hs; refine ⟨_, Sat.ld hs (by (repeat (first | exact At.z | apply At.s))) (by rfl), ?_⟩; refine ⟨_, Sat.ld hs (by (repeat (first | exact At.z | apply At.s))) (by rfl), ?_⟩; refine same_sp hs a3.s.s a4.s.s ?_; intro h9 hs
        rw [if_neg (by simp), if_neg (by simp), wrap_succ (by omega)]
        exact hk _ ⟨L, i, j, i', j', pc, pr, qc, qr, C, D, hs, a1, a2, a3, a4, d⟩
      · refine ⟨by decide, ?_⟩
        split
        · refine ⟨_, Sat.ld hs (by (repeat (first | exact At.z | apply At.s))) (by rfl), ?_⟩; refine ⟨_, Sat.ld hs (by (repeat (first | exact At.z | apply At.s))) (by rfl), ?_⟩; refine same_sp hs a1.s.s a2.s.s ?_; intro _ hs; refine ⟨_, Sat.ld hs (by (repeat (first | exact At.z | apply At.s))) (by rfl), ?_⟩; refine ⟨_, Sat.ld hs (by (repeat (first | exact At.z | apply At.s))) (by rfl), ?_⟩; refine same_sp hs a3.s.s a4.s.s ?_; intro h9 hs
          rw [if_neg (by simp), if_neg (by simp), wrap_succ (by omega)]
          exact hk _ ⟨L, i, j, i', j', pc, pr, qc, qr, C, D, hs, a1, a2, a3, a4, d⟩
        · rw [wrap_succ (by omega)]
          exact hk _ ⟨L, i, j, i', j', pc, pr, qc, qr, C, D, hs, a1, a2, a3, a4, d⟩
    obtain ⟨L, i, j, i', j', pc, pr, qc, qr, C, D, hs, a1, a2, a3, a4, d⟩ := hg
    have hx := hs.ex
    have hnl : n < sc.length := by omega
    obtain ⟨q, xp, xl, xc, e0, e1, e2, e3, e4, e5, e6, eok⟩ := rd.el n hnl
    have ext1 : ∀ {a : Addr} {v : Value}, hc h0 a = some v → hc h1 a = some v := fun e => hc_ext hx e (fun y => y)
    refine ⟨q, e0, by omega, by omega, ?_⟩
    rw [Int.toNat_natCast]
    refine ⟨_, ext1 e1, ?_⟩
    split
    · refine ⟨_, Sat.ld hs (by (repeat (first | exact At.z | apply At.s))) (by rfl), ?_⟩
      refine ⟨_, Sat.ld hs (by (repeat (first | exact At.z | apply At.s))) (by rfl), ?_⟩
      refine ⟨_, rfl, ?_⟩
      refine Copy_sp hs a1.s.s ?_
      intro p' h2 hs
      refine ⟨hcs_one (hs.ld (.s .z) rfl), _, rfl, ?_⟩
      refine rCopy_sp hs a2.s.s.s ?_
      intro r' h3 hs
      (refine ⟨Sat.can hs (by (repeat (first | exact At.z | apply At.s))) (by simp), ?_⟩; intro _ e; replace hs := Sat.wr hs (by (repeat (first | exact At.z | apply At.s))) e; clear e; simp only [put, splice, List.set] at hs)
      refine ⟨_, Sat.ld hs (by (repeat (first | exact At.z | apply At.s))) (by rfl), ?_⟩
      rw [if_neg (by simp)]
      refine hJ _ ⟨refE r' C :: chipE p' C :: L, i + 2, j + 2, 1, 0, pc, pr, p', r', C, C, ?_, a1.s.s, a2.s.s, .s .z, .z, Or.inr ⟨by omega, by omega⟩⟩
      replace hs := Sat.front hs (e := prE nq _ _) (by (repeat (first | exact At.z | apply At.s)))
      replace hs := Sat.front hs (e := prE np _ _) (by (repeat (first | exact At.z | apply At.s)))
      exact hs
    · split
      · refine ⟨_, Sat.ld hs (by (repeat (first | exact At.z | apply At.s))) (by rfl), ?_⟩
        refine ⟨_, Sat.ld hs (by (repeat (first | exact At.z | apply At.s))) (by rfl), ?_⟩
        refine ⟨_, Sat.ld hs (by (repeat (first | exact At.z | apply At.s))) (by rfl), ?_⟩
        refine ⟨_, Sat.ld hs (by (repeat (first | exact At.z | apply At.s))) (by rfl), ?_⟩
        (refine ⟨Sat.can hs (by (repeat (first | exact At.z | apply At.s))) (by simp), ?_⟩; intro _ e; replace hs := Sat.wr hs (by (repeat (first | exact At.z | apply At.s))) e; clear e; simp only [put, splice, List.set] at hs)
        (refine ⟨Sat.can hs (by (repeat (first | exact At.z | apply At.s))) (by simp), ?_⟩; intro _ e; replace hs := Sat.wr hs (by (repeat (first | exact At.z | apply At.s))) e; clear e; simp only [put, splice, List.set] at hs)
        refine hJ _ ⟨L, i', j', i, j, qc, qr, pc, pr, D, C, hs, a3, a4, a1, a2, ?_⟩
        rcases d with ⟨rfl, rfl, rfl, rfl, rfl⟩ | ⟨d1, d2⟩
        · exact Or.inl ⟨rfl, rfl, rfl, rfl, rfl⟩
        · exact Or.inr ⟨Ne.symm d1, Ne.symm d2⟩
      · refine ⟨_, Sat.ld hs (by (repeat (first | exact At.z | apply At.s))) (by rfl), ?_⟩
        refine ⟨_, Sat.ld hs (by (repeat (first | exact At.z | apply At.s))) (by rfl), ?_⟩
        refine ⟨q, e0, by omega, by omega, ?_⟩
        refine ⟨_, ext1 e1, _, ext1 e2, _, ext1 e3, _, eok.x, hrow_ext hx e4 (fun y => y), _, _, _, ext1 e5, ?_⟩
        have hij := chip_ne_ref a1 a2
        refine step_sp sc[n] eok hs a1.s.s a2.s.s (by omega) e6 ?_
        intro h2 hs
        simp only [put_succ] at hs
        rw [if_neg (by simp)]
        refine hJ _ ⟨put (put L i (chipE pc (stepM C sc[n]))) j (refE pr (stepM C sc[n])), i, j, i', j', pc, pr, qc, qr, stepM C sc[n], if i' = i then stepM C sc[n] else D, hs, ?_, ?_, ?_, ?_, ?_⟩
        · exact (a1.put _).put_ne hij _
        · exact (a2.put_ne (Ne.symm hij) _).put _
        · rcases d with ⟨rfl, rfl, rfl, rfl, rfl⟩ | ⟨d1, d2⟩
          · rw [if_pos rfl]; exact (a1.put _).put_ne hij _
          · rw [if_neg d1]; exact (a3.put_ne d1 _).put_ne (chip_ne_ref a3 a2) _
        · rcases d with ⟨rfl, rfl, rfl, rfl, rfl⟩ | ⟨d1, d2⟩
          · rw [if_pos rfl]; exact (a2.put_ne (Ne.symm hij) _).put _
          · rw [if_neg d1]; exact (a4.put_ne (Ne.symm (chip_ne_ref a1 a4)) _).put_ne d2 _
        · rcases d with ⟨rfl, rfl, rfl, rfl, rfl⟩ | ⟨d1, d2⟩
          · exact Or.inl ⟨rfl, rfl, rfl, rfl, if_pos rfl⟩
          · exact Or.inr ⟨d1, d2⟩
  · rintro h1 ⟨L, i, j, i', j', pc, pr, qc, qr, C, D, hs, a1, a2, a3, a4, d⟩
    apply hJ21
    rw [ltI_eq, if_neg (by simp)]
    refine ⟨_, Sat.ld hs (by (repeat (first | exact At.z | apply At.s))) (by rfl), ?_⟩; refine ⟨_, Sat.ld hs (by (repeat (first | exact At.z | apply At.s))) (by rfl), ?_⟩; refine same_sp hs a1.s.s a2.s.s ?_; intro _ hs; refine ⟨_, Sat.ld hs (by (repeat (first | exact At.z | apply At.s))) (by rfl), ?_⟩; refine ⟨_, Sat.ld hs (by (repeat (first | exact At.z | apply At.s))) (by rfl), ?_⟩; refine same_sp hs a3.s.s a4.s.s ?_; intro h9 hs
    rw [if_pos (by simp)]
    exact k _ hs.ex
theorem ChipDoes_sp {Q : Bool → H → Prop} {mp : Option Addr} {ml mc : Nat} (c : Cfg) (sc : List Stp) (rd : ScriptRd h0 mp ml sc) (k : ∀ h', Ext none_ h0 h' → Q true h') :
    F_portcullislaw04_ChipDoes c.cells c.slots c.fuses c.step c.keys c.erases c.area mp ml mc Q h0 := by
  unfold F_portcullislaw04_ChipDoes G_portcullislaw04_ChipDoes
  have hs := Sat.init h0
  simp only [add_mk, Nat.zero_add, List.append_nil]
  (intro _ _ hn; replace hs := Sat.new hs hn; clear hn)
  refine fixed_sp hs ?_
  intro h1 hs
  (repeat first | refine ⟨_, Sat.ld hs (by (repeat (first | exact At.z | apply At.s))) (by rfl), ?_⟩ | refine ⟨_, _, _, Sat.ld hs (by (repeat (first | exact At.z | apply At.s))) (by rfl), ?_⟩ | (intro _ _ hn; replace hs := Sat.new hs hn; clear hn) | refine ⟨Sat.cs hs (by (repeat (first | exact At.z | apply At.s))) (by rfl), ?_⟩ | (refine ⟨Sat.can hs (by (repeat (first | exact At.z | apply At.s))) (by simp), ?_⟩; intro _ e; replace hs := Sat.wr hs (by (repeat (first | exact At.z | apply At.s))) e; clear e; simp only [put, splice, List.set] at hs))
  refine New_sp c hs ?_ ?_
  · intro nm h2 hs
    (repeat first | refine ⟨_, Sat.ld hs (by (repeat (first | exact At.z | apply At.s))) (by rfl), ?_⟩ | refine ⟨_, _, _, Sat.ld hs (by (repeat (first | exact At.z | apply At.s))) (by rfl), ?_⟩ | (intro _ _ hn; replace hs := Sat.new hs hn; clear hn) | refine ⟨Sat.cs hs (by (repeat (first | exact At.z | apply At.s))) (by rfl), ?_⟩ | (refine ⟨Sat.can hs (by (repeat (first | exact At.z | apply At.s))) (by simp), ?_⟩; intro _ e; replace hs := Sat.wr hs (by (repeat (first | exact At.z | apply At.s))) e; clear e; simp only [put, splice, List.set] at hs))
    refine rNew_sp c hs ?_ (fun m => absurd m nm)
    intro _ h3 hs
    (repeat first | refine ⟨_, Sat.ld hs (by (repeat (first | exact At.z | apply At.s))) (by rfl), ?_⟩ | refine ⟨_, _, _, Sat.ld hs (by (repeat (first | exact At.z | apply At.s))) (by rfl), ?_⟩ | (intro _ _ hn; replace hs := Sat.new hs hn; clear hn) | refine ⟨Sat.cs hs (by (repeat (first | exact At.z | apply At.s))) (by rfl), ?_⟩ | (refine ⟨Sat.can hs (by (repeat (first | exact At.z | apply At.s))) (by simp), ?_⟩; intro _ e; replace hs := Sat.wr hs (by (repeat (first | exact At.z | apply At.s))) e; clear e; simp only [put, splice, List.set] at hs))
    refine May_sp c hs ?_
    intro h4 hs
    have : c.may? = 1 := if_neg nm
    rw [this, if_neg (by simp), if_neg (by simp), if_neg (by simp), if_neg (by simp), if_pos (by simp)]
    exact k _ hs.ex
  · intro m pc h2 hs
    (repeat first | refine ⟨_, Sat.ld hs (by (repeat (first | exact At.z | apply At.s))) (by rfl), ?_⟩ | refine ⟨_, _, _, Sat.ld hs (by (repeat (first | exact At.z | apply At.s))) (by rfl), ?_⟩ | (intro _ _ hn; replace hs := Sat.new hs hn; clear hn) | refine ⟨Sat.cs hs (by (repeat (first | exact At.z | apply At.s))) (by rfl), ?_⟩ | (refine ⟨Sat.can hs (by (repeat (first | exact At.z | apply At.s))) (by simp), ?_⟩; intro _ e; replace hs := Sat.wr hs (by (repeat (first | exact At.z | apply At.s))) e; clear e; simp only [put, splice, List.set] at hs))
    refine rNew_sp c hs (fun nm => absurd m nm) ?_
    intro _ pr h3 hs
    (repeat first | refine ⟨_, Sat.ld hs (by (repeat (first | exact At.z | apply At.s))) (by rfl), ?_⟩ | refine ⟨_, _, _, Sat.ld hs (by (repeat (first | exact At.z | apply At.s))) (by rfl), ?_⟩ | (intro _ _ hn; replace hs := Sat.new hs hn; clear hn) | refine ⟨Sat.cs hs (by (repeat (first | exact At.z | apply At.s))) (by rfl), ?_⟩ | (refine ⟨Sat.can hs (by (repeat (first | exact At.z | apply At.s))) (by simp), ?_⟩; intro _ e; replace hs := Sat.wr hs (by (repeat (first | exact At.z | apply At.s))) e; clear e; simp only [put, splice, List.set] at hs))
    refine May_sp c hs ?_
    intro h4 hs
    have : c.may? = 0 := if_pos m
    rw [this, if_neg (by simp), if_neg (by simp), if_neg (by simp), if_neg (by simp), if_neg (by simp)]
    refine ⟨_, rfl, _, rfl, ?_⟩
    replace hs := chip_ref hs .z
    exact game_sp (C := freshC c) sc rd (hs.perm (List.Perm.swap _ _ _)) k
end
end Go.Proofs.Ytamfkofcpoglnaa

/- Contracts of the chip's statements: ChipLays. Own work. -/
set_option autoImplicit false
set_option maxRecDepth 100000
set_option linter.unusedVariables false
namespace Go.Proofs.Ytamfkofcpoglnaa
open Go Go.Vc

section
variable {h0 h : H} {A : List Ent} {i j p r : Nat} {C : Cm}
theorem small_lt {s : St} (sm : s.small) : s.pages.length < 2 ^ 62 ∧ s.erases.length < 2 ^ 62 ∧ s.blown.length < 2 ^ 62 ∧ ∀ l, l ∈ s.pages → l.length < 2 ^ 62 := by
  have h1 := sm.pages; have h2 := sm.erases; have h3 := sm.blown
  exact ⟨by omega, by omega, by omega, fun l hl => by have := sm.rows l hl; omega⟩
theorem SameState_args {a b c a2 b2 c2 : Sl} {s : St} {Q : Bool → H → Prop} (hs : Sat h0 A h) (rd1 : ∀ h', Sat h0 A h' → RdS h' a b c s) (rd0 : RdS h0 a2 b2 c2 s) (sm : s.small) (k : ∀ h', Sat h0 A h' → Q true h') :
    F_portcullisref04_SameState a.1 a.2.1 a.2.2 b.1 b.2.1 b.2.2 c.1 c.2.1 c.2.2 a2.1 a2.2.1 a2.2.2 b2.1 b2.2.1 b2.2.2 c2.1 c2.2.1 c2.2.2 Q h := by
  obtain ⟨h1, h2, h3, h4⟩ := small_lt sm
  exact SameState_sp hs rd1 (fun h' hs' => rd0.ext hs'.ex) h1 h2 h3 h4 k
theorem ChipLays_sp {a b c' : Sl} {Q : Bool → H → Prop} {mp : Option Addr} {ml mc : Nat} (c : Cfg) (s : St) (rd0 : RdS h0 a b c' s) (ty : s.typed) (sm : s.small) (sc : List Stp) (rd : ScriptRd h0 mp ml sc) (k : ∀ h', Ext none_ h0 h' → Q true h') :
    F_portcullislaw04_ChipLays c.cells c.slots c.fuses c.step c.keys c.erases c.area a.1 a.2.1 a.2.2 b.1 b.2.1 b.2.2 c'.1 c'.2.1 c'.2.2 mp ml mc Q h0 := by
  unfold F_portcullislaw04_ChipLays G_portcullislaw04_ChipLays
  have hs := Sat.init h0
  simp only [add_mk, Nat.zero_add, List.append_nil]
  intro n1 _ hn; replace hs := Sat.new hs hn; clear hn
  intro n2 _ hn; replace hs := Sat.new hs hn; clear hn
  refine fixed_sp hs ?_
  intro h1 hs
  refine ⟨_, _, _, Sat.ld hs (by (repeat (first | exact At.z | apply At.s))) (by rfl), ?_⟩
  refine ⟨_, _, _, Sat.ld hs (by (repeat (first | exact At.z | apply At.s))) (by rfl), ?_⟩
  refine ⟨_, _, _, Sat.ld hs (by (repeat (first | exact At.z | apply At.s))) (by rfl), ?_⟩
  refine CopyState_sp (a := a) (b := b) (c := c') (s := s) hs (fun h' hs' => rd0.ext hs'.ex) sm ?_
  intro a2 b2 c2 h2 hs
  replace hs : Sat h0 (matE 32 a2 s.pages :: sE b2 1 (ints .i64 s.erases) :: sE c2 1 (bools s.blown) :: [blk n2 [a.v, b.v, c'.v], blk n1 [.int .i64 c.cells, .int .i64 c.slots, .int .i64 c.fuses, .int .i64 c.step, .int .i64 c.keys, .int .i64 c.erases, .int .i64 c.area]]) h2 := hs
  intro n3 _ hn; replace hs := Sat.new hs hn; clear hn
  (repeat first | refine ⟨_, Sat.ld hs (by (repeat (first | exact At.z | apply At.s))) (by rfl), ?_⟩ | refine ⟨_, _, _, Sat.ld hs (by (repeat (first | exact At.z | apply At.s))) (by rfl), ?_⟩ | (intro _ _ hn; replace hs := Sat.new hs hn; clear hn) | refine ⟨Sat.cs hs (by (repeat (first | exact At.z | apply At.s))) (by rfl), ?_⟩ | (refine ⟨Sat.can hs (by (repeat (first | exact At.z | apply At.s))) (by simp), ?_⟩; intro _ e; replace hs := Sat.wr hs (by (repeat (first | exact At.z | apply At.s))) e; clear e; simp only [put, splice, List.set] at hs))
  refine Lay_sp (a := a2) (b := b2) (c' := c2) (s := s) c hs (fun h' hs' => sat_rdS hs' (i := 1) (j := 2) (k := 3) (by (repeat (first | exact At.z | apply At.s))) (by (repeat (first | exact At.z | apply At.s))) (by (repeat (first | exact At.z | apply At.s)))) ty ?_ ?_ ?_
  · intro nm h3 hs
    (repeat first | refine ⟨_, Sat.ld hs (by (repeat (first | exact At.z | apply At.s))) (by rfl), ?_⟩ | refine ⟨_, _, _, Sat.ld hs (by (repeat (first | exact At.z | apply At.s))) (by rfl), ?_⟩ | (intro _ _ hn; replace hs := Sat.new hs hn; clear hn) | refine ⟨Sat.cs hs (by (repeat (first | exact At.z | apply At.s))) (by rfl), ?_⟩ | (refine ⟨Sat.can hs (by (repeat (first | exact At.z | apply At.s))) (by simp), ?_⟩; intro _ e; replace hs := Sat.wr hs (by (repeat (first | exact At.z | apply At.s))) e; clear e; simp only [put, splice, List.set] at hs))
    refine rLay_sp (a := a) (b := b) (c' := c') (s := s) c hs (fun h' hs' => rd0.ext hs'.ex) ty ?_ (fun m => absurd m nm) (fun m => absurd m nm)
    intro _ h4 hs
    (repeat first | refine ⟨_, Sat.ld hs (by (repeat (first | exact At.z | apply At.s))) (by rfl), ?_⟩ | refine ⟨_, _, _, Sat.ld hs (by (repeat (first | exact At.z | apply At.s))) (by rfl), ?_⟩ | (intro _ _ hn; replace hs := Sat.new hs hn; clear hn) | refine ⟨Sat.cs hs (by (repeat (first | exact At.z | apply At.s))) (by rfl), ?_⟩ | (refine ⟨Sat.can hs (by (repeat (first | exact At.z | apply At.s))) (by simp), ?_⟩; intro _ e; replace hs := Sat.wr hs (by (repeat (first | exact At.z | apply At.s))) e; clear e; simp only [put, splice, List.set] at hs))
    refine SameState_args (a := a2) (b := b2) (c := c2) (a2 := a) (b2 := b) (c2 := c') (s := s) hs (fun h' hs' => sat_rdS hs' (i := 1) (j := 2) (k := 3) (by (repeat (first | exact At.z | apply At.s))) (by (repeat (first | exact At.z | apply At.s))) (by (repeat (first | exact At.z | apply At.s)))) rd0 sm ?_
    intro h5 hs J hJ
    rw [if_neg (by simp), if_neg (by simp), if_neg (by simp), if_neg (by simp)]
    apply hJ
    (repeat first | refine ⟨_, Sat.ld hs (by (repeat (first | exact At.z | apply At.s))) (by rfl), ?_⟩ | refine ⟨_, _, _, Sat.ld hs (by (repeat (first | exact At.z | apply At.s))) (by rfl), ?_⟩ | (intro _ _ hn; replace hs := Sat.new hs hn; clear hn) | refine ⟨Sat.cs hs (by (repeat (first | exact At.z | apply At.s))) (by rfl), ?_⟩ | (refine ⟨Sat.can hs (by (repeat (first | exact At.z | apply At.s))) (by simp), ?_⟩; intro _ e; replace hs := Sat.wr hs (by (repeat (first | exact At.z | apply At.s))) e; clear e; simp only [put, splice, List.set] at hs))
    replace hs := Sat.front hs (e := sE c2 1 (bools s.blown)) (by (repeat (first | exact At.z | apply At.s)))
    replace hs := Sat.front hs (e := sE b2 1 (ints .i64 s.erases)) (by (repeat (first | exact At.z | apply At.s)))
    replace hs := Sat.front hs (e := matE 32 a2 s.pages) (by (repeat (first | exact At.z | apply At.s)))
    simp only [del] at hs
    refine wreck_sp (a := a2) (b := b2) (c := c2) hs sm ?_
    intro h6 hs
    rw [if_pos (by simp)]
    exact k _ hs.ex
  · intro m nl h3 hs
    (repeat first | refine ⟨_, Sat.ld hs (by (repeat (first | exact At.z | apply At.s))) (by rfl), ?_⟩ | refine ⟨_, _, _, Sat.ld hs (by (repeat (first | exact At.z | apply At.s))) (by rfl), ?_⟩ | (intro _ _ hn; replace hs := Sat.new hs hn; clear hn) | refine ⟨Sat.cs hs (by (repeat (first | exact At.z | apply At.s))) (by rfl), ?_⟩ | (refine ⟨Sat.can hs (by (repeat (first | exact At.z | apply At.s))) (by simp), ?_⟩; intro _ e; replace hs := Sat.wr hs (by (repeat (first | exact At.z | apply At.s))) e; clear e; simp only [put, splice, List.set] at hs))
    refine rLay_sp (a := a) (b := b) (c' := c') (s := s) c hs (fun h' hs' => rd0.ext hs'.ex) ty (fun nm => absurd m nm) ?_ (fun _ l => absurd l nl)
    intro _ _ h4 hs
    (repeat first | refine ⟨_, Sat.ld hs (by (repeat (first | exact At.z | apply At.s))) (by rfl), ?_⟩ | refine ⟨_, _, _, Sat.ld hs (by (repeat (first | exact At.z | apply At.s))) (by rfl), ?_⟩ | (intro _ _ hn; replace hs := Sat.new hs hn; clear hn) | refine ⟨Sat.cs hs (by (repeat (first | exact At.z | apply At.s))) (by rfl), ?_⟩ | (refine ⟨Sat.can hs (by (repeat (first | exact At.z | apply At.s))) (by simp), ?_⟩; intro _ e; replace hs := Sat.wr hs (by (repeat (first | exact At.z | apply At.s))) e; clear e; simp only [put, splice, List.set] at hs))
    refine SameState_args (a := a2) (b := b2) (c := c2) (a2 := a) (b2 := b) (c2 := c') (s := s) hs (fun h' hs' => sat_rdS hs' (i := 1) (j := 2) (k := 3) (by (repeat (first | exact At.z | apply At.s))) (by (repeat (first | exact At.z | apply At.s))) (by (repeat (first | exact At.z | apply At.s)))) rd0 sm ?_
    intro h5 hs J hJ
    rw [if_neg (by simp), if_neg (by simp), if_neg (by simp), if_neg (by simp)]
    apply hJ
    (repeat first | refine ⟨_, Sat.ld hs (by (repeat (first | exact At.z | apply At.s))) (by rfl), ?_⟩ | refine ⟨_, _, _, Sat.ld hs (by (repeat (first | exact At.z | apply At.s))) (by rfl), ?_⟩ | (intro _ _ hn; replace hs := Sat.new hs hn; clear hn) | refine ⟨Sat.cs hs (by (repeat (first | exact At.z | apply At.s))) (by rfl), ?_⟩ | (refine ⟨Sat.can hs (by (repeat (first | exact At.z | apply At.s))) (by simp), ?_⟩; intro _ e; replace hs := Sat.wr hs (by (repeat (first | exact At.z | apply At.s))) e; clear e; simp only [put, splice, List.set] at hs))
    replace hs := Sat.front hs (e := sE c2 1 (bools s.blown)) (by (repeat (first | exact At.z | apply At.s)))
    replace hs := Sat.front hs (e := sE b2 1 (ints .i64 s.erases)) (by (repeat (first | exact At.z | apply At.s)))
    replace hs := Sat.front hs (e := matE 32 a2 s.pages) (by (repeat (first | exact At.z | apply At.s)))
    simp only [del] at hs
    refine wreck_sp (a := a2) (b := b2) (c := c2) hs sm ?_
    intro h6 hs
    rw [if_pos (by simp)]
    exact k _ hs.ex
  · intro m l pc h3 hs
    (repeat first | refine ⟨_, Sat.ld hs (by (repeat (first | exact At.z | apply At.s))) (by rfl), ?_⟩ | refine ⟨_, _, _, Sat.ld hs (by (repeat (first | exact At.z | apply At.s))) (by rfl), ?_⟩ | (intro _ _ hn; replace hs := Sat.new hs hn; clear hn) | refine ⟨Sat.cs hs (by (repeat (first | exact At.z | apply At.s))) (by rfl), ?_⟩ | (refine ⟨Sat.can hs (by (repeat (first | exact At.z | apply At.s))) (by simp), ?_⟩; intro _ e; replace hs := Sat.wr hs (by (repeat (first | exact At.z | apply At.s))) e; clear e; simp only [put, splice, List.set] at hs))
    refine rLay_sp (a := a) (b := b) (c' := c') (s := s) c hs (fun h' hs' => rd0.ext hs'.ex) ty (fun nm => absurd m nm) (fun _ nl => absurd l nl) ?_
    intro _ _ pr h4 hs
    (repeat first | refine ⟨_, Sat.ld hs (by (repeat (first | exact At.z | apply At.s))) (by rfl), ?_⟩ | refine ⟨_, _, _, Sat.ld hs (by (repeat (first | exact At.z | apply At.s))) (by rfl), ?_⟩ | (intro _ _ hn; replace hs := Sat.new hs hn; clear hn) | refine ⟨Sat.cs hs (by (repeat (first | exact At.z | apply At.s))) (by rfl), ?_⟩ | (refine ⟨Sat.can hs (by (repeat (first | exact At.z | apply At.s))) (by simp), ?_⟩; intro _ e; replace hs := Sat.wr hs (by (repeat (first | exact At.z | apply At.s))) e; clear e; simp only [put, splice, List.set] at hs))
    refine SameState_args (a := a2) (b := b2) (c := c2) (a2 := a) (b2 := b) (c2 := c') (s := s) hs (fun h' hs' => sat_rdS hs' (i := 3) (j := 4) (k := 5) (by (repeat (first | exact At.z | apply At.s))) (by (repeat (first | exact At.z | apply At.s))) (by (repeat (first | exact At.z | apply At.s)))) rd0 sm ?_
    intro h5 hs J hJ
    rw [if_neg (by simp), if_neg (by simp), if_neg (by simp), if_neg (by simp)]
    apply hJ
    (repeat first | refine ⟨_, Sat.ld hs (by (repeat (first | exact At.z | apply At.s))) (by rfl), ?_⟩ | refine ⟨_, _, _, Sat.ld hs (by (repeat (first | exact At.z | apply At.s))) (by rfl), ?_⟩ | (intro _ _ hn; replace hs := Sat.new hs hn; clear hn) | refine ⟨Sat.cs hs (by (repeat (first | exact At.z | apply At.s))) (by rfl), ?_⟩ | (refine ⟨Sat.can hs (by (repeat (first | exact At.z | apply At.s))) (by simp), ?_⟩; intro _ e; replace hs := Sat.wr hs (by (repeat (first | exact At.z | apply At.s))) e; clear e; simp only [put, splice, List.set] at hs))
    replace hs := Sat.front hs (e := sE c2 1 (bools s.blown)) (by (repeat (first | exact At.z | apply At.s)))
    replace hs := Sat.front hs (e := sE b2 1 (ints .i64 s.erases)) (by (repeat (first | exact At.z | apply At.s)))
    replace hs := Sat.front hs (e := matE 32 a2 s.pages) (by (repeat (first | exact At.z | apply At.s)))
    simp only [del] at hs
    refine wreck_sp (a := a2) (b := b2) (c := c2) hs sm ?_
    intro h6 hs
    rw [if_neg (by simp)]
    (repeat first | refine ⟨_, Sat.ld hs (by (repeat (first | exact At.z | apply At.s))) (by rfl), ?_⟩ | refine ⟨_, _, _, Sat.ld hs (by (repeat (first | exact At.z | apply At.s))) (by rfl), ?_⟩ | (intro _ _ hn; replace hs := Sat.new hs hn; clear hn) | refine ⟨Sat.cs hs (by (repeat (first | exact At.z | apply At.s))) (by rfl), ?_⟩ | (refine ⟨Sat.can hs (by (repeat (first | exact At.z | apply At.s))) (by simp), ?_⟩; intro _ e; replace hs := Sat.wr hs (by (repeat (first | exact At.z | apply At.s))) e; clear e; simp only [put, splice, List.set] at hs))
    refine ⟨_, rfl, ?_⟩
    refine State_sp hs (C := layC c s) (p := pc) (i := 1) (.s .z) ?_
    intro a3 b3 c3 h7 hs
    replace hs : Sat h0 (matE 32 a3 s.pages :: sE b3 1 (ints .i64 s.erases) :: sE c3 1 (bools s.blown) :: refE pr (layC c s) :: chipE pc (layC c s) :: blk n3 [a2.v, b2.v, c2.v] :: [blk n2 [a.v, b.v, c'.v], blk n1 [.int .i64 c.cells, .int .i64 c.slots, .int .i64 c.fuses, .int .i64 c.step, .int .i64 c.keys, .int .i64 c.erases, .int .i64 c.area]]) h7 := hs
    refine ⟨Sat.cs hs (by (repeat (first | exact At.z | apply At.s))) (by rfl), ?_⟩
    refine Lay_sp (a := a3) (b := b3) (c' := c3) (s := s) c hs (fun h' hs' => sat_rdS hs' (i := 0) (j := 1) (k := 2) (by (repeat (first | exact At.z | apply At.s))) (by (repeat (first | exact At.z | apply At.s))) (by (repeat (first | exact At.z | apply At.s)))) ty (fun nm => absurd m nm) (fun _ nl => absurd l nl) ?_
    intro _ _ pq h8 hs
    rw [if_neg (by simp), if_neg (by simp)]
    (repeat first | refine ⟨_, Sat.ld hs (by (repeat (first | exact At.z | apply At.s))) (by rfl), ?_⟩ | refine ⟨_, _, _, Sat.ld hs (by (repeat (first | exact At.z | apply At.s))) (by rfl), ?_⟩ | (intro _ _ hn; replace hs := Sat.new hs hn; clear hn) | refine ⟨Sat.cs hs (by (repeat (first | exact At.z | apply At.s))) (by rfl), ?_⟩ | (refine ⟨Sat.can hs (by (repeat (first | exact At.z | apply At.s))) (by simp), ?_⟩; intro _ e; replace hs := Sat.wr hs (by (repeat (first | exact At.z | apply At.s))) e; clear e; simp only [put, splice, List.set] at hs))
    refine ⟨_, rfl, ?_⟩
    refine State_sp hs (C := layC c s) (p := pq) (i := 0) .z ?_
    intro a4 b4 c4 h9 hs
    replace hs : Sat h0 (matE 32 a4 s.pages :: sE b4 1 (ints .i64 s.erases) :: sE c4 1 (bools s.blown) :: chipE pq (layC c s) :: matE 32 a3 s.pages :: sE b3 1 (ints .i64 s.erases) :: sE c3 1 (bools s.blown) :: refE pr (layC c s) :: chipE pc (layC c s) :: blk n3 [a2.v, b2.v, c2.v] :: [blk n2 [a.v, b.v, c'.v], blk n1 [.int .i64 c.cells, .int .i64 c.slots, .int .i64 c.fuses, .int .i64 c.step, .int .i64 c.keys, .int .i64 c.erases, .int .i64 c.area]]) h9 := hs
    refine ⟨Sat.cs hs (by (repeat (first | exact At.z | apply At.s))) (by rfl), ?_⟩
    refine SameState_args (a := a4) (b := b4) (c := c4) (a2 := a) (b2 := b) (c2 := c') (s := s) hs (fun h' hs' => sat_rdS hs' (i := 0) (j := 1) (k := 2) (by (repeat (first | exact At.z | apply At.s))) (by (repeat (first | exact At.z | apply At.s))) (by (repeat (first | exact At.z | apply At.s)))) rd0 sm ?_
    intro h10 hs
    rw [if_pos (by simp)]
    refine ⟨_, rfl, _, rfl, ?_⟩
    replace hs := Sat.front hs (e := refE pr (layC c s)) (by (repeat (first | exact At.z | apply At.s)))
    replace hs := Sat.front hs (e := chipE pc (layC c s)) (by (repeat (first | exact At.z | apply At.s)))
    exact game_sp (C := layC c s) sc rd hs k
end
end Go.Proofs.Ytamfkofcpoglnaa
