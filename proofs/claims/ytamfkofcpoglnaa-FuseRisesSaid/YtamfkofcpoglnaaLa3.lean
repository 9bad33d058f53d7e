/- Contracts of the chip's statements: a step. Own work. -/
import Derived.Test.YtamfkofcpoglnaaFa4
import Derived.Test.YtamfkofcpoglnaaLa2
set_option autoImplicit false
set_option linter.all false
set_option maxRecDepth 100000
set_option linter.unusedVariables false
namespace Go.Proofs.Ytamfkofcpoglnaa
open Go Go.Vc

/-- A step of a script over a chip. -/
structure Stp where
  kind : Int
  a : Int
  b : Int
  x : List Int
  mask : List Int
structure Stp.ok (s : Stp) : Prop where
  a : -(2 ^ 63) ≤ s.a ∧ s.a < 2 ^ 63
  x : s.x.length = 32
  mb : bytesOk s.mask
  ml : s.mask.length + 4096 ≤ 2 ^ 47
def stepM (C : Cm) (s : Stp) : Cm :=
  if s.kind = 2 then (programM C s.a s.b s.x).1 else if s.kind = 3 then (eraseM C s.a).1 else if s.kind = 4 then (blowM C s.a).1
  else if s.kind = 7 then cutM C s.a s.mask else if s.kind = 8 then { C with out := false } else C

theorem get_x (a b c : Int) (x : List Int) (m : Value) (hx : x.length = 32) : (Value.int .i64 a :: .int .i64 b :: .int .i64 c :: (ints .u8 x ++ [m]))[35]? = some m := by
  have : (ints .u8 x).length = 32 := by simpa using hx
  simp [this]
theorem row_x (a b c : Int) (x : List Int) (m : Value) (hx : x.length = 32) : ∀ i, i < x.length → (Value.int .i64 a :: .int .i64 b :: .int .i64 c :: (ints .u8 x ++ [m]))[3 + i]? = x[i]?.map (Value.int .u8) := by
  intro i hi
  have : (ints .u8 x).length = x.length := by simp
  rw [show 3 + i = i + 1 + 1 + 1 by omega]
  simp only [List.getElem?_cons_succ]
  rw [List.getElem?_append_left (by omega), ints_get]

section
variable {h0 h : H} {A : List Ent} {i j p r : Nat} {C : Cm}
theorem step_sp {Q : Bool → H → Prop} (s : Stp) (so : s.ok) {mp : Option Addr} {ml mc : Nat} (hs : Sat h0 A h) (ci : At A i (chipE p C)) (cj : At A j (refE r C)) (ij : i ≠ j) (rd : hsv h0 mp 1 ml (ints .u8 s.mask))
    (k : ∀ h', Sat h0 (put (put A i (chipE p (stepM C s))) j (refE r (stepM C s))) h' → Q true h') :
    F_portcullislaw04_pair_step (some ⟨p, 0, none⟩) (some ⟨r, 0, none⟩) s.kind s.a s.b s.x mp ml mc Q h := by
  unfold F_portcullislaw04_pair_step G_portcullislaw04_pair_step
  simp only [add_mk, Nat.zero_add, List.append_nil]
  have ok := chip_ok hs ci
  have hx := so.x
  intro n0 _ hn; replace hs := Sat.new hs hn; clear hn
  intro n1 _ hn; replace hs := Sat.new hs hn; clear hn
  obtain ⟨kind, a, b, x, mask⟩ := s
  dsimp only at *
  have same : put (put A i (chipE p C)) j (refE r C) = A := by rw [ci.put_self, cj.put_self]
  refine ⟨_, Sat.ld hs (by (repeat (first | exact At.z | apply At.s))) (by rfl), ?_⟩
  unfold stepM at k
  dsimp only at k
  by_cases h1 : kind = 1
  · subst h1
    simp only [show ((1 : Int) = 2) = False by simp, show ((1 : Int) = 3) = False by simp, show ((1 : Int) = 4) = False by simp, show ((1 : Int) = 7) = False by simp, show ((1 : Int) = 8) = False by simp, if_false, same] at k
    rw [if_pos (by simp)]
    refine ⟨_, Sat.ld hs (by (repeat (first | exact At.z | apply At.s))) (by rfl), ?_⟩
    refine ⟨_, Sat.ld hs (by (repeat (first | exact At.z | apply At.s))) (by rfl), ?_⟩
    refine ⟨_, Sat.ld hs (by (repeat (first | exact At.z | apply At.s))) (by rfl), ?_⟩
    refine ⟨_, rfl, ?_⟩
    refine Read_sp hs ci.s.s _ _ ?_
    intro h2 hs
    intro n2 _ hn; replace hs := Sat.new hs hn; clear hn
    have hr : (readM C a b).1.length = 32 := by
      unfold readM; split
      · simp
      · rename_i h3
        obtain ⟨_, _, _, _, _, hj, _, hk⟩ := asksCellM_zero ok (by simpa using h3)
        rw [show C.s.pages.getD a.toNat [] = C.s.pages[a.toNat] by simp [List.getD, List.getElem?_eq_getElem hj]]
        exact cellAt_length hk
    (refine ⟨Sat.can hs (by (repeat (first | exact At.z | apply At.s))) (by simp), ?_⟩; intro _ e; replace hs := Sat.wra hs (by (repeat (first | exact At.z | apply At.s))) e (by simp [*]); clear e; simp only [put] at hs)
    refine ⟨_, Sat.ld hs (by (repeat (first | exact At.z | apply At.s))) (by rfl), ?_⟩
    refine ⟨_, Sat.ld hs (by (repeat (first | exact At.z | apply At.s))) (by rfl), ?_⟩
    refine ⟨_, Sat.ld hs (by (repeat (first | exact At.z | apply At.s))) (by rfl), ?_⟩
    refine ⟨_, rfl, ?_⟩
    refine rRead_sp hs cj.s.s.s _ _ ?_
    intro h3 hs
    intro n3 _ hn; replace hs := Sat.new hs hn; clear hn
    (refine ⟨Sat.can hs (by (repeat (first | exact At.z | apply At.s))) (by simp), ?_⟩; intro _ e; replace hs := Sat.wra hs (by (repeat (first | exact At.z | apply At.s))) e (by simp [*]); clear e; simp only [put] at hs)
    refine ⟨_, hr, hs.row0 (.s .z), _, hr, hs.row0 .z, ?_⟩
    rw [if_pos (by simp)]
    have := k _ hs.drop.drop.drop.drop
    simpa using this
  rw [if_neg (by simpa using h1)]
  by_cases h2 : kind = 2
  · subst h2
    rw [if_pos rfl] at k
    rw [if_pos (by simp)]
    refine ⟨_, Sat.ld hs (by (repeat (first | exact At.z | apply At.s))) (by rfl), ?_⟩
    refine ⟨_, Sat.ld hs (by (repeat (first | exact At.z | apply At.s))) (by rfl), ?_⟩
    refine ⟨_, Sat.ld hs (by (repeat (first | exact At.z | apply At.s))) (by rfl), ?_⟩
    refine ⟨_, hx, hs.row .z (row_x _ _ _ _ _ hx), _, rfl, ?_⟩
    refine Program_sp hs ci.s.s a b x hx ?_
    intro h2 hs
    simp only [put_succ] at hs
    refine ⟨_, Sat.ld hs (by (repeat (first | exact At.z | apply At.s))) (by rfl), ?_⟩
    refine ⟨_, Sat.ld hs (by (repeat (first | exact At.z | apply At.s))) (by rfl), ?_⟩
    refine ⟨_, Sat.ld hs (by (repeat (first | exact At.z | apply At.s))) (by rfl), ?_⟩
    refine ⟨_, hx, hs.row .z (row_x _ _ _ _ _ hx), _, rfl, ?_⟩
    refine rProgram_sp hs (cj.put_ne (Ne.symm ij) _).s.s a b x hx ?_
    intro h3 hs
    have := k _ hs.drop.drop
    simpa using this
  rw [if_neg (by simpa using h2)]
  rw [if_neg h2] at k
  by_cases h3 : kind = 3
  · subst h3
    rw [if_pos rfl] at k
    rw [if_pos (by simp)]
    refine ⟨_, Sat.ld hs (by (repeat (first | exact At.z | apply At.s))) (by rfl), ?_⟩
    refine ⟨_, Sat.ld hs (by (repeat (first | exact At.z | apply At.s))) (by rfl), ?_⟩
    refine ⟨_, rfl, ?_⟩
    refine Erase_sp hs ci.s.s a ?_
    intro h2 hs
    simp only [put_succ] at hs
    refine ⟨_, Sat.ld hs (by (repeat (first | exact At.z | apply At.s))) (by rfl), ?_⟩
    refine ⟨_, Sat.ld hs (by (repeat (first | exact At.z | apply At.s))) (by rfl), ?_⟩
    refine ⟨_, rfl, ?_⟩
    refine rErase_sp hs (cj.put_ne (Ne.symm ij) _).s.s a ?_
    intro h3 hs
    have := k _ hs.drop.drop
    simpa using this
  rw [if_neg (by simpa using h3)]
  rw [if_neg h3] at k
  by_cases h4 : kind = 4
  · subst h4
    rw [if_pos rfl] at k
    rw [if_pos (by simp)]
    refine ⟨_, Sat.ld hs (by (repeat (first | exact At.z | apply At.s))) (by rfl), ?_⟩
    refine ⟨_, Sat.ld hs (by (repeat (first | exact At.z | apply At.s))) (by rfl), ?_⟩
    refine ⟨_, rfl, ?_⟩
    refine Blow_sp hs ci.s.s a ?_
    intro h2 hs
    simp only [put_succ] at hs
    refine ⟨_, Sat.ld hs (by (repeat (first | exact At.z | apply At.s))) (by rfl), ?_⟩
    refine ⟨_, Sat.ld hs (by (repeat (first | exact At.z | apply At.s))) (by rfl), ?_⟩
    refine ⟨_, rfl, ?_⟩
    refine rBlow_sp hs (cj.put_ne (Ne.symm ij) _).s.s a ?_
    intro h3 hs
    have := k _ hs.drop.drop
    simpa using this
  rw [if_neg (by simpa using h4)]
  rw [if_neg h4] at k
  by_cases h5 : kind = 5
  · subst h5
    simp only [show ((5 : Int) = 7) = False by simp, show ((5 : Int) = 8) = False by simp, if_false, same] at k
    rw [if_pos (by simp)]
    refine ⟨_, Sat.ld hs (by (repeat (first | exact At.z | apply At.s))) (by rfl), ?_⟩
    refine ⟨_, Sat.ld hs (by (repeat (first | exact At.z | apply At.s))) (by rfl), ?_⟩
    refine ⟨_, rfl, ?_⟩
    refine Blown_sp hs ci.s.s a ?_
    refine ⟨_, Sat.ld hs (by (repeat (first | exact At.z | apply At.s))) (by rfl), ?_⟩
    refine ⟨_, Sat.ld hs (by (repeat (first | exact At.z | apply At.s))) (by rfl), ?_⟩
    refine ⟨_, rfl, ?_⟩
    refine rBlown_sp hs cj.s.s a ?_
    rw [if_pos (by simp)]
    have := k _ hs.drop.drop
    simpa using this
  rw [if_neg (by simpa using h5)]
  by_cases h6 : kind = 6
  · subst h6
    simp only [show ((6 : Int) = 7) = False by simp, show ((6 : Int) = 8) = False by simp, if_false, same] at k
    rw [if_pos (by simp)]
    refine ⟨_, Sat.ld hs (by (repeat (first | exact At.z | apply At.s))) (by rfl), ?_⟩
    refine ⟨_, Sat.ld hs (by (repeat (first | exact At.z | apply At.s))) (by rfl), ?_⟩
    refine ⟨_, rfl, ?_⟩
    refine Erases_sp hs ci.s.s a ?_
    refine ⟨_, Sat.ld hs (by (repeat (first | exact At.z | apply At.s))) (by rfl), ?_⟩
    refine ⟨_, Sat.ld hs (by (repeat (first | exact At.z | apply At.s))) (by rfl), ?_⟩
    refine ⟨_, rfl, ?_⟩
    refine rErases_sp hs cj.s.s a ?_
    rw [if_pos (by simp)]
    have := k _ hs.drop.drop
    simpa using this
  rw [if_neg (by simpa using h6)]
  by_cases h7 : kind = 7
  · subst h7
    rw [if_pos rfl] at k
    rw [if_pos (by simp)]
    intro n2 _ hn; replace hs := Sat.new hs hn; clear hn
    refine ⟨_, _, _, hs.ld (.s .z) (get_x _ _ _ _ _ hx), ?_⟩
    have rd1 := hs.base rd
    have hml := rd1.1
    simp only [ints_length, Nat.mul_one] at hml
    have hmm : mask.length + 4096 ≤ 2 ^ 47 := so.ml
    refine ⟨_, rd1, Sat.app_new hs rd1.1 rfl (ints_one _ _) (by omega) ?_⟩
    intro p' c' h2 hs
    refine ⟨_, Sat.ld hs (by (repeat (first | exact At.z | apply At.s))) (by rfl), ?_⟩
    refine ⟨_, Sat.ld hs (by (repeat (first | exact At.z | apply At.s))) (by rfl), ?_⟩
    refine ⟨_, rfl, ?_⟩
    refine Cut_sp hs ci.s.s.s.s a so.a.2 (hs.sv .z) so.mb (by omega) ?_
    intro h3 hs
    simp only [put_succ] at hs
    refine ⟨_, Sat.ld hs (by (repeat (first | exact At.z | apply At.s))) (by rfl), ?_⟩
    refine ⟨_, Sat.ld hs (by (repeat (first | exact At.z | apply At.s))) (by rfl), ?_⟩
    refine ⟨_, _, _, hs.ld (.s (.s .z)) (get_x _ _ _ _ _ hx), _, rfl, ?_⟩
    refine rCut_sp hs (cj.put_ne (Ne.symm ij) _).s.s.s.s a so.a.2 (fun C' h' hs' => hs'.base rd) so.mb (by omega) ?_
    intro h4 hs
    simp only [put_succ] at hs
    refine ⟨_, hs.sv .z, ?_⟩
    refine ⟨_, _, _, hs.ld (.s (.s .z)) (get_x _ _ _ _ _ hx), ?_⟩
    refine ⟨_, hs.base rd, ?_⟩
    intro J hJ
    refine loop_up ml (fun n h => ∃ ns : List Int, ns.length = ml ∧ Sat h0 (slE p' ml c' 1 (ints .u8 ns) :: put (put A i (chipE p (cutM C a mask))) j (refE r (cutM C a mask))) h) ?_ ?_ 0 _ (by omega) ⟨mask, by omega, hs.sub (by (repeat (first | exact List.Sublist.refl _ | apply List.Sublist.cons_cons | apply List.Sublist.cons)))⟩
    · rintro n h5 hn ⟨ns, hns, hs⟩ hk
      apply hJ
      rw [ltI_eq, if_pos (by simp; omega)]
      obtain ⟨q, hq⟩ := hs.sl_some .z (by omega)
      subst hq
      refine ⟨_, rfl, by omega, by omega, ?_⟩
      simp only [add_mk, Nat.zero_add, Int.toNat_natCast, Nat.mul_one]
      refine ⟨_, hs.sld .z (by rw [ints_get, List.getElem?_eq_getElem (show n < ns.length by omega)]; rfl), _, rfl, by omega, by omega, ?_⟩
      simp only [add_mk, Nat.zero_add]
      refine ⟨hs.scan .z (by omega) (by simp; omega), ?_⟩
      intro h6 e6
      replace hs := hs.swr .z e6 (by omega) (by simp; omega) (by simp)
      simp only [put, splice, ints_set] at hs
      rw [wrap_succ (by omega)]
      exact hk _ ⟨_, by simpa using hns, hs⟩
    · rintro h5 ⟨ns, hns, hs⟩
      apply hJ
      rw [ltI_eq, if_neg (by simp)]
      have := k _ hs.drop
      simpa using this
  rw [if_neg (by simpa using h7)]
  rw [if_neg h7] at k
  by_cases h8 : kind = 8
  · subst h8
    rw [if_pos rfl] at k
    rw [if_pos (by simp)]
    refine ⟨_, Sat.ld hs (by (repeat (first | exact At.z | apply At.s))) (by rfl), ?_⟩
    refine ⟨_, rfl, ?_⟩
    refine Restore_sp hs ci.s.s ?_
    intro h2 hs
    simp only [put_succ] at hs
    refine ⟨_, Sat.ld hs (by (repeat (first | exact At.z | apply At.s))) (by rfl), ?_⟩
    refine ⟨_, rfl, ?_⟩
    refine rRestore_sp hs (cj.put_ne (Ne.symm ij) _).s.s ?_
    intro h3 hs
    exact k _ hs.drop.drop
  rw [if_neg (by simpa using h8)]
  rw [if_neg h8, same] at k
  refine ⟨_, Sat.ld hs (by (repeat (first | exact At.z | apply At.s))) (by rfl), ?_⟩
  refine ⟨_, Sat.ld hs (by (repeat (first | exact At.z | apply At.s))) (by rfl), ?_⟩
  refine same_sp hs ci.s.s cj.s.s ?_
  intro h2 hs
  exact k _ hs.drop.drop
end
end Go.Proofs.Ytamfkofcpoglnaa
