/- Contracts of the fuses' statements: FuseDoes. Own work. -/
import Derived.Test.YtamfkofcpoglnaaFa3
import Derived.Test.YtamfkofcpoglnaaFa7
import Derived.Test.YtamfkofcpoglnaaFu3
set_option autoImplicit false
set_option linter.all false
set_option maxRecDepth 100000
set_option linter.unusedVariables false
namespace Go.Proofs.Ytamfkofcpoglnaa
open Go Go.Vc

theorem At.del_ne {A : List Ent} {i j : Nat} {e : Ent} (a : At A i e) (h : i ≠ j) : ∃ i', At (del A j) i' e := by
  induction a generalizing j with
  | z =>
    cases j with
    | zero => exact absurd rfl h
    | succ j => exact ⟨0, .z⟩
  | s a ih =>
    cases j with
    | zero => exact ⟨_, a⟩
    | succ j =>
      obtain ⟨i', x⟩ := ih (j := j) (by omega)
      exact ⟨i' + 1, x.s⟩
section
variable {h0 h : H} {A : List Ent} {i j p r : Nat} {C : Cm}
theorem state_same {Q : Bool → H → Prop} (hs : Sat h0 A h) (ci : At A i (chipE p C)) (cj : At A j (refE r C)) (k : ∀ h', Sat h0 A h' → Q true h') :
    ∃ o1 n1 m1, hc h ⟨r, 7, none⟩ = some (.slice o1 n1 m1) ∧ ∃ o2 n2 m2, hc h ⟨r, 8, none⟩ = some (.slice o2 n2 m2) ∧ ∃ o3 n3 m3, hc h ⟨r, 9, none⟩ = some (.slice o3 n3 m3) ∧
      ∃ q, (some ⟨p, 0, none⟩ : Option Addr) = some q ∧ F_chip_Chip_State q (fun o4 n4 m4 o5 n5 m5 o6 n6 m6 h' => hcs h' ⟨r, 7, none⟩ [.slice o1 n1 m1, .slice o2 n2 m2, .slice o3 n3 m3] ∧
        F_portcullisref04_SameState o4 n4 m4 o5 n5 m5 o6 n6 m6 o1 n1 m1 o2 n2 m2 o3 n3 m3 Q h') h := by
  have ok := chip_ok hs ci
  have sm := ok.small
  obtain ⟨z1, z2, z3, z4⟩ := small_lt sm
  obtain ⟨i', ci'⟩ := At.del_ne ci (chip_ne_ref ci cj)
  obtain ⟨⟨w, ms⟩, ⟨_, mb, ml, me⟩, hs⟩ := (hs.front cj).open_
  replace hs : Sat h0 (blk r (C.cells w.a w.b w.c w.m) :: matE 32 w.a C.s.pages :: sE w.b 1 (ints .i64 C.s.erases) :: sE w.c 1 (bools C.s.blown) :: sE w.m 1 (ints .u8 ms) :: del A j) _ := hs
  refine ⟨_, _, _, hs.ld .z rfl, _, _, _, hs.ld .z rfl, _, _, _, hs.ld .z rfl, _, rfl, ?_⟩
  refine State_sp hs (i := i' + 5) ci'.s.s.s.s.s ?_
  intro a2 b2 c2 h2 hs
  replace hs : Sat h0 (matE 32 a2 C.s.pages :: sE b2 1 (ints .i64 C.s.erases) :: sE c2 1 (bools C.s.blown) :: blk r (C.cells w.a w.b w.c w.m) :: matE 32 w.a C.s.pages :: sE w.b 1 (ints .i64 C.s.erases) :: sE w.c 1 (bools C.s.blown) :: sE w.m 1 (ints .u8 ms) :: del A j) h2 := hs
  refine ⟨Sat.cs hs (by (repeat (first | exact At.z | apply At.s))) (by rfl), ?_⟩
  refine SameState_sp (a := a2) (b := b2) (c := c2) (a2 := w.a) (b2 := w.b) (c2 := w.c) (s := C.s) hs
    (fun h' hs' => sat_rdS hs' (i := 0) (j := 1) (k := 2) (by (repeat (first | exact At.z | apply At.s))) (by (repeat (first | exact At.z | apply At.s))) (by (repeat (first | exact At.z | apply At.s)))) (fun h' hs' => sat_rdS hs' (i := 4) (j := 5) (k := 6) (by (repeat (first | exact At.z | apply At.s))) (by (repeat (first | exact At.z | apply At.s))) (by (repeat (first | exact At.z | apply At.s)))) z1 z2 z3 z4 ?_
  intro h3 hs
  refine k _ ?_
  have := ref_close (C := C) (a := w.a) (b := w.b) (c := w.c) (m := w.m) ok mb ml me cj hs.drop.drop.drop
  rwa [cj.put_self] at this

structure Stp7 where
  kind : Int
  a : Int
  n : Int
structure Stp7.ok (s : Stp7) : Prop where
  n : s.n < 2 ^ 63
def step7M (C : Cm) (s : Stp7) : Cm :=
  if s.kind = 1 then C else if s.kind = 2 then (raiseM C s.a s.n).1 else if s.kind = 3 then C else if s.kind = 4 then (revokeM C s.a).1
  else if s.kind = 5 then cutM C s.n [IntKind.u8.wrap s.a] else if s.kind = 6 then (blowM C s.a).1 else { C with out := false }
theorem step7_sp {Q : Bool → H → Prop} (s : Stp7) (so : s.ok) (hs : Sat h0 A h) (ci : At A i (chipE p C)) (cj : At A j (refE r C)) (ij : i ≠ j)
    (k : ∀ h', Sat h0 (put (put A i (chipE p (step7M C s))) j (refE r (step7M C s))) h' → Q true h') :
    F_portcullislaw07_step ⟨p, 0, none⟩ ⟨r, 0, none⟩ s.kind s.a s.n Q h := by
  unfold F_portcullislaw07_step G_portcullislaw07_step
  simp only [add_mk, Nat.zero_add, List.append_nil]
  intro n1 _ hn; replace hs := Sat.new hs hn; clear hn
  obtain ⟨kind, a, n⟩ := s
  dsimp only at *
  have same : put (put A i (chipE p C)) j (refE r C) = A := by rw [ci.put_self, cj.put_self]
  unfold step7M at k
  dsimp only at k
  have hcut := so.n
  dsimp only at hcut
  refine ⟨_, Sat.ld hs (by (repeat (first | exact At.z | apply At.s))) (by rfl), ?_⟩
  by_cases h1 : kind = 1
  · rw [if_pos h1, same] at k
    rw [if_pos (by simpa using h1)]
    refine ⟨_, Sat.ld hs (by (repeat (first | exact At.z | apply At.s))) (by rfl), ?_⟩
    refine Count_sp hs ci.s a ?_
    intro h2 hs
    refine ⟨_, Sat.ld hs (by (repeat (first | exact At.z | apply At.s))) (by rfl), ?_⟩
    refine rCount_sp hs cj.s a ?_
    intro h3 hs
    rw [if_pos (by simp)]
    have := k _ hs.drop
    simpa using this
  rw [if_neg (by simpa using h1)]
  rw [if_neg h1] at k
  by_cases h1 : kind = 2
  · rw [if_pos h1] at k
    rw [if_pos (by simpa using h1)]
    refine ⟨_, Sat.ld hs (by (repeat (first | exact At.z | apply At.s))) (by rfl), ?_⟩
    refine ⟨_, Sat.ld hs (by (repeat (first | exact At.z | apply At.s))) (by rfl), ?_⟩
    refine Raise_sp hs ci.s a n ?_
    intro h2 hs
    simp only [put_succ] at hs
    refine ⟨_, Sat.ld hs (by (repeat (first | exact At.z | apply At.s))) (by rfl), ?_⟩
    refine ⟨_, Sat.ld hs (by (repeat (first | exact At.z | apply At.s))) (by rfl), ?_⟩
    refine rRaise_sp hs (cj.put_ne (Ne.symm ij) _).s a n ?_
    intro h3 hs
    have := k _ hs.drop
    simpa using this
  rw [if_neg (by simpa using h1)]
  rw [if_neg h1] at k
  by_cases h1 : kind = 3
  · rw [if_pos h1, same] at k
    rw [if_pos (by simpa using h1)]
    refine ⟨_, Sat.ld hs (by (repeat (first | exact At.z | apply At.s))) (by rfl), ?_⟩
    refine Revoked_sp hs ci.s a ?_
    intro h2 hs
    refine ⟨_, Sat.ld hs (by (repeat (first | exact At.z | apply At.s))) (by rfl), ?_⟩
    refine rRevoked_sp hs cj.s a ?_
    intro h3 hs
    rw [if_pos (by simp)]
    have := k _ hs.drop
    simpa using this
  rw [if_neg (by simpa using h1)]
  rw [if_neg h1] at k
  by_cases h1 : kind = 4
  · rw [if_pos h1] at k
    rw [if_pos (by simpa using h1)]
    refine ⟨_, Sat.ld hs (by (repeat (first | exact At.z | apply At.s))) (by rfl), ?_⟩
    refine Revoke_sp hs ci.s a ?_
    intro h2 hs
    simp only [put_succ] at hs
    refine ⟨_, Sat.ld hs (by (repeat (first | exact At.z | apply At.s))) (by rfl), ?_⟩
    refine rRevoke_sp hs (cj.put_ne (Ne.symm ij) _).s a ?_
    intro h3 hs
    have := k _ hs.drop
    simpa using this
  rw [if_neg (by simpa using h1)]
  rw [if_neg h1] at k
  have hb : bytesOk [IntKind.u8.wrap a] := by
    intro x hx
    simp at hx
    subst hx
    unfold isByte
    rw [IntKind.wrap_u8]; omega
  by_cases h1 : kind = 5
  · rw [if_pos h1] at k
    rw [if_pos (by simpa using h1)]
    refine ⟨_, Sat.ld hs (by (repeat (first | exact At.z | apply At.s))) (by rfl), ?_⟩
    refine ⟨_, Sat.ld hs (by (repeat (first | exact At.z | apply At.s))) (by rfl), ?_⟩
    intro n2 _ hn; replace hs := Sat.new hs hn; clear hn
    refine Cut_sp (bs := [IntKind.u8.wrap a]) hs ci.s.s n hcut (hs.bv .z (by simp) (by simp)) hb (by decide) ?_
    intro h2 hs
    simp only [put_succ] at hs
    refine ⟨_, Sat.ld hs (by (repeat (first | exact At.z | apply At.s))) (by rfl), ?_⟩
    refine ⟨_, Sat.ld hs (by (repeat (first | exact At.z | apply At.s))) (by rfl), ?_⟩
    intro n3 _ hn; replace hs := Sat.new hs hn; clear hn
    refine rCut_sp (bs := [IntKind.u8.wrap a]) hs (cj.put_ne (Ne.symm ij) _).s.s.s n hcut (fun C' h' hs' => by
      simp only [put_succ] at hs'
      exact hs'.bv .z (by simp) (by simp)) hb (by simp) ?_
    intro h3 hs
    exact k _ hs.drop.drop.drop
  rw [if_neg (by simpa using h1)]
  rw [if_neg h1] at k
  by_cases h1 : kind = 6
  · rw [if_pos h1] at k
    rw [if_pos (by simpa using h1)]
    refine ⟨_, Sat.ld hs (by (repeat (first | exact At.z | apply At.s))) (by rfl), ?_⟩
    refine Blow_sp hs ci.s a ?_
    intro h2 hs
    simp only [put_succ] at hs
    refine ⟨_, Sat.ld hs (by (repeat (first | exact At.z | apply At.s))) (by rfl), ?_⟩
    refine rBlow_sp hs (cj.put_ne (Ne.symm ij) _).s a ?_
    intro h3 hs
    have := k _ hs.drop
    simpa using this
  rw [if_neg (by simpa using h1)]
  rw [if_neg h1] at k
  refine Restore_sp hs ci.s ?_
  intro h2 hs
  simp only [put_succ] at hs
  refine rRestore_sp hs (cj.put_ne (Ne.symm ij) _).s ?_
  intro h3 hs
  exact k _ hs.drop
abbrev fix7C : Cm := freshC ⟨4, 1, 3, 1, 1, 1, 0⟩
abbrev fix7D : Cm := (raiseM fix7C 0 2).1
abbrev fix7E : Cm := (revokeM fix7D 0).1
theorem fixed7_sp {Q : Bool → H → Prop} (hs : Sat h0 A h) (k : ∀ h', Sat h0 A h' → Q true h') : F_portcullislaw07_fixed Q h := by
  unfold F_portcullislaw07_fixed G_portcullislaw07_fixed
  refine New_sp ⟨4, 1, 3, 1, 1, 1, 0⟩ hs (fun nm => absurd (show Cfg.may ⟨4, 1, 3, 1, 1, 1, 0⟩ by decide) nm) ?_
  intro _ p h1 hs
  intro J hJ
  rw [if_neg (by simp), if_neg (by simp)]
  apply hJ
  refine ⟨_, rfl, ?_⟩
  refine Raise_sp hs .z 0 2 ?_
  intro h2 hs
  replace hs : Sat h0 (chipE p fix7D :: A) h2 := hs
  refine ⟨_, rfl, ?_⟩
  refine Count_sp hs .z 0 ?_
  intro h3 hs
  refine ⟨_, rfl, ?_⟩
  refine Revoke_sp hs .z 0 ?_
  intro h4 hs
  replace hs : Sat h0 (chipE p fix7E :: A) h4 := hs
  refine ⟨_, rfl, ?_⟩
  refine Revoked_sp hs .z 0 ?_
  intro h5 hs
  have e1 : (raiseM fix7C 0 2).2 = 0 := by decide +kernel
  have e2 : (countM fix7D 0).1 = 2 := by decide +kernel
  have e3 : (countM fix7D 0).2 = 0 := by decide +kernel
  have e4 : (revokeM fix7D 0).2 = 0 := by decide +kernel
  have e5 : (revokedM fix7E 0).1 = true := by decide +kernel
  have e6 : (revokedM fix7E 0).2 = 0 := by decide +kernel
  have e7 : fix7E.acts = 3 := by decide +kernel
  rw [if_pos (by rw [e1]; rfl), if_pos (by rw [e2]; rfl), if_pos (by rw [e3]; rfl), if_pos (by rw [e4]; rfl), if_pos e5, if_pos (by rw [e6]; rfl)]
  refine ⟨_, rfl, ?_⟩
  refine Acts_sp hs .z ?_
  rw [e7]
  exact k _ hs.drop
/-- How a script lies in memory. -/
structure Script7 (h : H) (p : Option Addr) (l : Nat) (sc : List Stp7) : Prop where
  len : sc.length = l
  small : l < 2 ^ 62
  el : ∀ i (hi : i < sc.length), ∃ (q : Addr), p = some q ∧ hc h (q.add (i * 3)) = some (.int .i64 sc[i].kind) ∧ hc h ((q.add (i * 3)).add 1) = some (.int .i64 sc[i].a) ∧
    hc h ((q.add (i * 3)).add 2) = some (.int .i64 sc[i].n) ∧ sc[i].ok
theorem FuseDoes_sp {a b c' : Sl} {Q : Bool → H → Prop} {mp : Option Addr} {ml mc : Nat} (c : Cfg) (s : St) (rd0 : RdS h0 a b c' s) (ty : s.typed) (sm : s.small) (sc : List Stp7) (rd : Script7 h0 mp ml sc) (k : ∀ h', Ext none_ h0 h' → Q true h') :
    F_portcullislaw07_FuseDoes c.cells c.slots c.fuses c.step c.keys c.erases c.area a.1 a.2.1 a.2.2 b.1 b.2.1 b.2.2 c'.1 c'.2.1 c'.2.2 mp ml mc Q h0 := by
  unfold F_portcullislaw07_FuseDoes G_portcullislaw07_FuseDoes
  have hs := Sat.init h0
  simp only [add_mk, Nat.zero_add, List.append_nil]
  intro n1 _ hn; replace hs := Sat.new hs hn; clear hn
  intro n2 _ hn; replace hs := Sat.new hs hn; clear hn
  refine fixed7_sp hs ?_
  intro h1 hs
  (repeat first | refine ⟨_, Sat.ld hs (by (repeat (first | exact At.z | apply At.s))) (by rfl), ?_⟩ | refine ⟨_, _, _, Sat.ld hs (by (repeat (first | exact At.z | apply At.s))) (by rfl), ?_⟩ | (intro _ _ hn; replace hs := Sat.new hs hn; clear hn) | refine ⟨Sat.cs hs (by (repeat (first | exact At.z | apply At.s))) (by rfl), ?_⟩ | (refine ⟨Sat.can hs (by (repeat (first | exact At.z | apply At.s))) (by simp), ?_⟩; intro _ e; replace hs := Sat.wr hs (by (repeat (first | exact At.z | apply At.s))) e; clear e; simp only [put, splice, List.set] at hs))
  have hsm := rd.small
  have hln := rd.len
  refine Lay_sp (a := a) (b := b) (c' := c') (s := s) c hs (fun h' hs' => rd0.ext hs'.ex) ty ?_ ?_ ?_
  · intro nm h2 hs
    (repeat first | refine ⟨_, Sat.ld hs (by (repeat (first | exact At.z | apply At.s))) (by rfl), ?_⟩ | refine ⟨_, _, _, Sat.ld hs (by (repeat (first | exact At.z | apply At.s))) (by rfl), ?_⟩ | (intro _ _ hn; replace hs := Sat.new hs hn; clear hn) | refine ⟨Sat.cs hs (by (repeat (first | exact At.z | apply At.s))) (by rfl), ?_⟩ | (refine ⟨Sat.can hs (by (repeat (first | exact At.z | apply At.s))) (by simp), ?_⟩; intro _ e; replace hs := Sat.wr hs (by (repeat (first | exact At.z | apply At.s))) e; clear e; simp only [put, splice, List.set] at hs))
    refine rLay_sp (a := a) (b := b) (c' := c') (s := s) c hs (fun h' hs' => rd0.ext hs'.ex) ty ?_ (fun m => absurd m nm) (fun m => absurd m nm)
    intro _ h3 hs J hJ
    rw [if_neg (by simp), if_neg (by simp), if_neg (by simp)]
    apply hJ
    intro J2 hJ2
    apply hJ2
    intro J3 hJ3
    clear hJ3
    have := k _ hs.ex
    split
    · rw [if_neg (by simp)]; exact this
    · exact this
  · intro m nl h2 hs
    (repeat first | refine ⟨_, Sat.ld hs (by (repeat (first | exact At.z | apply At.s))) (by rfl), ?_⟩ | refine ⟨_, _, _, Sat.ld hs (by (repeat (first | exact At.z | apply At.s))) (by rfl), ?_⟩ | (intro _ _ hn; replace hs := Sat.new hs hn; clear hn) | refine ⟨Sat.cs hs (by (repeat (first | exact At.z | apply At.s))) (by rfl), ?_⟩ | (refine ⟨Sat.can hs (by (repeat (first | exact At.z | apply At.s))) (by simp), ?_⟩; intro _ e; replace hs := Sat.wr hs (by (repeat (first | exact At.z | apply At.s))) e; clear e; simp only [put, splice, List.set] at hs))
    refine rLay_sp (a := a) (b := b) (c' := c') (s := s) c hs (fun h' hs' => rd0.ext hs'.ex) ty (fun nm => absurd m nm) ?_ (fun _ l => absurd l nl)
    intro _ _ h3 hs J hJ
    rw [if_neg (by simp), if_neg (by simp), if_neg (by simp)]
    apply hJ
    intro J2 hJ2
    apply hJ2
    intro J3 hJ3
    clear hJ3
    have := k _ hs.ex
    split
    · rw [if_neg (by simp)]; exact this
    · exact this
  · intro m l pc h2 hs
    (repeat first | refine ⟨_, Sat.ld hs (by (repeat (first | exact At.z | apply At.s))) (by rfl), ?_⟩ | refine ⟨_, _, _, Sat.ld hs (by (repeat (first | exact At.z | apply At.s))) (by rfl), ?_⟩ | (intro _ _ hn; replace hs := Sat.new hs hn; clear hn) | refine ⟨Sat.cs hs (by (repeat (first | exact At.z | apply At.s))) (by rfl), ?_⟩ | (refine ⟨Sat.can hs (by (repeat (first | exact At.z | apply At.s))) (by simp), ?_⟩; intro _ e; replace hs := Sat.wr hs (by (repeat (first | exact At.z | apply At.s))) e; clear e; simp only [put, splice, List.set] at hs))
    refine rLay_sp (a := a) (b := b) (c' := c') (s := s) c hs (fun h' hs' => rd0.ext hs'.ex) ty (fun nm => absurd m nm) (fun _ nl => absurd l nl) ?_
    intro _ _ pr h3 hs J hJ
    rw [if_neg (by simp), if_neg (by simp), if_neg (by simp)]
    apply hJ
    clear hJ J
    intro J hJ
    have h00 : ∃ C, Sat h0 [refE pr C, chipE pc C] h3 := ⟨_, hs.sub (by (repeat (first | exact List.Sublist.refl _ | apply List.Sublist.cons_cons | apply List.Sublist.cons)))⟩
    refine loop_up ml (fun _ h => ∃ C, Sat h0 [refE pr C, chipE pc C] h) ?_ ?_ 0 _ (by omega) h00
    · rintro n h4 hn ⟨C, hs⟩ hk
      apply hJ
      intro J3 hJ3
      rw [ltI_eq, if_pos (by simp; omega), if_pos (by simp)]
      apply hJ3
      obtain ⟨q, x1, x2, x3, x4, so⟩ := rd.el n (by omega)
      have ext1 : ∀ {a : Addr} {v : Value}, hc h0 a = some v → hc h4 a = some v := fun e => hc_ext hs.ex e (fun y => y)
      refine ⟨_, x1, by omega, by omega, _, by rw [Int.toNat_natCast]; exact ext1 x2, _, by rw [Int.toNat_natCast]; exact ext1 x3, _, by rw [Int.toNat_natCast]; exact ext1 x4, _, rfl, _, rfl, ?_⟩
      refine step7_sp sc[n] so (i := 1) (j := 0) hs (.s .z) .z (by decide) ?_
      intro h5 hs
      generalize step7M C sc[n] = D at hs
      replace hs : Sat h0 [refE pr D, chipE pc D] h5 := hs
      refine ⟨_, rfl, ?_⟩
      simp only [add_mk, Nat.zero_add]
      refine state_same (i := 1) (j := 0) hs (.s .z) .z ?_
      intro h6 hs
      rw [if_neg (by simp), if_neg (by simp)]
      obtain ⟨w, ld⟩ := ref_ld (j := 0) hs .z
      refine ⟨_, rfl, _, ld 10 _ rfl, _, rfl, ?_⟩
      refine Acts_sp (i := 1) hs (.s .z) ?_
      refine ⟨hcs_one (ld 10 _ rfl), ?_⟩
      rw [if_neg (by simp)]
      refine ⟨_, rfl, _, ld 11 _ rfl, _, rfl, ?_⟩
      refine Out_sp (i := 1) hs (.s .z) ?_
      refine ⟨hcs_one (ld 11 _ rfl), ?_⟩
      rw [if_neg (by simp), wrap_succ (by omega)]
      exact hk _ ⟨D, hs⟩
    · rintro h4 ⟨C, hs⟩
      apply hJ
      intro J3 hJ3
      clear hJ3
      rw [ltI_eq, if_neg (by simp)]
      exact k _ hs.ex
end
end Go.Proofs.Ytamfkofcpoglnaa
