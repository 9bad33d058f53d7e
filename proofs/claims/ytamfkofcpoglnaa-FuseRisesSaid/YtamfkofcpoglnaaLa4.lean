/- Contracts of the chip's statements: games; calls whose answers are fixed. Own work. -/
import Derived.Test.YtamfkofcpoglnaaFa2
import Derived.Test.YtamfkofcpoglnaaFa5
import Derived.Test.YtamfkofcpoglnaaLa3
set_option autoImplicit false
set_option linter.all false
set_option maxRecDepth 100000
set_option linter.unusedVariables false
namespace Go.Proofs.Ytamfkofcpoglnaa
open Go Go.Vc

theorem at_det {A : List Ent} {i : Nat} {e e' : Ent} (a : At A i e) (b : At A i e') : e = e' := by
  induction a with
  | z => cases b; rfl
  | s _ ih => cases b with
    | s b => exact ih b
theorem chip_ne_ref {A : List Ent} {i j p r : Nat} {C D : Cm} (a : At A i (chipE p C)) (b : At A j (refE r D)) : i ≠ j := by
  rintro rfl
  have := congrArg Ent.tag (at_det a b)
  simp [chipE, refE, exE] at this

section
variable {h0 h : H} {A : List Ent} {i j p r : Nat} {C : Cm}
abbrev fixC0 : Cm := freshC ⟨4, 1, 2, 1, 1, 1, 0⟩
abbrev fixC1 : Cm := (programM fixC0 0 1 (zeros 32)).1
abbrev fixC2 : Cm := cutM fixC1 0 [1]
abbrev fixC3 : Cm := { (blowM fixC2 2).1 with out := false }
theorem fixed_sp {Q : Bool → H → Prop} (hs : Sat h0 A h) (k : ∀ h', Sat h0 A h' → Q true h') : F_portcullislaw04_fixed Q h := by
  unfold F_portcullislaw04_fixed G_portcullislaw04_fixed
  simp only [add_mk, Nat.zero_add, List.append_nil]
  refine New_sp ⟨4, 1, 2, 1, 1, 1, 0⟩ hs (fun nm => absurd (show Cfg.may ⟨4, 1, 2, 1, 1, 1, 0⟩ by decide) nm) ?_
  intro _ p h1 hs
  intro J hJ
  rw [if_neg (by simp), if_neg (by simp)]
  apply hJ
  refine ⟨_, rfl, ?_⟩
  refine Program_sp hs .z 0 1 (zeros 32) (by simp) ?_
  intro h2 hs
  replace hs : Sat h0 (chipE p fixC1 :: A) h2 := hs
  refine ⟨_, rfl, ?_⟩
  refine Read_sp hs .z 0 1 ?_
  intro h3 hs
  intro n1 _ hn; replace hs := Sat.new hs hn; clear hn
  have hr : (readM fixC1 0 1).1.length = 32 := by decide +kernel
  (refine ⟨Sat.can hs (by (repeat (first | exact At.z | apply At.s))) (by simp), ?_⟩; intro _ e; replace hs := Sat.wra hs (by (repeat (first | exact At.z | apply At.s))) e (by simp [*]); clear e; simp only [put] at hs)
  intro n2 _ hn; replace hs := Sat.new hs hn; clear hn
  refine ⟨_, rfl, ?_⟩
  refine Cut_sp (bs := [1]) hs (.s (.s .z)) 0 (by decide) (hs.bv .z (by simp) (by simp)) (by intro n hn; simp at hn; subst hn; exact ⟨by decide, by decide⟩) (by decide) ?_
  intro h4 hs
  replace hs : Sat h0 (blk n2 [.int .u8 1] :: blk n1 (ints .u8 (readM fixC1 0 1).1) :: chipE p fixC2 :: A) h4 := hs
  refine ⟨_, rfl, ?_⟩
  refine Blow_sp hs (.s (.s .z)) 2 ?_
  intro h5 hs
  refine ⟨_, rfl, ?_⟩
  refine Restore_sp hs (i := 2) (.s (.s .z)) ?_
  intro h6 hs
  replace hs : Sat h0 (blk n2 [.int .u8 1] :: blk n1 (ints .u8 (readM fixC1 0 1).1) :: chipE p fixC3 :: A) h6 := hs
  refine ⟨_, rfl, ?_⟩
  refine Blown_sp hs (.s (.s .z)) 2 ?_
  have e1 : (programM fixC0 0 1 (zeros 32)).2 = 0 := by decide +kernel
  have e2 : (readM fixC1 0 1).2 = 0 := by decide +kernel
  have e3 : (readM fixC1 0 1).1 = zeros 32 := by decide +kernel
  have e4 : (blowM fixC2 2).2 = 8 := by decide +kernel
  have e5 : (blownM fixC3 2).1 = true := by decide +kernel
  have e6 : (blownM fixC3 2).2 = 0 := by decide +kernel
  have e7 : fixC3.acts = 2 := by decide +kernel
  rw [if_pos (by rw [e1]; rfl), if_pos (by rw [e2]; rfl)]
  refine ⟨_, hr, hs.row0 (.s .z), ?_⟩
  rw [if_pos (by rw [e3]; simp), if_pos (by rw [e4]; rfl), if_pos e5, if_pos (by rw [e6]; rfl)]
  refine ⟨_, rfl, ?_⟩
  refine Acts_sp hs (.s (.s .z)) ?_
  rw [e7]
  exact k _ hs.drop.drop.drop

/-- How a script lies in memory. -/
structure ScriptRd (h : H) (p : Option Addr) (l : Nat) (sc : List Stp) : Prop where
  len : sc.length = l
  small : l < 2 ^ 62
  el : ∀ i (hi : i < sc.length), ∃ (q : Addr) (mp : Option Addr) (ml mc : Nat), p = some q ∧ hc h (q.add (i * 36)) = some (.int .i64 sc[i].kind) ∧ hc h ((q.add (i * 36)).add 1) = some (.int .i64 sc[i].a) ∧
    hc h ((q.add (i * 36)).add 2) = some (.int .i64 sc[i].b) ∧ hrow h ((q.add (i * 36)).add 3) .u8 sc[i].x ∧ hc h ((q.add (i * 36)).add 35) = some (.slice mp ml mc) ∧ hsv h mp 1 ml (ints .u8 sc[i].mask) ∧ sc[i].ok
abbrev prE (n p r : Nat) : Ent := blk n [.pointer (some ⟨p, 0, none⟩), .pointer (some ⟨r, 0, none⟩)]
def GS (h0 : H) (np nq : Nat) (h : H) : Prop := ∃ (L : List Ent) (i j i' j' pc pr qc qr : Nat) (C D : Cm), Sat h0 (prE np pc pr :: prE nq qc qr :: L) h ∧ At L i (chipE pc C) ∧ At L j (refE pr C) ∧ At L i' (chipE qc D) ∧ At L j' (refE qr D) ∧
  ((i' = i ∧ j' = j ∧ qc = pc ∧ qr = pr ∧ D = C) ∨ (i' ≠ i ∧ j' ≠ j))
theorem game_sp {Q : Bool → H → Prop} {mp : Option Addr} {ml mc : Nat} (sc : List Stp) (rd : ScriptRd h0 mp ml sc) (hs : Sat h0 (chipE p C :: refE r C :: A) h) (k : ∀ h', Ext none_ h0 h' → Q true h') :
    F_portcullislaw04_game ⟨p, 0, none⟩ ⟨r, 0, none⟩ mp ml mc Q h := by
  unfold F_portcullislaw04_game G_portcullislaw04_game
  simp only [add_mk, Nat.zero_add, List.append_nil]
  intro np _ hn; replace hs := Sat.new hs hn; clear hn
  (refine ⟨Sat.can hs (by (repeat (first | exact At.z | apply At.s))) (by simp), ?_⟩; intro _ e; replace hs := Sat.wr hs (by (repeat (first | exact At.z | apply At.s))) e; clear e; simp only [put, splice, List.set] at hs)
  intro nq _ hn; replace hs := Sat.new hs hn; clear hn
  (refine ⟨Sat.can hs (by (repeat (first | exact At.z | apply At.s))) (by simp), ?_⟩; intro _ e; replace hs := Sat.wr hs (by (repeat (first | exact At.z | apply At.s))) e; clear e; simp only [put, splice, List.set] at hs)
  have hsm := rd.small
  have hln := rd.len
  intro J21 hJ21
  have h00 : GS h0 np nq _ := ⟨_, 0, 1, 0, 1, p, r, p, r, C, C, hs.perm (List.Perm.swap _ _ _), .z, .s .z, .z, .s .z, Or.inl ⟨rfl, rfl, rfl, rfl, rfl⟩⟩
  refine loop_up ml (fun _ h => GS h0 np nq h) ?_ ?_ 0 _ (by omega) h00
  · rintro n h1 hn hg hk
    apply hJ21
    rw [ltI_eq, if_pos (by simp; omega)]
    intro J24 hJ24
    have hJ : ∀ h, GS h0 np nq h → J24 [] h := by
      rintro h2 ⟨L, i, j, i', j', pc, pr, qc, qr, C, D, hs, a1, a2, a3, a4, d⟩
      apply hJ24
      split
      · refine ⟨_, Sat.ld hs (by (repeat (first | exact At.z | apply At.s))) (by rfl), ?_⟩; refine ⟨_, Sat.ld hs (by (repeat (first | exact At.z | apply At.s))) (by rfl), ?_⟩; refine same_sp hs a1.s.s a2.s.s ?_; intro _ hs; refine ⟨_, Sat.ld hs (by (repeat (first | exact At.z | apply At.s))) (by rfl), ?_⟩; refine ⟨_, Sat.ld hs (by (repeat (first | exact At.z | apply At.s))) (by rfl), ?_⟩; refine same_sp hs a3.s.s a4.s.s ?_; intro h9 hs
        rw [if_neg (by simp), if_neg (by simp), wrap_succ (by omega)]
        exact hk _ ⟨L, i, j, i', j', pc, pr, qc, qr, C, D, hs, a1, a2, a3, a4, d⟩
      · refine ⟨by decide, ?_⟩
        split
        · refine ⟨_, Sat.ld hs (by (repeat (first | exact At.z | apply At.s))) (by rfl), ?_⟩; refine ⟨_, Sat.ld hs (by (repeat (first | exact At.z | apply At.s))) (by rfl), ?_⟩; refine same_sp hs a1.s.s a2.s.s ?_; intro _ hs; refine ⟨_, Sat.ld hs (by (repeat (first | exact At.z | apply At.s))) (by rfl), ?_⟩; refine ⟨_, Sat.ld hs (by (repeat (first | exact At.z | apply At.s))) (by rfl), ?_⟩; refine same_sp hs a3.s.s a4.s.s ?_; intro h9 hs
          rw [if_neg (by simp), if_neg (by simp), wrap_succ (by omega)]
          exact hk _ ⟨L, i, j, i', j', pc, pr, qc, qr, C, D, hs, a1, a2, a3, a4, d⟩
        · rw [wrap_succ (by omega)]
          exact hk _ ⟨L, i, j, i', j', pc, pr, qc, qr, C, D, hs, a1, a2, a3, a4, d⟩
    obtain ⟨L, i, j, i', j', pc, pr, qc, qr, C, D, hs, a1, a2, a3, a4, d⟩ := hg
    have hx := hs.ex
    have hnl : n < sc.length := by omega
    obtain ⟨q, xp, xl, xc, e0, e1, e2, e3, e4, e5, e6, eok⟩ := rd.el n hnl
    have ext1 : ∀ {a : Addr} {v : Value}, hc h0 a = some v → hc h1 a = some v := fun e => hc_ext hx e (fun y => y)
    refine ⟨q, e0, by omega, by omega, ?_⟩
    rw [Int.toNat_natCast]
    refine ⟨_, ext1 e1, ?_⟩
    split
    · refine ⟨_, Sat.ld hs (by (repeat (first | exact At.z | apply At.s))) (by rfl), ?_⟩
      refine ⟨_, Sat.ld hs (by (repeat (first | exact At.z | apply At.s))) (by rfl), ?_⟩
      refine ⟨_, rfl, ?_⟩
      refine Copy_sp hs a1.s.s ?_
      intro p' h2 hs
      refine ⟨hcs_one (hs.ld (.s .z) rfl), _, rfl, ?_⟩
      refine rCopy_sp hs a2.s.s.s ?_
      intro r' h3 hs
      (refine ⟨Sat.can hs (by (repeat (first | exact At.z | apply At.s))) (by simp), ?_⟩; intro _ e; replace hs := Sat.wr hs (by (repeat (first | exact At.z | apply At.s))) e; clear e; simp only [put, splice, List.set] at hs)
      refine ⟨_, Sat.ld hs (by (repeat (first | exact At.z | apply At.s))) (by rfl), ?_⟩
      rw [if_neg (by simp)]
      refine hJ _ ⟨refE r' C :: chipE p' C :: L, i + 2, j + 2, 1, 0, pc, pr, p', r', C, C, ?_, a1.s.s, a2.s.s, .s .z, .z, Or.inr ⟨by omega, by omega⟩⟩
      replace hs := Sat.front hs (e := prE nq _ _) (by (repeat (first | exact At.z | apply At.s)))
      replace hs := Sat.front hs (e := prE np _ _) (by (repeat (first | exact At.z | apply At.s)))
      exact hs
    · split
      · refine ⟨_, Sat.ld hs (by (repeat (first | exact At.z | apply At.s))) (by rfl), ?_⟩
        refine ⟨_, Sat.ld hs (by (repeat (first | exact At.z | apply At.s))) (by rfl), ?_⟩
        refine ⟨_, Sat.ld hs (by (repeat (first | exact At.z | apply At.s))) (by rfl), ?_⟩
        refine ⟨_, Sat.ld hs (by (repeat (first | exact At.z | apply At.s))) (by rfl), ?_⟩
        (refine ⟨Sat.can hs (by (repeat (first | exact At.z | apply At.s))) (by simp), ?_⟩; intro _ e; replace hs := Sat.wr hs (by (repeat (first | exact At.z | apply At.s))) e; clear e; simp only [put, splice, List.set] at hs)
        (refine ⟨Sat.can hs (by (repeat (first | exact At.z | apply At.s))) (by simp), ?_⟩; intro _ e; replace hs := Sat.wr hs (by (repeat (first | exact At.z | apply At.s))) e; clear e; simp only [put, splice, List.set] at hs)
        refine hJ _ ⟨L, i', j', i, j, qc, qr, pc, pr, D, C, hs, a3, a4, a1, a2, ?_⟩
        rcases d with ⟨rfl, rfl, rfl, rfl, rfl⟩ | ⟨d1, d2⟩
        · exact Or.inl ⟨rfl, rfl, rfl, rfl, rfl⟩
        · exact Or.inr ⟨Ne.symm d1, Ne.symm d2⟩
      · refine ⟨_, Sat.ld hs (by (repeat (first | exact At.z | apply At.s))) (by rfl), ?_⟩
        refine ⟨_, Sat.ld hs (by (repeat (first | exact At.z | apply At.s))) (by rfl), ?_⟩
        refine ⟨q, e0, by omega, by omega, ?_⟩
        refine ⟨_, ext1 e1, _, ext1 e2, _, ext1 e3, _, eok.x, hrow_ext hx e4 (fun y => y), _, _, _, ext1 e5, ?_⟩
        have hij := chip_ne_ref a1 a2
        refine step_sp sc[n] eok hs a1.s.s a2.s.s (by omega) e6 ?_
        intro h2 hs
        simp only [put_succ] at hs
        rw [if_neg (by simp)]
        refine hJ _ ⟨put (put L i (chipE pc (stepM C sc[n]))) j (refE pr (stepM C sc[n])), i, j, i', j', pc, pr, qc, qr, stepM C sc[n], if i' = i then stepM C sc[n] else D, hs, ?_, ?_, ?_, ?_, ?_⟩
        · exact (a1.put _).put_ne hij _
        · exact (a2.put_ne (Ne.symm hij) _).put _
        · rcases d with ⟨rfl, rfl, rfl, rfl, rfl⟩ | ⟨d1, d2⟩
          · rw [if_pos rfl]; exact (a1.put _).put_ne hij _
          · rw [if_neg d1]; exact (a3.put_ne d1 _).put_ne (chip_ne_ref a3 a2) _
        · rcases d with ⟨rfl, rfl, rfl, rfl, rfl⟩ | ⟨d1, d2⟩
          · rw [if_pos rfl]; exact (a2.put_ne (Ne.symm hij) _).put _
          · rw [if_neg d1]; exact (a4.put_ne (Ne.symm (chip_ne_ref a1 a4)) _).put_ne d2 _
        · rcases d with ⟨rfl, rfl, rfl, rfl, rfl⟩ | ⟨d1, d2⟩
          · exact Or.inl ⟨rfl, rfl, rfl, rfl, if_pos rfl⟩
          · exact Or.inr ⟨d1, d2⟩
  · rintro h1 ⟨L, i, j, i', j', pc, pr, qc, qr, C, D, hs, a1, a2, a3, a4, d⟩
    apply hJ21
    rw [ltI_eq, if_neg (by simp)]
    refine ⟨_, Sat.ld hs (by (repeat (first | exact At.z | apply At.s))) (by rfl), ?_⟩; refine ⟨_, Sat.ld hs (by (repeat (first | exact At.z | apply At.s))) (by rfl), ?_⟩; refine same_sp hs a1.s.s a2.s.s ?_; intro _ hs; refine ⟨_, Sat.ld hs (by (repeat (first | exact At.z | apply At.s))) (by rfl), ?_⟩; refine ⟨_, Sat.ld hs (by (repeat (first | exact At.z | apply At.s))) (by rfl), ?_⟩; refine same_sp hs a3.s.s a4.s.s ?_; intro h9 hs
    rw [if_pos (by simp)]
    exact k _ hs.ex
theorem ChipDoes_sp {Q : Bool → H → Prop} {mp : Option Addr} {ml mc : Nat} (c : Cfg) (sc : List Stp) (rd : ScriptRd h0 mp ml sc) (k : ∀ h', Ext none_ h0 h' → Q true h') :
    F_portcullislaw04_ChipDoes c.cells c.slots c.fuses c.step c.keys c.erases c.area mp ml mc Q h0 := by
  unfold F_portcullislaw04_ChipDoes G_portcullislaw04_ChipDoes
  have hs := Sat.init h0
  simp only [add_mk, Nat.zero_add, List.append_nil]
  (intro _ _ hn; replace hs := Sat.new hs hn; clear hn)
  refine fixed_sp hs ?_
  intro h1 hs
  (repeat first | refine ⟨_, Sat.ld hs (by (repeat (first | exact At.z | apply At.s))) (by rfl), ?_⟩ | refine ⟨_, _, _, Sat.ld hs (by (repeat (first | exact At.z | apply At.s))) (by rfl), ?_⟩ | (intro _ _ hn; replace hs := Sat.new hs hn; clear hn) | refine ⟨Sat.cs hs (by (repeat (first | exact At.z | apply At.s))) (by rfl), ?_⟩ | (refine ⟨Sat.can hs (by (repeat (first | exact At.z | apply At.s))) (by simp), ?_⟩; intro _ e; replace hs := Sat.wr hs (by (repeat (first | exact At.z | apply At.s))) e; clear e; simp only [put, splice, List.set] at hs))
  refine New_sp c hs ?_ ?_
  · intro nm h2 hs
    (repeat first | refine ⟨_, Sat.ld hs (by (repeat (first | exact At.z | apply At.s))) (by rfl), ?_⟩ | refine ⟨_, _, _, Sat.ld hs (by (repeat (first | exact At.z | apply At.s))) (by rfl), ?_⟩ | (intro _ _ hn; replace hs := Sat.new hs hn; clear hn) | refine ⟨Sat.cs hs (by (repeat (first | exact At.z | apply At.s))) (by rfl), ?_⟩ | (refine ⟨Sat.can hs (by (repeat (first | exact At.z | apply At.s))) (by simp), ?_⟩; intro _ e; replace hs := Sat.wr hs (by (repeat (first | exact At.z | apply At.s))) e; clear e; simp only [put, splice, List.set] at hs))
    refine rNew_sp c hs ?_ (fun m => absurd m nm)
    intro _ h3 hs
    (repeat first | refine ⟨_, Sat.ld hs (by (repeat (first | exact At.z | apply At.s))) (by rfl), ?_⟩ | refine ⟨_, _, _, Sat.ld hs (by (repeat (first | exact At.z | apply At.s))) (by rfl), ?_⟩ | (intro _ _ hn; replace hs := Sat.new hs hn; clear hn) | refine ⟨Sat.cs hs (by (repeat (first | exact At.z | apply At.s))) (by rfl), ?_⟩ | (refine ⟨Sat.can hs (by (repeat (first | exact At.z | apply At.s))) (by simp), ?_⟩; intro _ e; replace hs := Sat.wr hs (by (repeat (first | exact At.z | apply At.s))) e; clear e; simp only [put, splice, List.set] at hs))
    refine May_sp c hs ?_
    intro h4 hs
    have : c.may? = 1 := if_neg nm
    rw [this, if_neg (by simp), if_neg (by simp), if_neg (by simp), if_neg (by simp), if_pos (by simp)]
    exact k _ hs.ex
  · intro m pc h2 hs
    (repeat first | refine ⟨_, Sat.ld hs (by (repeat (first | exact At.z | apply At.s))) (by rfl), ?_⟩ | refine ⟨_, _, _, Sat.ld hs (by (repeat (first | exact At.z | apply At.s))) (by rfl), ?_⟩ | (intro _ _ hn; replace hs := Sat.new hs hn; clear hn) | refine ⟨Sat.cs hs (by (repeat (first | exact At.z | apply At.s))) (by rfl), ?_⟩ | (refine ⟨Sat.can hs (by (repeat (first | exact At.z | apply At.s))) (by simp), ?_⟩; intro _ e; replace hs := Sat.wr hs (by (repeat (first | exact At.z | apply At.s))) e; clear e; simp only [put, splice, List.set] at hs))
    refine rNew_sp c hs (fun nm => absurd m nm) ?_
    intro _ pr h3 hs
    (repeat first | refine ⟨_, Sat.ld hs (by (repeat (first | exact At.z | apply At.s))) (by rfl), ?_⟩ | refine ⟨_, _, _, Sat.ld hs (by (repeat (first | exact At.z | apply At.s))) (by rfl), ?_⟩ | (intro _ _ hn; replace hs := Sat.new hs hn; clear hn) | refine ⟨Sat.cs hs (by (repeat (first | exact At.z | apply At.s))) (by rfl), ?_⟩ | (refine ⟨Sat.can hs (by (repeat (first | exact At.z | apply At.s))) (by simp), ?_⟩; intro _ e; replace hs := Sat.wr hs (by (repeat (first | exact At.z | apply At.s))) e; clear e; simp only [put, splice, List.set] at hs))
    refine May_sp c hs ?_
    intro h4 hs
    have : c.may? = 0 := if_pos m
    rw [this, if_neg (by simp), if_neg (by simp), if_neg (by simp), if_neg (by simp), if_neg (by simp)]
    refine ⟨_, rfl, _, rfl, ?_⟩
    replace hs := chip_ref hs .z
    exact game_sp (C := freshC c) sc rd (hs.perm (List.Perm.swap _ _ _)) k
end
end Go.Proofs.Ytamfkofcpoglnaa
