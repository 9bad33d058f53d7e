/- Contracts of the pages' statements: PageLooks. Own work. -/
import Derived.Test.YtamfkofcpoglnaaFa8
import Derived.Test.YtamfkofcpoglnaaFa9
import Derived.Test.YtamfkofcpoglnaaPg2
set_option autoImplicit false
set_option linter.all false
set_option maxRecDepth 100000
set_option linter.unusedVariables false
namespace Go.Proofs.Ytamfkofcpoglnaa
open Go Go.Vc

section
variable {h0 h : H} {A : List Ent} {i j p r b : Nat} {C : Cm}
theorem lookM_len (C : Cm) (page : Int) : (lookM C page).1.nums.length = 9 := by
  unfold lookM
  split
  · rfl
  · exact ofM_len _ _
abbrev fix8A : Cm := freshC ⟨5, 1, 1, 1, 1, 1, 0⟩
abbrev fix8B : Cm := (programM fix8A 1 0 (headM 3).1).1
abbrev fix8C : Cm := (programM fix8B 1 2 (valueM 1 7).1).1
abbrev fix8D : Cm := (programM fix8C 1 3 (zeros 32)).1
def fix8ok (x : Inf × Int) : Bool := x.2 == 0 && x.1.head == 3 && x.1.nums.getD 1 0 == 7 && x.1.nums.getD 0 0 == 0 && x.1.next == 4 && x.1.torn == 1 && !x.1.blank
theorem fix8 : fix8ok (lookM fix8D 1) = true := by decide +kernel
theorem fixed8_sp {Q : Bool → H → Prop} (hs : Sat h0 A h) (k : ∀ h', Sat h0 A h' → Q true h') : F_portcullislaw08_fixed Q h := by
  unfold F_portcullislaw08_fixed G_portcullislaw08_fixed
  simp only [add_mk, Nat.zero_add, List.append_nil]
  refine New_sp ⟨5, 1, 1, 1, 1, 1, 0⟩ hs (fun nm => absurd (show Cfg.may ⟨5, 1, 1, 1, 1, 1, 0⟩ by decide) nm) ?_
  intro _ p h1 hs
  refine Head_sp 3 hs ?_
  intro h2 hs
  have hh := headM_length 3
  have hv := valueM_length 1 7
  have e1 : (headM 3).2 = 0 := rfl
  have e2 : (valueM 1 7).2 = 0 := rfl
  intro n1 _ hn; replace hs := Sat.new hs hn; clear hn
  refine ⟨Sat.can hs (by (repeat (first | exact At.z | apply At.s))) (by simp [hh]), ?_⟩
  intro _ e; replace hs := Sat.wra hs (by (repeat (first | exact At.z | apply At.s))) e (by rw [ints_length, ints_length, hh]; rfl); clear e; simp only [put] at hs
  refine Value_sp 1 7 hs ?_
  intro h3 hs
  intro n2 _ hn; replace hs := Sat.new hs hn; clear hn
  refine ⟨Sat.can hs (by (repeat (first | exact At.z | apply At.s))) (by simp [hv]), ?_⟩
  intro _ e; replace hs := Sat.wra hs (by (repeat (first | exact At.z | apply At.s))) e (by rw [ints_length, ints_length, hv]; rfl); clear e; simp only [put] at hs
  intro J hJ
  rw [if_neg (by simp), if_neg (by simp), e1, e2, if_neg (by simp), if_neg (by simp)]
  apply hJ
  refine ⟨_, hh, hs.row0 (.s .z), _, rfl, ?_⟩
  refine Program_sp hs (.s (.s .z)) 1 0 _ hh ?_
  intro h4 hs
  replace hs : Sat h0 (blk n2 (ints .u8 (valueM 1 7).1) :: blk n1 (ints .u8 (headM 3).1) :: chipE p fix8B :: A) h4 := hs
  refine ⟨_, hv, hs.row0 .z, _, rfl, ?_⟩
  refine Program_sp hs (.s (.s .z)) 1 2 _ hv ?_
  intro h5 hs
  replace hs : Sat h0 (blk n2 (ints .u8 (valueM 1 7).1) :: blk n1 (ints .u8 (headM 3).1) :: chipE p fix8C :: A) h5 := hs
  refine ⟨_, rfl, ?_⟩
  refine Program_sp hs (.s (.s .z)) 1 3 _ rfl ?_
  intro h6 hs
  replace hs : Sat h0 (blk n2 (ints .u8 (valueM 1 7).1) :: blk n1 (ints .u8 (headM 3).1) :: chipE p fix8D :: A) h6 := hs
  refine ⟨_, rfl, ?_⟩
  refine Look_sp hs (.s (.s .z)) 1 ?_
  intro h7 hs
  have hf := fix8
  have hnl := lookM_len fix8D 1
  generalize lookM fix8D 1 = X at *
  unfold fix8ok at hf
  simp only [Bool.and_eq_true, beq_iff_eq, Bool.not_eq_true'] at hf
  obtain ⟨⟨⟨⟨⟨⟨f1, f2⟩, f3⟩, f4⟩, f5⟩, f6⟩, f7⟩ := hf
  intro n3 _ hn; replace hs := Sat.new hs hn; clear hn
  (refine ⟨Sat.can hs (by (repeat (first | exact At.z | apply At.s))) (by decide), ?_⟩; intro _ e; replace hs := Sat.wra hs (by (repeat (first | exact At.z | apply At.s))) e ((inf_len hnl).trans rfl); clear e; simp only [put] at hs)
  rw [f1, if_pos (by simp)]
  refine ⟨_, hs.ld .z rfl, ?_⟩
  rw [f2, if_pos (by simp)]
  refine ⟨by decide, by decide, _, hs.ld .z (inf_num hnl (i := 1) (by decide)), ?_⟩
  rw [f3, if_pos (by simp)]
  refine ⟨by decide, by decide, _, hs.ld .z (inf_num hnl (i := 0) (by decide)), ?_⟩
  rw [f4, if_pos (by simp)]
  refine ⟨_, hs.ld .z (inf_10 hnl), ?_⟩
  rw [f5, if_pos (by simp)]
  refine ⟨_, hs.ld .z (inf_12 hnl), ?_⟩
  rw [f6, if_pos (by simp)]
  refine ⟨_, hs.ld .z (inf_11 hnl), ?_⟩
  rw [f7]
  exact k _ hs.drop.drop.drop.drop
theorem blow_out {C : Cm} {k : Nat} (ho : C.out = false) (hk : k < C.s.blown.length) (hl : C.left = 0) : (blowM C k).1.out = true := by
  unfold blowM
  rw [if_neg (by rw [askedM_in ho (by omega) (by omega)]; simp)]
  have : C.act.out = true := by unfold Cm.act; rw [if_neg (by simpa using hl)]
  dsimp only
  split
  · exact this
  · exact this
theorem PageLooks_sp {a b c' : Sl} {Q : Bool → H → Prop} (c : Cfg) (s : St) (rd0 : RdS h0 a b c' s) (ty : s.typed) (sm : s.small) (k : ∀ h', Ext none_ h0 h' → Q true h') :
    F_portcullislaw08_PageLooks c.cells c.slots c.fuses c.step c.keys c.erases c.area a.1 a.2.1 a.2.2 b.1 b.2.1 b.2.2 c'.1 c'.2.1 c'.2.2 Q h0 := by
  unfold F_portcullislaw08_PageLooks G_portcullislaw08_PageLooks
  have hs := Sat.init h0
  simp only [add_mk, Nat.zero_add, List.append_nil]
  intro n1 _ hn; replace hs := Sat.new hs hn; clear hn
  intro n2 _ hn; replace hs := Sat.new hs hn; clear hn
  refine fixed8_sp hs ?_
  intro h1 hs
  (repeat first | refine ⟨_, Sat.ld hs (by (repeat (first | exact At.z | apply At.s))) (by rfl), ?_⟩ | refine ⟨_, _, _, Sat.ld hs (by (repeat (first | exact At.z | apply At.s))) (by rfl), ?_⟩ | (intro _ _ hn; replace hs := Sat.new hs hn; clear hn) | refine ⟨Sat.cs hs (by (repeat (first | exact At.z | apply At.s))) (by rfl), ?_⟩ | (refine ⟨Sat.can hs (by (repeat (first | exact At.z | apply At.s))) (by simp), ?_⟩; intro _ e; replace hs := Sat.wr hs (by (repeat (first | exact At.z | apply At.s))) e; clear e; simp only [put, splice, List.set] at hs))
  refine Lay_sp (a := a) (b := b) (c' := c') (s := s) c hs (fun h' hs' => rd0.ext hs'.ex) ty ?_ ?_ ?_
  · intro nm h2 hs
    (repeat first | refine ⟨_, Sat.ld hs (by (repeat (first | exact At.z | apply At.s))) (by rfl), ?_⟩ | refine ⟨_, _, _, Sat.ld hs (by (repeat (first | exact At.z | apply At.s))) (by rfl), ?_⟩ | (intro _ _ hn; replace hs := Sat.new hs hn; clear hn) | refine ⟨Sat.cs hs (by (repeat (first | exact At.z | apply At.s))) (by rfl), ?_⟩ | (refine ⟨Sat.can hs (by (repeat (first | exact At.z | apply At.s))) (by simp), ?_⟩; intro _ e; replace hs := Sat.wr hs (by (repeat (first | exact At.z | apply At.s))) e; clear e; simp only [put, splice, List.set] at hs))
    refine rLay_sp (a := a) (b := b) (c' := c') (s := s) c hs (fun h' hs' => rd0.ext hs'.ex) ty ?_ (fun m => absurd m nm) (fun m => absurd m nm)
    intro _ h3 hs J hJ
    rw [if_neg (by simp), if_neg (by simp), if_neg (by simp)]
    apply hJ
    rw [if_pos (by simp)]
    exact k _ hs.ex
  · intro m nl h2 hs
    (repeat first | refine ⟨_, Sat.ld hs (by (repeat (first | exact At.z | apply At.s))) (by rfl), ?_⟩ | refine ⟨_, _, _, Sat.ld hs (by (repeat (first | exact At.z | apply At.s))) (by rfl), ?_⟩ | (intro _ _ hn; replace hs := Sat.new hs hn; clear hn) | refine ⟨Sat.cs hs (by (repeat (first | exact At.z | apply At.s))) (by rfl), ?_⟩ | (refine ⟨Sat.can hs (by (repeat (first | exact At.z | apply At.s))) (by simp), ?_⟩; intro _ e; replace hs := Sat.wr hs (by (repeat (first | exact At.z | apply At.s))) e; clear e; simp only [put, splice, List.set] at hs))
    refine rLay_sp (a := a) (b := b) (c' := c') (s := s) c hs (fun h' hs' => rd0.ext hs'.ex) ty (fun nm => absurd m nm) ?_ (fun _ l => absurd l nl)
    intro _ _ h3 hs J hJ
    rw [if_neg (by simp), if_neg (by simp), if_neg (by simp)]
    apply hJ
    rw [if_pos (by simp)]
    exact k _ hs.ex
  · intro m l pc h2 hs
    (repeat first | refine ⟨_, Sat.ld hs (by (repeat (first | exact At.z | apply At.s))) (by rfl), ?_⟩ | refine ⟨_, _, _, Sat.ld hs (by (repeat (first | exact At.z | apply At.s))) (by rfl), ?_⟩ | (intro _ _ hn; replace hs := Sat.new hs hn; clear hn) | refine ⟨Sat.cs hs (by (repeat (first | exact At.z | apply At.s))) (by rfl), ?_⟩ | (refine ⟨Sat.can hs (by (repeat (first | exact At.z | apply At.s))) (by simp), ?_⟩; intro _ e; replace hs := Sat.wr hs (by (repeat (first | exact At.z | apply At.s))) e; clear e; simp only [put, splice, List.set] at hs))
    refine rLay_sp (a := a) (b := b) (c' := c') (s := s) c hs (fun h' hs' => rd0.ext hs'.ex) ty (fun nm => absurd m nm) (fun _ nl => absurd l nl) ?_
    intro _ _ pr h3 hs J hJ
    rw [if_neg (by simp), if_neg (by simp), if_neg (by simp)]
    apply hJ
    rw [if_neg (by simp)]
    clear hJ J
    intro J hJ
    have ok0 := layC_ok m l ty
    have okf := ok0.fits
    obtain ⟨C, hC⟩ : ∃ C, C = layC c s := ⟨_, rfl⟩
    rw [← hC] at hs ok0
    have cs : C.s = s := by rw [hC]; rfl
    have co : C.out = false := by rw [hC]; rfl
    have ca : C.acts = 0 := by rw [hC]; rfl
    have lp : s.pages.length = a.2.1 := (rd0.pg).len
    have hsp := sm.pages
    have key := loop_st (J := J) (s.pages.length + 2) (fun n (_ : Unit) => [.dv (.one (.int .i64 ((n : Int) - 1)))]) (fun n _ h => Sat h0 [refE pr C, chipE pc C, blk n2 [a.v, b.v, c'.v], blk n1 [.int .i64 c.cells, .int .i64 c.slots, .int .i64 c.fuses, .int .i64 c.step, .int .i64 c.keys, .int .i64 c.erases, .int .i64 c.area]] h) ?_ ?_ 0 () _ (by omega) hs
    · simpa using key
    · intro n _ h4 hn hs hk
      apply hJ
      refine ⟨_, _, _, Sat.ld hs (by (repeat (first | exact At.z | apply At.s))) (by rfl), ?_⟩
      rw [leI_eq, if_pos (by simp; omega)]
      intro J2 hJ2
      refine loop_up 2 (fun _ h => Sat h0 [refE pr C, chipE pc C, blk n2 [a.v, b.v, c'.v], blk n1 [.int .i64 c.cells, .int .i64 c.slots, .int .i64 c.fuses, .int .i64 c.step, .int .i64 c.keys, .int .i64 c.erases, .int .i64 c.area]] h) ?_ ?_ 0 _ (by omega) hs
      · intro t h5 ht hs hk2
        apply hJ2
        rw [ltI_eq, if_pos (by simp; omega)]
        refine ⟨_, rfl, ?_⟩
        refine Look_sp hs (i := 1) (.s .z) _ ?_
        intro h6 hs
        have hnl := lookM_len C ((n : Int) - 1)
        generalize hX : lookM C ((n : Int) - 1) = X at *
        intro n3 _ hn3; replace hs := Sat.new hs hn3; clear hn3
        (refine ⟨Sat.can hs (by (repeat (first | exact At.z | apply At.s))) (by decide), ?_⟩; intro _ e; replace hs := Sat.wra hs (by (repeat (first | exact At.z | apply At.s))) e ((inf_len hnl).trans rfl); clear e; simp only [put] at hs)
        refine ⟨_, rfl, ?_⟩
        refine rLook_sp hs (i := 1) (.s .z) _ ?_
        intro h7 hs
        rw [hX]
        intro n4 _ hn4; replace hs := Sat.new hs hn4; clear hn4
        (refine ⟨Sat.can hs (by (repeat (first | exact At.z | apply At.s))) (by decide), ?_⟩; intro _ e; replace hs := Sat.wra hs (by (repeat (first | exact At.z | apply At.s))) e ((inf_len hnl).trans rfl); clear e; simp only [put] at hs)
        refine ⟨_, Sat.ld hs (by (repeat (first | exact At.z | apply At.s))) rfl, _, hnl, Sat.row hs (by (repeat (first | exact At.z | apply At.s))) (inf_row hnl), _, Sat.ld hs (by (repeat (first | exact At.z | apply At.s))) (inf_10 hnl), _, Sat.ld hs (by (repeat (first | exact At.z | apply At.s))) (inf_11 hnl), _, Sat.ld hs (by (repeat (first | exact At.z | apply At.s))) (inf_12 hnl), ?_⟩
        refine ⟨_, Sat.ld hs (by (repeat (first | exact At.z | apply At.s))) rfl, _, hnl, Sat.row hs (by (repeat (first | exact At.z | apply At.s))) (inf_row hnl), _, Sat.ld hs (by (repeat (first | exact At.z | apply At.s))) (inf_10 hnl), _, Sat.ld hs (by (repeat (first | exact At.z | apply At.s))) (inf_11 hnl), _, Sat.ld hs (by (repeat (first | exact At.z | apply At.s))) (inf_12 hnl), ?_⟩
        refine like_sp hnl hs ?_
        intro h8 hs
        rw [if_neg (by simp), if_neg (by simp), wrap_succ (by omega)]
        exact hk2 _ hs.drop.drop
      · intro h5 hs
        apply hJ2
        rw [ltI_eq, if_neg (by simp)]
        have e : IntKind.i64.wrap ((n : Int) - 1 + 1) = ((n + 1 : Nat) : Int) - 1 := by rw [wrap_id (by omega)]; omega
        rw [e]
        exact hk () _ hs
    · intro _ h4 hs
      apply hJ
      refine ⟨_, _, _, Sat.ld hs (by (repeat (first | exact At.z | apply At.s))) (by rfl), ?_⟩
      rw [leI_eq, if_neg (by simp; omega)]
      refine ⟨_, _, _, Sat.ld hs (by (repeat (first | exact At.z | apply At.s))) (by rfl), ?_⟩
      refine ⟨_, _, _, Sat.ld hs (by (repeat (first | exact At.z | apply At.s))) (by rfl), ?_⟩
      refine ⟨_, _, _, Sat.ld hs (by (repeat (first | exact At.z | apply At.s))) (by rfl), ?_⟩
      refine ⟨_, rfl, ?_⟩
      refine State_sp hs (i := 1) (.s .z) ?_
      intro a3 b3 c3 h5 hs
      rw [cs] at hs
      replace hs : Sat h0 (matE 32 a3 s.pages :: sE b3 1 (ints .i64 s.erases) :: sE c3 1 (bools s.blown) :: [refE pr C, chipE pc C, blk n2 [a.v, b.v, c'.v], blk n1 [.int .i64 c.cells, .int .i64 c.slots, .int .i64 c.fuses, .int .i64 c.step, .int .i64 c.keys, .int .i64 c.erases, .int .i64 c.area]]) h5 := hs
      refine ⟨Sat.cs hs (by (repeat (first | exact At.z | apply At.s))) (by rfl), ?_⟩
      refine SameState_args (a := a3) (b := b3) (c := c3) (a2 := a) (b2 := b) (c2 := c') (s := s) hs (fun h' hs' => sat_rdS hs' (i := 0) (j := 1) (k := 2) (by (repeat (first | exact At.z | apply At.s))) (by (repeat (first | exact At.z | apply At.s))) (by (repeat (first | exact At.z | apply At.s)))) rd0 sm ?_
      intro h6 hs
      replace hs := hs.drop.drop.drop
      refine ⟨_, rfl, ?_⟩
      refine Acts_sp hs (i := 1) (.s .z) ?_
      refine ⟨_, rfl, ?_⟩
      refine Cut_sp (i := 1) (bs := []) hs (.s .z) 0 (by decide) ⟨rfl, fun v hv => absurd hv List.not_mem_nil, Or.inl rfl⟩ (by intro x hx; simp at hx) (by decide) ?_
      intro h7 hs
      refine ⟨_, rfl, ?_⟩
      refine Blow_sp (i := 1) hs (.s .z) 0 ?_
      intro h8 hs
      have hout : (blowM (cutM C 0 []) ((0 : Nat) : Int)).1.out = true := by
        refine blow_out (C := cutM C 0 []) co ?_ rfl
        have hb := ok0.fits.blown
        have hsl := m.slots; have hfu := m.fuses; have hke := m.keys
        have hcf : C.cfg = c := by rw [hC]; rfl
        rw [hcf] at hb
        show 0 < C.s.blown.length
        unfold Cfg.nf at hb
        have : 0 ≤ c.slots * c.fuses := Int.mul_nonneg (by omega) (by omega)
        omega
      have hout' : (blowM (cutM C 0 []) 0).1.out = true := hout
      generalize (blowM (cutM C 0 []) 0).1 = D at *
      replace hs : Sat h0 [refE pr C, chipE pc D, blk n2 [a.v, b.v, c'.v], blk n1 [.int .i64 c.cells, .int .i64 c.slots, .int .i64 c.fuses, .int .i64 c.step, .int .i64 c.keys, .int .i64 c.erases, .int .i64 c.area]] h8 := hs
      refine ⟨_, rfl, ?_⟩
      refine Look_sp hs (i := 1) (.s .z) 0 ?_
      intro h9 hs
      have el : lookM D 0 = (inf0, 8) := by
        unfold lookM askedM
        simp [hout']
      rw [el]
      have z9 : (zeros 9).length = 9 := rfl
      intro n3 _ hn3; replace hs := Sat.new hs hn3; clear hn3
      dsimp only [inf0]
      (refine ⟨Sat.can hs (by (repeat (first | exact At.z | apply At.s))) (by decide), ?_⟩; intro _ e; replace hs := Sat.wra hs (by (repeat (first | exact At.z | apply At.s))) e ((inf_len z9).trans rfl); clear e; simp only [put] at hs)
      refine ⟨_, Sat.ld hs (by (repeat (first | exact At.z | apply At.s))) rfl, _, z9, Sat.row hs (by (repeat (first | exact At.z | apply At.s))) (inf_row z9), _, Sat.ld hs (by (repeat (first | exact At.z | apply At.s))) (inf_10 z9), _, Sat.ld hs (by (repeat (first | exact At.z | apply At.s))) (inf_11 z9), _, Sat.ld hs (by (repeat (first | exact At.z | apply At.s))) (inf_12 z9), ?_⟩
      refine like_sp z9 hs ?_
      intro h10 hs
      rw [if_pos (by simp), ca, if_pos (by simp), if_pos (by simp)]
      exact k _ hs.ex
end
end Go.Proofs.Ytamfkofcpoglnaa
