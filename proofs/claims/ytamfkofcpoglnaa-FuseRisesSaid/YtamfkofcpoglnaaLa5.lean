/- Contracts of the chip's statements: ChipLays. Own work. -/
import Derived.Test.YtamfkofcpoglnaaFa3
import Derived.Test.YtamfkofcpoglnaaFa6
import Derived.Test.YtamfkofcpoglnaaLa4
set_option autoImplicit false
set_option linter.all false
set_option maxRecDepth 100000
set_option linter.unusedVariables false
namespace Go.Proofs.Ytamfkofcpoglnaa
open Go Go.Vc

section
variable {h0 h : H} {A : List Ent} {i j p r : Nat} {C : Cm}
theorem small_lt {s : St} (sm : s.small) : s.pages.length < 2 ^ 62 ∧ s.erases.length < 2 ^ 62 ∧ s.blown.length < 2 ^ 62 ∧ ∀ l, l ∈ s.pages → l.length < 2 ^ 62 := by
  have h1 := sm.pages; have h2 := sm.erases; have h3 := sm.blown
  exact ⟨by omega, by omega, by omega, fun l hl => by have := sm.rows l hl; omega⟩
theorem SameState_args {a b c a2 b2 c2 : Sl} {s : St} {Q : Bool → H → Prop} (hs : Sat h0 A h) (rd1 : ∀ h', Sat h0 A h' → RdS h' a b c s) (rd0 : RdS h0 a2 b2 c2 s) (sm : s.small) (k : ∀ h', Sat h0 A h' → Q true h') :
    F_portcullisref04_SameState a.1 a.2.1 a.2.2 b.1 b.2.1 b.2.2 c.1 c.2.1 c.2.2 a2.1 a2.2.1 a2.2.2 b2.1 b2.2.1 b2.2.2 c2.1 c2.2.1 c2.2.2 Q h := by
  obtain ⟨h1, h2, h3, h4⟩ := small_lt sm
  exact SameState_sp hs rd1 (fun h' hs' => rd0.ext hs'.ex) h1 h2 h3 h4 k
theorem ChipLays_sp {a b c' : Sl} {Q : Bool → H → Prop} {mp : Option Addr} {ml mc : Nat} (c : Cfg) (s : St) (rd0 : RdS h0 a b c' s) (ty : s.typed) (sm : s.small) (sc : List Stp) (rd : ScriptRd h0 mp ml sc) (k : ∀ h', Ext none_ h0 h' → Q true h') :
    F_portcullislaw04_ChipLays c.cells c.slots c.fuses c.step c.keys c.erases c.area a.1 a.2.1 a.2.2 b.1 b.2.1 b.2.2 c'.1 c'.2.1 c'.2.2 mp ml mc Q h0 := by
  unfold F_portcullislaw04_ChipLays G_portcullislaw04_ChipLays
  have hs := Sat.init h0
  simp only [add_mk, Nat.zero_add, List.append_nil]
  intro n1 _ hn; replace hs := Sat.new hs hn; clear hn
  intro n2 _ hn; replace hs := Sat.new hs hn; clear hn
  refine fixed_sp hs ?_
  intro h1 hs
  refine ⟨_, _, _, Sat.ld hs (by (repeat (first | exact At.z | apply At.s))) (by rfl), ?_⟩
  refine ⟨_, _, _, Sat.ld hs (by (repeat (first | exact At.z | apply At.s))) (by rfl), ?_⟩
  refine ⟨_, _, _, Sat.ld hs (by (repeat (first | exact At.z | apply At.s))) (by rfl), ?_⟩
  refine CopyState_sp (a := a) (b := b) (c := c') (s := s) hs (fun h' hs' => rd0.ext hs'.ex) sm ?_
  intro a2 b2 c2 h2 hs
  replace hs : Sat h0 (matE 32 a2 s.pages :: sE b2 1 (ints .i64 s.erases) :: sE c2 1 (bools s.blown) :: [blk n2 [a.v, b.v, c'.v], blk n1 [.int .i64 c.cells, .int .i64 c.slots, .int .i64 c.fuses, .int .i64 c.step, .int .i64 c.keys, .int .i64 c.erases, .int .i64 c.area]]) h2 := hs
  intro n3 _ hn; replace hs := Sat.new hs hn; clear hn
  (repeat first | refine ⟨_, Sat.ld hs (by (repeat (first | exact At.z | apply At.s))) (by rfl), ?_⟩ | refine ⟨_, _, _, Sat.ld hs (by (repeat (first | exact At.z | apply At.s))) (by rfl), ?_⟩ | (intro _ _ hn; replace hs := Sat.new hs hn; clear hn) | refine ⟨Sat.cs hs (by (repeat (first | exact At.z | apply At.s))) (by rfl), ?_⟩ | (refine ⟨Sat.can hs (by (repeat (first | exact At.z | apply At.s))) (by simp), ?_⟩; intro _ e; replace hs := Sat.wr hs (by (repeat (first | exact At.z | apply At.s))) e; clear e; simp only [put, splice, List.set] at hs))
  refine Lay_sp (a := a2) (b := b2) (c' := c2) (s := s) c hs (fun h' hs' => sat_rdS hs' (i := 1) (j := 2) (k := 3) (by (repeat (first | exact At.z | apply At.s))) (by (repeat (first | exact At.z | apply At.s))) (by (repeat (first | exact At.z | apply At.s)))) ty ?_ ?_ ?_
  · intro nm h3 hs
    (repeat first | refine ⟨_, Sat.ld hs (by (repeat (first | exact At.z | apply At.s))) (by rfl), ?_⟩ | refine ⟨_, _, _, Sat.ld hs (by (repeat (first | exact At.z | apply At.s))) (by rfl), ?_⟩ | (intro _ _ hn; replace hs := Sat.new hs hn; clear hn) | refine ⟨Sat.cs hs (by (repeat (first | exact At.z | apply At.s))) (by rfl), ?_⟩ | (refine ⟨Sat.can hs (by (repeat (first | exact At.z | apply At.s))) (by simp), ?_⟩; intro _ e; replace hs := Sat.wr hs (by (repeat (first | exact At.z | apply At.s))) e; clear e; simp only [put, splice, List.set] at hs))
    refine rLay_sp (a := a) (b := b) (c' := c') (s := s) c hs (fun h' hs' => rd0.ext hs'.ex) ty ?_ (fun m => absurd m nm) (fun m => absurd m nm)
    intro _ h4 hs
    (repeat first | refine ⟨_, Sat.ld hs (by (repeat (first | exact At.z | apply At.s))) (by rfl), ?_⟩ | refine ⟨_, _, _, Sat.ld hs (by (repeat (first | exact At.z | apply At.s))) (by rfl), ?_⟩ | (intro _ _ hn; replace hs := Sat.new hs hn; clear hn) | refine ⟨Sat.cs hs (by (repeat (first | exact At.z | apply At.s))) (by rfl), ?_⟩ | (refine ⟨Sat.can hs (by (repeat (first | exact At.z | apply At.s))) (by simp), ?_⟩; intro _ e; replace hs := Sat.wr hs (by (repeat (first | exact At.z | apply At.s))) e; clear e; simp only [put, splice, List.set] at hs))
    refine SameState_args (a := a2) (b := b2) (c := c2) (a2 := a) (b2 := b) (c2 := c') (s := s) hs (fun h' hs' => sat_rdS hs' (i := 1) (j := 2) (k := 3) (by (repeat (first | exact At.z | apply At.s))) (by (repeat (first | exact At.z | apply At.s))) (by (repeat (first | exact At.z | apply At.s)))) rd0 sm ?_
    intro h5 hs J hJ
    rw [if_neg (by simp), if_neg (by simp), if_neg (by simp), if_neg (by simp)]
    apply hJ
    (repeat first | refine ⟨_, Sat.ld hs (by (repeat (first | exact At.z | apply At.s))) (by rfl), ?_⟩ | refine ⟨_, _, _, Sat.ld hs (by (repeat (first | exact At.z | apply At.s))) (by rfl), ?_⟩ | (intro _ _ hn; replace hs := Sat.new hs hn; clear hn) | refine ⟨Sat.cs hs (by (repeat (first | exact At.z | apply At.s))) (by rfl), ?_⟩ | (refine ⟨Sat.can hs (by (repeat (first | exact At.z | apply At.s))) (by simp), ?_⟩; intro _ e; replace hs := Sat.wr hs (by (repeat (first | exact At.z | apply At.s))) e; clear e; simp only [put, splice, List.set] at hs))
    replace hs := Sat.front hs (e := sE c2 1 (bools s.blown)) (by (repeat (first | exact At.z | apply At.s)))
    replace hs := Sat.front hs (e := sE b2 1 (ints .i64 s.erases)) (by (repeat (first | exact At.z | apply At.s)))
    replace hs := Sat.front hs (e := matE 32 a2 s.pages) (by (repeat (first | exact At.z | apply At.s)))
    simp only [del] at hs
    refine wreck_sp (a := a2) (b := b2) (c := c2) hs sm ?_
    intro h6 hs
    rw [if_pos (by simp)]
    exact k _ hs.ex
  · intro m nl h3 hs
    (repeat first | refine ⟨_, Sat.ld hs (by (repeat (first | exact At.z | apply At.s))) (by rfl), ?_⟩ | refine ⟨_, _, _, Sat.ld hs (by (repeat (first | exact At.z | apply At.s))) (by rfl), ?_⟩ | (intro _ _ hn; replace hs := Sat.new hs hn; clear hn) | refine ⟨Sat.cs hs (by (repeat (first | exact At.z | apply At.s))) (by rfl), ?_⟩ | (refine ⟨Sat.can hs (by (repeat (first | exact At.z | apply At.s))) (by simp), ?_⟩; intro _ e; replace hs := Sat.wr hs (by (repeat (first | exact At.z | apply At.s))) e; clear e; simp only [put, splice, List.set] at hs))
    refine rLay_sp (a := a) (b := b) (c' := c') (s := s) c hs (fun h' hs' => rd0.ext hs'.ex) ty (fun nm => absurd m nm) ?_ (fun _ l => absurd l nl)
    intro _ _ h4 hs
    (repeat first | refine ⟨_, Sat.ld hs (by (repeat (first | exact At.z | apply At.s))) (by rfl), ?_⟩ | refine ⟨_, _, _, Sat.ld hs (by (repeat (first | exact At.z | apply At.s))) (by rfl), ?_⟩ | (intro _ _ hn; replace hs := Sat.new hs hn; clear hn) | refine ⟨Sat.cs hs (by (repeat (first | exact At.z | apply At.s))) (by rfl), ?_⟩ | (refine ⟨Sat.can hs (by (repeat (first | exact At.z | apply At.s))) (by simp), ?_⟩; intro _ e; replace hs := Sat.wr hs (by (repeat (first | exact At.z | apply At.s))) e; clear e; simp only [put, splice, List.set] at hs))
    refine SameState_args (a := a2) (b := b2) (c := c2) (a2 := a) (b2 := b) (c2 := c') (s := s) hs (fun h' hs' => sat_rdS hs' (i := 1) (j := 2) (k := 3) (by (repeat (first | exact At.z | apply At.s))) (by (repeat (first | exact At.z | apply At.s))) (by (repeat (first | exact At.z | apply At.s)))) rd0 sm ?_
    intro h5 hs J hJ
    rw [if_neg (by simp), if_neg (by simp), if_neg (by simp), if_neg (by simp)]
    apply hJ
    (repeat first | refine ⟨_, Sat.ld hs (by (repeat (first | exact At.z | apply At.s))) (by rfl), ?_⟩ | refine ⟨_, _, _, Sat.ld hs (by (repeat (first | exact At.z | apply At.s))) (by rfl), ?_⟩ | (intro _ _ hn; replace hs := Sat.new hs hn; clear hn) | refine ⟨Sat.cs hs (by (repeat (first | exact At.z | apply At.s))) (by rfl), ?_⟩ | (refine ⟨Sat.can hs (by (repeat (first | exact At.z | apply At.s))) (by simp), ?_⟩; intro _ e; replace hs := Sat.wr hs (by (repeat (first | exact At.z | apply At.s))) e; clear e; simp only [put, splice, List.set] at hs))
    replace hs := Sat.front hs (e := sE c2 1 (bools s.blown)) (by (repeat (first | exact At.z | apply At.s)))
    replace hs := Sat.front hs (e := sE b2 1 (ints .i64 s.erases)) (by (repeat (first | exact At.z | apply At.s)))
    replace hs := Sat.front hs (e := matE 32 a2 s.pages) (by (repeat (first | exact At.z | apply At.s)))
    simp only [del] at hs
    refine wreck_sp (a := a2) (b := b2) (c := c2) hs sm ?_
    intro h6 hs
    rw [if_pos (by simp)]
    exact k _ hs.ex
  · intro m l pc h3 hs
    (repeat first | refine ⟨_, Sat.ld hs (by (repeat (first | exact At.z | apply At.s))) (by rfl), ?_⟩ | refine ⟨_, _, _, Sat.ld hs (by (repeat (first | exact At.z | apply At.s))) (by rfl), ?_⟩ | (intro _ _ hn; replace hs := Sat.new hs hn; clear hn) | refine ⟨Sat.cs hs (by (repeat (first | exact At.z | apply At.s))) (by rfl), ?_⟩ | (refine ⟨Sat.can hs (by (repeat (first | exact At.z | apply At.s))) (by simp), ?_⟩; intro _ e; replace hs := Sat.wr hs (by (repeat (first | exact At.z | apply At.s))) e; clear e; simp only [put, splice, List.set] at hs))
    refine rLay_sp (a := a) (b := b) (c' := c') (s := s) c hs (fun h' hs' => rd0.ext hs'.ex) ty (fun nm => absurd m nm) (fun _ nl => absurd l nl) ?_
    intro _ _ pr h4 hs
    (repeat first | refine ⟨_, Sat.ld hs (by (repeat (first | exact At.z | apply At.s))) (by rfl), ?_⟩ | refine ⟨_, _, _, Sat.ld hs (by (repeat (first | exact At.z | apply At.s))) (by rfl), ?_⟩ | (intro _ _ hn; replace hs := Sat.new hs hn; clear hn) | refine ⟨Sat.cs hs (by (repeat (first | exact At.z | apply At.s))) (by rfl), ?_⟩ | (refine ⟨Sat.can hs (by (repeat (first | exact At.z | apply At.s))) (by simp), ?_⟩; intro _ e; replace hs := Sat.wr hs (by (repeat (first | exact At.z | apply At.s))) e; clear e; simp only [put, splice, List.set] at hs))
    refine SameState_args (a := a2) (b := b2) (c := c2) (a2 := a) (b2 := b) (c2 := c') (s := s) hs (fun h' hs' => sat_rdS hs' (i := 3) (j := 4) (k := 5) (by (repeat (first | exact At.z | apply At.s))) (by (repeat (first | exact At.z | apply At.s))) (by (repeat (first | exact At.z | apply At.s)))) rd0 sm ?_
    intro h5 hs J hJ
    rw [if_neg (by simp), if_neg (by simp), if_neg (by simp), if_neg (by simp)]
    apply hJ
    (repeat first | refine ⟨_, Sat.ld hs (by (repeat (first | exact At.z | apply At.s))) (by rfl), ?_⟩ | refine ⟨_, _, _, Sat.ld hs (by (repeat (first | exact At.z | apply At.s))) (by rfl), ?_⟩ | (intro _ _ hn; replace hs := Sat.new hs hn; clear hn) | refine ⟨Sat.cs hs (by (repeat (first | exact At.z | apply At.s))) (by rfl), ?_⟩ | (refine ⟨Sat.can hs (by (repeat (first | exact At.z | apply At.s))) (by simp), ?_⟩; intro _ e; replace hs := Sat.wr hs (by (repeat (first | exact At.z | apply At.s))) e; clear e; simp only [put, splice, List.set] at hs))
    replace hs := Sat.front hs (e := sE c2 1 (bools s.blown)) (by (repeat (first | exact At.z | apply At.s)))
    replace hs := Sat.front hs (e := sE b2 1 (ints .i64 s.erases)) (by (repeat (first | exact At.z | apply At.s)))
    replace hs := Sat.front hs (e := matE 32 a2 s.pages) (by (repeat (first | exact At.z | apply At.s)))
    simp only [del] at hs
    refine wreck_sp (a := a2) (b := b2) (c := c2) hs sm ?_
    intro h6 hs
    rw [if_neg (by simp)]
    (repeat first | refine ⟨_, Sat.ld hs (by (repeat (first | exact At.z | apply At.s))) (by rfl), ?_⟩ | refine ⟨_, _, _, Sat.ld hs (by (repeat (first | exact At.z | apply At.s))) (by rfl), ?_⟩ | (intro _ _ hn; replace hs := Sat.new hs hn; clear hn) | refine ⟨Sat.cs hs (by (repeat (first | exact At.z | apply At.s))) (by rfl), ?_⟩ | (refine ⟨Sat.can hs (by (repeat (first | exact At.z | apply At.s))) (by simp), ?_⟩; intro _ e; replace hs := Sat.wr hs (by (repeat (first | exact At.z | apply At.s))) e; clear e; simp only [put, splice, List.set] at hs))
    refine ⟨_, rfl, ?_⟩
    refine State_sp hs (C := layC c s) (p := pc) (i := 1) (.s .z) ?_
    intro a3 b3 c3 h7 hs
    replace hs : Sat h0 (matE 32 a3 s.pages :: sE b3 1 (ints .i64 s.erases) :: sE c3 1 (bools s.blown) :: refE pr (layC c s) :: chipE pc (layC c s) :: blk n3 [a2.v, b2.v, c2.v] :: [blk n2 [a.v, b.v, c'.v], blk n1 [.int .i64 c.cells, .int .i64 c.slots, .int .i64 c.fuses, .int .i64 c.step, .int .i64 c.keys, .int .i64 c.erases, .int .i64 c.area]]) h7 := hs
    refine ⟨Sat.cs hs (by (repeat (first | exact At.z | apply At.s))) (by rfl), ?_⟩
    refine Lay_sp (a := a3) (b := b3) (c' := c3) (s := s) c hs (fun h' hs' => sat_rdS hs' (i := 0) (j := 1) (k := 2) (by (repeat (first | exact At.z | apply At.s))) (by (repeat (first | exact At.z | apply At.s))) (by (repeat (first | exact At.z | apply At.s)))) ty (fun nm => absurd m nm) (fun _ nl => absurd l nl) ?_
    intro _ _ pq h8 hs
    rw [if_neg (by simp), if_neg (by simp)]
    (repeat first | refine ⟨_, Sat.ld hs (by (repeat (first | exact At.z | apply At.s))) (by rfl), ?_⟩ | refine ⟨_, _, _, Sat.ld hs (by (repeat (first | exact At.z | apply At.s))) (by rfl), ?_⟩ | (intro _ _ hn; replace hs := Sat.new hs hn; clear hn) | refine ⟨Sat.cs hs (by (repeat (first | exact At.z | apply At.s))) (by rfl), ?_⟩ | (refine ⟨Sat.can hs (by (repeat (first | exact At.z | apply At.s))) (by simp), ?_⟩; intro _ e; replace hs := Sat.wr hs (by (repeat (first | exact At.z | apply At.s))) e; clear e; simp only [put, splice, List.set] at hs))
    refine ⟨_, rfl, ?_⟩
    refine State_sp hs (C := layC c s) (p := pq) (i := 0) .z ?_
    intro a4 b4 c4 h9 hs
    replace hs : Sat h0 (matE 32 a4 s.pages :: sE b4 1 (ints .i64 s.erases) :: sE c4 1 (bools s.blown) :: chipE pq (layC c s) :: matE 32 a3 s.pages :: sE b3 1 (ints .i64 s.erases) :: sE c3 1 (bools s.blown) :: refE pr (layC c s) :: chipE pc (layC c s) :: blk n3 [a2.v, b2.v, c2.v] :: [blk n2 [a.v, b.v, c'.v], blk n1 [.int .i64 c.cells, .int .i64 c.slots, .int .i64 c.fuses, .int .i64 c.step, .int .i64 c.keys, .int .i64 c.erases, .int .i64 c.area]]) h9 := hs
    refine ⟨Sat.cs hs (by (repeat (first | exact At.z | apply At.s))) (by rfl), ?_⟩
    refine SameState_args (a := a4) (b := b4) (c := c4) (a2 := a) (b2 := b) (c2 := c') (s := s) hs (fun h' hs' => sat_rdS hs' (i := 0) (j := 1) (k := 2) (by (repeat (first | exact At.z | apply At.s))) (by (repeat (first | exact At.z | apply At.s))) (by (repeat (first | exact At.z | apply At.s)))) rd0 sm ?_
    intro h10 hs
    rw [if_pos (by simp)]
    refine ⟨_, rfl, _, rfl, ?_⟩
    replace hs := Sat.front hs (e := refE pr (layC c s)) (by (repeat (first | exact At.z | apply At.s)))
    replace hs := Sat.front hs (e := chipE pc (layC c s)) (by (repeat (first | exact At.z | apply At.s)))
    exact game_sp (C := layC c s) sc rd hs k
end
end Go.Proofs.Ytamfkofcpoglnaa
