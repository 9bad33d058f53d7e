/- Contracts of the chip's statements: pairs of chips. Own work. -/
import Derived.Test.YtamfkofcpoglnaaFa4
import Derived.Test.YtamfkofcpoglnaaLa1
set_option autoImplicit false
set_option linter.all false
set_option maxRecDepth 100000
set_option linter.unusedVariables false
namespace Go.Proofs.Ytamfkofcpoglnaa
open Go Go.Vc

section
variable {h0 h : H} {A : List Ent} {i j p r : Nat} {C : Cm}
theorem ref_ld (hs : Sat h0 A h) (cj : At A j (refE r C)) : ∃ w : Pl, ∀ o v, (C.cells w.a w.b w.c w.m)[o]? = some v → hc h ⟨r, o, none⟩ = some v := by
  obtain ⟨⟨w, ms⟩, _, hs⟩ := (hs.front cj).open_
  exact ⟨w, fun o v e => hs.ld .z e⟩
theorem chip_ok (hs : Sat h0 A h) (ci : At A i (chipE p C)) : C.ok := by
  obtain ⟨w, ok, _⟩ := (hs.front ci).open_
  exact ok
theorem same_sp {Q : Bool → H → Prop} (hs : Sat h0 A h) (ci : At A i (chipE p C)) (cj : At A j (refE r C)) (k : ∀ h', Sat h0 A h' → Q true h') : F_portcullislaw04_pair_same (some ⟨p, 0, none⟩) (some ⟨r, 0, none⟩) Q h := by
  unfold F_portcullislaw04_pair_same G_portcullislaw04_pair_same
  simp only [add_mk, Nat.zero_add]
  have ok := chip_ok hs ci
  have sm := ok.small
  have smp := sm.pages; have sme := sm.erases; have smb := sm.blown
  have smr : ∀ l, l ∈ C.s.pages → l.length < 2 ^ 62 := fun l hl => by have := sm.rows l hl; omega
  intro n0 _ hn; replace hs := Sat.new hs hn; clear hn
  refine ⟨_, Sat.ld hs (by (repeat (first | exact At.z | apply At.s))) (by rfl), ?_⟩
  refine ⟨_, rfl, ?_⟩
  refine State_sp hs ci.s ?_
  intro a1 b1 c1 h1 hs
  replace hs : Sat h0 (matE 32 a1 C.s.pages :: sE b1 1 (ints .i64 C.s.erases) :: sE c1 1 (bools C.s.blown) :: blk n0 [.pointer (some ⟨p, 0, none⟩), .pointer (some ⟨r, 0, none⟩)] :: A) h1 := hs
  intro n1 _ hn; replace hs := Sat.new hs hn; clear hn
  (refine ⟨Sat.can hs (by (repeat (first | exact At.z | apply At.s))) (by simp), ?_⟩; intro _ e; replace hs := Sat.wr hs (by (repeat (first | exact At.z | apply At.s))) e; clear e; simp only [put, splice, List.set] at hs)
  refine ⟨_, Sat.ld hs (by (repeat (first | exact At.z | apply At.s))) (by rfl), ?_⟩
  refine ⟨_, rfl, ?_⟩
  refine State_sp hs (i := i + 5) ci.s.s.s.s.s ?_
  intro a2 b2 c2 h2 hs
  replace hs : Sat h0 (matE 32 a2 C.s.pages :: sE b2 1 (ints .i64 C.s.erases) :: sE c2 1 (bools C.s.blown) :: blk n1 [a1.v, b1.v, c1.v] :: matE 32 a1 C.s.pages :: sE b1 1 (ints .i64 C.s.erases) :: sE c1 1 (bools C.s.blown) :: blk n0 [.pointer (some ⟨p, 0, none⟩), .pointer (some ⟨r, 0, none⟩)] :: A) h2 := hs
  intro n2 _ hn; replace hs := Sat.new hs hn; clear hn
  (refine ⟨Sat.can hs (by (repeat (first | exact At.z | apply At.s))) (by simp), ?_⟩; intro _ e; replace hs := Sat.wr hs (by (repeat (first | exact At.z | apply At.s))) e; clear e; simp only [put, splice, List.set] at hs)
  -- the document's chip laid open
  have cj9 := cj.s (x := blk n0 [.pointer (some ⟨p, 0, none⟩), .pointer (some ⟨r, 0, none⟩)])
  obtain ⟨⟨w, ms⟩, ⟨_, mb, ml, me⟩, hs⟩ := (hs.front (i := j + 9) cj.s.s.s.s.s.s.s.s.s).open_
  replace hs : Sat h0 (blk r (C.cells w.a w.b w.c w.m) :: matE 32 w.a C.s.pages :: sE w.b 1 (ints .i64 C.s.erases) :: sE w.c 1 (bools C.s.blown) :: sE w.m 1 (ints .u8 ms) ::
    blk n2 [a2.v, b2.v, c2.v] :: matE 32 a2 C.s.pages :: sE b2 1 (ints .i64 C.s.erases) :: sE c2 1 (bools C.s.blown) :: blk n1 [a1.v, b1.v, c1.v] :: matE 32 a1 C.s.pages :: sE b1 1 (ints .i64 C.s.erases) :: sE c1 1 (bools C.s.blown) ::
    blk n0 [.pointer (some ⟨p, 0, none⟩), .pointer (some ⟨r, 0, none⟩)] :: del A j) _ := hs
  refine ⟨_, _, _, Sat.ld hs (by (repeat (first | exact At.z | apply At.s))) (by rfl), ?_⟩
  refine ⟨_, _, _, Sat.ld hs (by (repeat (first | exact At.z | apply At.s))) (by rfl), ?_⟩
  refine ⟨_, _, _, Sat.ld hs (by (repeat (first | exact At.z | apply At.s))) (by rfl), ?_⟩
  refine ⟨_, Sat.ld hs (by (repeat (first | exact At.z | apply At.s))) (by rfl), ?_⟩
  refine ⟨_, rfl, ?_⟩
  simp only [add_mk, Nat.zero_add]
  refine ⟨_, _, _, Sat.ld hs (by (repeat (first | exact At.z | apply At.s))) (by rfl), ?_⟩
  refine ⟨_, _, _, Sat.ld hs (by (repeat (first | exact At.z | apply At.s))) (by rfl), ?_⟩
  refine ⟨_, _, _, Sat.ld hs (by (repeat (first | exact At.z | apply At.s))) (by rfl), ?_⟩
  refine SameState_sp (a := a1) (b := b1) (c := c1) (a2 := w.a) (b2 := w.b) (c2 := w.c) (s := C.s) hs
    (fun h' hs' => sat_rdS hs' (i := 10) (j := 11) (k := 12) (by (repeat (first | exact At.z | apply At.s))) (by (repeat (first | exact At.z | apply At.s))) (by (repeat (first | exact At.z | apply At.s)))) (fun h' hs' => sat_rdS hs' (i := 1) (j := 2) (k := 3) (by (repeat (first | exact At.z | apply At.s))) (by (repeat (first | exact At.z | apply At.s))) (by (repeat (first | exact At.z | apply At.s)))) (by omega) (by omega) (by omega) smr ?_
  intro h3 hs
  refine ⟨_, _, _, Sat.ld hs (by (repeat (first | exact At.z | apply At.s))) (by rfl), ?_⟩
  refine ⟨_, _, _, Sat.ld hs (by (repeat (first | exact At.z | apply At.s))) (by rfl), ?_⟩
  refine ⟨_, _, _, Sat.ld hs (by (repeat (first | exact At.z | apply At.s))) (by rfl), ?_⟩
  replace hs := Sat.front hs (e := sE c1 1 (bools C.s.blown)) (by (repeat (first | exact At.z | apply At.s)))
  replace hs := Sat.front hs (e := sE b1 1 (ints .i64 C.s.erases)) (by (repeat (first | exact At.z | apply At.s)))
  replace hs := Sat.front hs (e := matE 32 a1 C.s.pages) (by (repeat (first | exact At.z | apply At.s)))
  simp only [del] at hs
  refine wreck_sp (a := a1) (b := b1) (c := c1) hs sm ?_
  intro h4 hs
  refine ⟨_, _, _, Sat.ld hs (by (repeat (first | exact At.z | apply At.s))) (by rfl), ?_⟩
  refine ⟨_, _, _, Sat.ld hs (by (repeat (first | exact At.z | apply At.s))) (by rfl), ?_⟩
  refine ⟨_, _, _, Sat.ld hs (by (repeat (first | exact At.z | apply At.s))) (by rfl), ?_⟩
  refine ⟨_, Sat.ld hs (by (repeat (first | exact At.z | apply At.s))) (by rfl), ?_⟩
  refine ⟨_, rfl, ?_⟩
  simp only [add_mk, Nat.zero_add]
  refine ⟨_, _, _, Sat.ld hs (by (repeat (first | exact At.z | apply At.s))) (by rfl), ?_⟩
  refine ⟨_, _, _, Sat.ld hs (by (repeat (first | exact At.z | apply At.s))) (by rfl), ?_⟩
  refine ⟨_, _, _, Sat.ld hs (by (repeat (first | exact At.z | apply At.s))) (by rfl), ?_⟩
  refine SameState_sp (a := a2) (b := b2) (c := c2) (a2 := w.a) (b2 := w.b) (c2 := w.c) (s := C.s) hs
    (fun h' hs' => sat_rdS hs' (i := 6) (j := 7) (k := 8) (by (repeat (first | exact At.z | apply At.s))) (by (repeat (first | exact At.z | apply At.s))) (by (repeat (first | exact At.z | apply At.s)))) (fun h' hs' => sat_rdS hs' (i := 1) (j := 2) (k := 3) (by (repeat (first | exact At.z | apply At.s))) (by (repeat (first | exact At.z | apply At.s))) (by (repeat (first | exact At.z | apply At.s)))) (by omega) (by omega) (by omega) smr ?_
  intro h5 hs
  refine ⟨_, _, _, Sat.ld hs (by (repeat (first | exact At.z | apply At.s))) (by rfl), ?_⟩
  refine ⟨_, _, _, Sat.ld hs (by (repeat (first | exact At.z | apply At.s))) (by rfl), ?_⟩
  refine ⟨_, _, _, Sat.ld hs (by (repeat (first | exact At.z | apply At.s))) (by rfl), ?_⟩
  replace hs := Sat.front hs (e := sE c2 1 (bools C.s.blown)) (by (repeat (first | exact At.z | apply At.s)))
  replace hs := Sat.front hs (e := sE b2 1 (ints .i64 C.s.erases)) (by (repeat (first | exact At.z | apply At.s)))
  replace hs := Sat.front hs (e := matE 32 a2 C.s.pages) (by (repeat (first | exact At.z | apply At.s)))
  simp only [del] at hs
  refine wreck_sp (a := a2) (b := b2) (c := c2) hs sm ?_
  intro h6 hs
  replace hs := ref_close (C := C) (a := w.a) (b := w.b) (c := w.c) (m := w.m) ok mb ml me cj.s.s.s hs
  simp only [put_succ, cj.put_self] at hs
  replace hs := hs.drop.drop
  refine ⟨_, Sat.ld hs (by (repeat (first | exact At.z | apply At.s))) (by rfl), ?_⟩
  refine ⟨_, Sat.ld hs (by (repeat (first | exact At.z | apply At.s))) (by rfl), ?_⟩
  refine ⟨_, rfl, ?_⟩
  simp only [add_mk, Nat.zero_add]
  obtain ⟨w1, ld⟩ := ref_ld hs cj.s
  refine ⟨_, ld 0 _ rfl, _, ld 1 _ rfl, _, ld 2 _ rfl, _, ld 3 _ rfl, _, ld 4 _ rfl, _, ld 5 _ rfl, _, ld 6 _ rfl, _, rfl, ?_⟩
  refine Config_sp hs ci.s ?_
  intro h7 hs
  obtain ⟨w2, ld2⟩ := ref_ld hs cj.s
  have hc7 : hcs h7 ⟨r, 0, none⟩ [Value.int .i64 C.cfg.cells, .int .i64 C.cfg.slots, .int .i64 C.cfg.fuses, .int .i64 C.cfg.step, .int .i64 C.cfg.keys, .int .i64 C.cfg.erases, .int .i64 C.cfg.area] := by
    intro o v hv
    have : o < 7 := by have := (List.getElem?_eq_some_iff.1 hv).1; simpa using this
    rw [add_mk, Nat.zero_add]
    refine ld2 o v ?_
    rw [← hv]
    match o, this with
    | 0, _ => rfl
    | 1, _ => rfl
    | 2, _ => rfl
    | 3, _ => rfl
    | 4, _ => rfl
    | 5, _ => rfl
    | 6, _ => rfl
  refine ⟨hc7, hcs_one (hs.ld .z rfl), ?_⟩
  rw [if_pos (by simp), if_pos (by simp), if_pos (by simp)]
  refine ⟨_, Sat.ld hs (by (repeat (first | exact At.z | apply At.s))) (by rfl), ?_⟩
  refine ⟨_, Sat.ld hs (by (repeat (first | exact At.z | apply At.s))) (by rfl), ?_⟩
  refine ⟨_, rfl, ?_⟩
  simp only [add_mk, Nat.zero_add]
  refine ⟨_, ld2 10 _ rfl, _, rfl, ?_⟩
  refine Acts_sp hs ci.s ?_
  refine ⟨hcs_one (ld2 10 _ rfl), hcs_one (hs.ld .z rfl), ?_⟩
  rw [if_pos (by simp)]
  refine ⟨_, Sat.ld hs (by (repeat (first | exact At.z | apply At.s))) (by rfl), ?_⟩
  refine ⟨_, Sat.ld hs (by (repeat (first | exact At.z | apply At.s))) (by rfl), ?_⟩
  refine ⟨_, rfl, ?_⟩
  simp only [add_mk, Nat.zero_add]
  refine ⟨_, ld2 11 _ rfl, _, rfl, ?_⟩
  refine Out_sp hs ci.s ?_
  refine ⟨hcs_one (ld2 11 _ rfl), hcs_one (hs.ld .z rfl), ?_⟩
  have := k _ hs.drop
  simpa using this
end
end Go.Proofs.Ytamfkofcpoglnaa
