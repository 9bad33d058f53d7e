/- Contracts of the document's chip: its methods. Own work. -/
import Derived.Test.YtamfkofcpoglnaaFa4
import Derived.Test.YtamfkofcpoglnaaRf2
import Derived.Test.YtamfkofcpoglnaaBy
set_option autoImplicit false
set_option linter.all false
set_option linter.unusedVariables false
namespace Go.Proofs.Ytamfkofcpoglnaa
open Go Go.Vc

/-- The document's chip: as the program's, but that a mask which is used up may stay. -/
structure RefW (C : Cm) (w : Pl × List Int) : Prop where
  ok : C.ok
  b : bytesOk w.2
  l : w.2.length ≤ 2 ^ 47
  m : 0 ≤ C.left → w.2 = C.mask
abbrev refL (p : Nat) (C : Cm) (w : Pl × List Int) : List Ent := [blk p (C.cells w.1.a w.1.b w.1.c w.1.m), matE 32 w.1.a C.s.pages, sE w.1.b 1 (ints .i64 C.s.erases), sE w.1.c 1 (bools C.s.blown), sE w.1.m 1 (ints .u8 w.2)]
def refE (p : Nat) (C : Cm) : Ent := exE 4 (RefW C) (refL p C)

section
variable {h0 h : H} {A : List Ent} {i p : Nat} {C : Cm}
theorem ref_close {C0 : Cm} {a b c m : Sl} {ms : List Int} (ok : C.ok) (mb : bytesOk ms) (ml : ms.length ≤ 2 ^ 47) (me : 0 ≤ C.left → ms = C.mask) (ci : At A i (refE p C0))
    (hs : Sat h0 (blk p (C.cells a b c m) :: matE 32 a C.s.pages :: sE b 1 (ints .i64 C.s.erases) :: sE c 1 (bools C.s.blown) :: sE m 1 (ints .u8 ms) :: del A i) h) : Sat h0 (put A i (refE p C)) h :=
  Sat.back ci (Sat.close (⟨a, b, c, m⟩, ms) ⟨ok, mb, ml, me⟩ hs)
theorem ref_make {a b c m : Sl} {ms : List Int} (ok : C.ok) (mb : bytesOk ms) (ml : ms.length ≤ 2 ^ 47) (me : 0 ≤ C.left → ms = C.mask)
    (hs : Sat h0 (blk p (C.cells a b c m) :: matE 32 a C.s.pages :: sE b 1 (ints .i64 C.s.erases) :: sE c 1 (bools C.s.blown) :: sE m 1 (ints .u8 ms) :: A) h) : Sat h0 (refE p C :: A) h :=
  Sat.close (⟨a, b, c, m⟩, ms) ⟨ok, mb, ml, me⟩ hs
theorem chip_ref (hs : Sat h0 A h) (ci : At A i (chipE p C)) : Sat h0 (put A i (refE p C)) h := by
  obtain ⟨w, ok, hs⟩ := (hs.front ci).open_; dsimp only [chipL, List.cons_append, List.nil_append, Cm.cells] at hs
  exact Sat.back ci (ref_make (a := w.a) (b := w.b) (c := w.c) (m := w.m) ok ok.mask ok.mlen (fun _ => rfl) hs)

theorem act_b {Q : Bool → H → Prop} {a b c m : Sl} (hs : Sat h0 A h) (ci : At A i (blk p (C.cells a b c m))) (ok : C.ok) (k : ∀ h', Sat h0 (put A i (blk p (C.act.cells a b c m))) h' → Q (decide (C.left = 0)) h') : F_portcullisref04_Chip_act ⟨p, 0, none⟩ Q h := by
  unfold F_portcullisref04_Chip_act G_portcullisref04_Chip_act
  simp only [add_mk, Nat.zero_add]
  have hl := ok.left
  have hl2 := ok.left2
  have ea : C.act.cells a b c m = [.int .i64 C.cfg.cells, .int .i64 C.cfg.slots, .int .i64 C.cfg.fuses, .int .i64 C.cfg.step, .int .i64 C.cfg.keys, .int .i64 C.cfg.erases, .int .i64 C.cfg.area, a.v, b.v, c.v,
      .int .i64 (w64 (C.acts + 1)), .bool C.act.out, .int .i64 C.act.left, m.v] := by unfold Cm.act; split <;> rfl
  rw [ea] at k
  replace hs := (hs.front ci)
  simp only [Cm.cells] at hs
  (repeat first | refine ⟨_, Sat.ld hs (by (repeat (first | exact At.z | apply At.s))) (by rfl), ?_⟩ | refine ⟨_, _, _, Sat.ld hs (by (repeat (first | exact At.z | apply At.s))) (by rfl), ?_⟩ | (intro _ _ hn; replace hs := Sat.new hs hn; clear hn) | refine ⟨Sat.cs hs (by (repeat (first | exact At.z | apply At.s))) (by rfl), ?_⟩ | (refine ⟨Sat.can hs (by (repeat (first | exact At.z | apply At.s))) (by simp), ?_⟩; intro _ e; replace hs := Sat.wr hs (by (repeat (first | exact At.z | apply At.s))) e; clear e; simp only [put, splice, List.set] at hs))
  have back : ∀ {vs h}, Sat h0 (blk p vs :: del A i) h → Sat h0 (put A i (blk p vs)) h := fun hs => Sat.back ci hs
  by_cases h1 : C.left = 0
  · rw [if_pos (by simp [h1])]
    (repeat first | refine ⟨_, Sat.ld hs (by (repeat (first | exact At.z | apply At.s))) (by rfl), ?_⟩ | refine ⟨_, _, _, Sat.ld hs (by (repeat (first | exact At.z | apply At.s))) (by rfl), ?_⟩ | (intro _ _ hn; replace hs := Sat.new hs hn; clear hn) | refine ⟨Sat.cs hs (by (repeat (first | exact At.z | apply At.s))) (by rfl), ?_⟩ | (refine ⟨Sat.can hs (by (repeat (first | exact At.z | apply At.s))) (by simp), ?_⟩; intro _ e; replace hs := Sat.wr hs (by (repeat (first | exact At.z | apply At.s))) e; clear e; simp only [put, splice, List.set] at hs))
    have e1 : C.act.out = true := by simp [Cm.act, h1]
    have e2 : C.act.left = -1 := by simp [Cm.act, h1]
    rw [e1, e2] at k
    have := k _ (back hs)
    simpa [h1] using this
  · rw [if_neg (by simp [h1])]
    (repeat first | refine ⟨_, Sat.ld hs (by (repeat (first | exact At.z | apply At.s))) (by rfl), ?_⟩ | refine ⟨_, _, _, Sat.ld hs (by (repeat (first | exact At.z | apply At.s))) (by rfl), ?_⟩ | (intro _ _ hn; replace hs := Sat.new hs hn; clear hn) | refine ⟨Sat.cs hs (by (repeat (first | exact At.z | apply At.s))) (by rfl), ?_⟩ | (refine ⟨Sat.can hs (by (repeat (first | exact At.z | apply At.s))) (by simp), ?_⟩; intro _ e; replace hs := Sat.wr hs (by (repeat (first | exact At.z | apply At.s))) e; clear e; simp only [put, splice, List.set] at hs))
    have e1 : C.act.out = C.out := by simp [Cm.act, h1]
    have e3 : decide (C.left = 0) = false := by simp [h1]
    rw [e1, e3] at k
    by_cases h2 : 0 < C.left
    · rw [ltI_eq, if_pos (by simpa using h2)]
      (repeat first | refine ⟨_, Sat.ld hs (by (repeat (first | exact At.z | apply At.s))) (by rfl), ?_⟩ | refine ⟨_, _, _, Sat.ld hs (by (repeat (first | exact At.z | apply At.s))) (by rfl), ?_⟩ | (intro _ _ hn; replace hs := Sat.new hs hn; clear hn) | refine ⟨Sat.cs hs (by (repeat (first | exact At.z | apply At.s))) (by rfl), ?_⟩ | (refine ⟨Sat.can hs (by (repeat (first | exact At.z | apply At.s))) (by simp), ?_⟩; intro _ e; replace hs := Sat.wr hs (by (repeat (first | exact At.z | apply At.s))) e; clear e; simp only [put, splice, List.set] at hs))
      have e2 : C.act.left = C.left - 1 := by simp [Cm.act, h1]; omega
      rw [e2] at k
      rw [show IntKind.i64.wrap (C.left - 1) = C.left - 1 by rw [IntKind.wrap_i64]; omega] at hs
      exact k _ (back hs)
    · rw [ltI_eq, if_neg (by simpa using h2)]
      have e2 : C.act.left = C.left := by simp [Cm.act, h1]; omega
      rw [e2] at k
      exact k _ (back hs)
theorem bits_b {Q : Int → H → Prop} {j : Nat} {a b c m : Sl} {mask : List Int} (hs : Sat h0 A h) (ci : At A i (blk p (C.cells a b c m))) (mi : At A j (sE m 1 (ints .u8 mask))) (n : Nat) {x : Int} (hx : x = n)
    (k : Q (if mask = [] then 0 else mask.getD (n % mask.length) 0) h) : F_portcullisref04_Chip_bits ⟨p, 0, none⟩ x Q h := by
  unfold F_portcullisref04_Chip_bits G_portcullisref04_Chip_bits
  subst hx
  simp only [add_mk, Nat.zero_add]
  have hl := hs.sl_len mi
  simp only [ints_length, Nat.mul_one] at hl
  refine ⟨_, _, _, hs.ld ci rfl, ?_⟩
  by_cases h1 : mask = []
  · rw [if_pos h1] at k
    subst h1
    rw [if_pos (by simp at hl; simp [← hl])]
    exact k
  · rw [if_neg h1] at k
    have hp : 0 < mask.length := List.length_pos_iff.2 h1
    rw [if_neg (by simp; omega)]
    refine ⟨_, _, _, hs.ld ci rfl, ?_⟩
    refine ⟨_, _, _, hs.ld ci rfl, ?_⟩
    obtain ⟨q, hq⟩ := hs.sl_some mi (by omega)
    obtain ⟨mp, ml, mc⟩ := m
    simp only at hq hl
    subst hq
    have e : (n : Int).tmod (ml : Int) = ((n % ml : Nat) : Int) := by rw [Int.tmod_eq_emod_of_nonneg (by omega)]; omega
    rw [hl] at k
    have hlt : n % ml < ml := Nat.mod_lt _ (by omega)
    refine ⟨by dsimp only; omega, _, rfl, by dsimp only; rw [e]; omega, by dsimp only; rw [e]; omega, _, ?_, k⟩
    dsimp only
    rw [e]
    simp only [add_mk, Nat.zero_add, Int.toNat_natCast, Nat.mul_one]
    refine hs.sld mi ?_
    rw [ints_get, List.getElem?_eq_getElem (by omega)]
    simp [List.getD, List.getElem?_eq_getElem (show n % ml < mask.length by omega)]
theorem fuse_b {Q : Int → H → Prop} {a b c m : Sl} (hs : Sat h0 A h) (ci : At A i (blk p (C.cells a b c m))) (hl : C.s.blown.length = c.2.1) (j : Int) (k : Q (askedM C j C.s.blown.length) h) : F_portcullisref04_Chip_fuse ⟨p, 0, none⟩ j Q h := by
  unfold F_portcullisref04_Chip_fuse G_portcullisref04_Chip_fuse
  simp only [add_mk, Nat.zero_add]
  refine ⟨_, hs.ld ci rfl, ?_⟩
  unfold askedM at k
  rw [hl] at k
  simp only [ltI_eq, leI_eq, decide_eq_true_eq]
  split
  · simpa [*] using k
  · rename_i h1
    rw [if_neg h1] at k
    split
    · rename_i h2; rw [if_pos h2] at k; exact k
    · rename_i h2; rw [if_neg h2] at k
      refine ⟨_, _, _, hs.ld ci rfl, ?_⟩
      split
      · rename_i h3; rw [if_pos h3] at k; exact k
      · rename_i h3; rw [if_neg h3] at k; exact k
theorem at_b {Q : Int → H → Prop} {a b c m : Sl} (hs : Sat h0 A h) (ci : At A i (blk p (C.cells a b c m))) (hl : C.s.pages.length = a.2.1) (page cell : Int) (k : Q (asksCellM C page cell) h) : F_portcullisref04_Chip_at ⟨p, 0, none⟩ page cell Q h := by
  unfold F_portcullisref04_Chip_at G_portcullisref04_Chip_at
  simp only [add_mk, Nat.zero_add]
  refine ⟨_, hs.ld ci rfl, ?_⟩
  unfold asksCellM askedM at k
  rw [hl] at k
  simp only [ltI_eq, leI_eq, decide_eq_true_eq]
  split
  · rename_i h1; simp only [if_pos h1] at k; simpa using k
  · rename_i h1
    simp only [if_neg h1] at k
    split
    · rename_i h2; simp only [if_pos h2] at k; simpa using k
    · rename_i h2; simp only [if_neg h2] at k
      refine ⟨_, _, _, hs.ld ci rfl, ?_⟩
      split
      · rename_i h3; simp only [if_pos h3] at k; simpa using k
      · rename_i h3; simp only [if_neg h3] at k
        simp only [ne_eq, not_true, if_false] at k
        split
        · rename_i h4; simp only [if_pos h4] at k; exact k
        · rename_i h4; simp only [if_neg h4] at k
          refine ⟨_, hs.ld ci rfl, ?_⟩
          split
          · rename_i h5; simp only [if_pos h5] at k; exact k
          · rename_i h5; simp only [if_neg h5] at k; exact k
end
end Go.Proofs.Ytamfkofcpoglnaa
