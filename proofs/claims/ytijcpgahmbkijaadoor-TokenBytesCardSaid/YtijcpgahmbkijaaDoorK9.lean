/- TokenBytes: what is proved and its parts, laid together by a program of ours: Tr1 Tr2 Tr3 Tr4 TkW Tk8 Tr5 At RwTokenBytes -/
import Derived.Test.YtijcpgahmbkijaaDoorRows
import Derived.Test.YtijcpgahmbkijaaDoorK8
set_option autoImplicit false
set_option linter.all false
/- Tokens: the document's: caveats, numbers, whether they may be. Own work. -/
section
set_option maxRecDepth 100000
set_option linter.unusedVariables false
namespace Go.Proofs.YtijcpgahmbkijaaDoor
open Go Go.Vc
section
variable {h0 h : H} {A : List Ent} {i j d : Nat}
theorem within_sp {Q : Bool → H → Prop} (n m : Int) (q : Q (decide (0 ≤ n ∧ n ≤ m)) h) : F_portcullisref24_within n m Q h := by
  unfold F_portcullisref24_within G_portcullisref24_within
  by_cases c : 0 ≤ n
  · rw [leI_eq, if_pos (by simpa using c), leI_eq]
    simpa [c] using q
  · rw [leI_eq, if_neg (by simpa using c)]
    simpa [c] using q
theorem only_sp {Q : Bool → H → Prop} (c : CvM) (a1 a2 a3 a4 : Bool) (hs : Sat h0 A h) (k : ∀ h', Sat h0 A h' → Q ((a1 || c.slot == 0) && ((a2 || c.frm == 0) && ((a3 || c.to == 0) && (a4 || c.set == 0)))) h') :
    F_portcullisref24_Caveat_only c.kind c.slot c.frm c.to c.set a1 a2 a3 a4 Q h := by
  unfold F_portcullisref24_Caveat_only G_portcullisref24_Caveat_only
  simp only [add_mk, Nat.zero_add]
  intro b _ hn; replace hs := Sat.new hs hn; clear hn
  have K := k _ hs.drop
  have l1 := hs.ld (i := 0) .z (o := 1) rfl
  have l2 := hs.ld (i := 0) .z (o := 2) rfl
  have l3 := hs.ld (i := 0) .z (o := 3) rfl
  have l4 := hs.ld (i := 0) .z (o := 4) rfl
  clear k hs
  generalize h1 : (c.slot == 0) = b1 at K
  generalize h2 : (c.frm == 0) = b2 at K
  generalize h3 : (c.to == 0) = b3 at K
  generalize h4 : (c.set == 0) = b4 at K
  cases a1 <;> cases a2 <;> cases a3 <;> cases a4 <;> cases b1 <;> cases b2 <;> cases b3 <;> cases b4 <;>
    (repeat first | exact K | rw [if_pos rfl] | rw [if_neg Bool.false_ne_true] | (refine ⟨_, l1, ?_⟩; rw [h1]) | (refine ⟨_, l2, ?_⟩; rw [h2]) | (refine ⟨_, l3, ?_⟩; rw [h3]) | (refine ⟨_, l4, ?_⟩; rw [h4]))
theorem rcmay_sp {Q : Bool → H → Prop} (c : CvM) (hs : Sat h0 A h) (k : ∀ h', Sat h0 A h' → Q (decide c.may) h') : F_portcullisref24_Caveat_May c.kind c.slot c.frm c.to c.set Q h := by
  unfold F_portcullisref24_Caveat_May G_portcullisref24_Caveat_May
  simp only [add_mk, Nat.zero_add]
  intro b _ hn; replace hs := Sat.new hs hn; clear hn
  replace hs : Sat h0 (blk b (cvV c) :: A) _ := hs
  have fin : ∀ (x : Bool) h', (x = true ↔ c.may) → Sat h0 (blk b (cvV c) :: A) h' → Q x h' := by
    intro x h' hx hs
    have := k _ hs.drop
    rwa [show decide c.may = x by rw [Bool.eq_iff_iff, decide_eq_true_iff]; exact hx.symm] at this
  clear k
  refine ⟨_, hs.ld (i := 0) .z rfl, ?_⟩
  by_cases c1 : c.kind = 1
  · rw [if_pos (by simpa using c1)]
    refine ⟨_, hs.ld (i := 0) .z rfl, _, hs.ld (i := 0) .z rfl, _, hs.ld (i := 0) .z rfl, _, hs.ld (i := 0) .z rfl, _, hs.ld (i := 0) .z rfl, ?_⟩
    refine only_sp c _ _ _ _ hs ?_
    intro h1 hs
    have fin := fun x => fin x h1
    unfold CvM.may at fin
    generalize bits .andNot .u64 c.set 16382 = z at *
    split
    · rename_i g
      simp at g
      refine ⟨_, hs.ld (i := 0) .z rfl, ?_⟩
      refine within_sp _ _ (fin _ ?_ hs)
      rw [decide_eq_true_iff]; omega
    · rename_i g
      simp at g
      exact fin _ (by simp; omega) hs
  rw [if_neg (by simpa using c1)]
  by_cases c2 : c.kind = 2
  · rw [if_pos (by simpa using c2)]
    refine ⟨_, hs.ld (i := 0) .z rfl, _, hs.ld (i := 0) .z rfl, _, hs.ld (i := 0) .z rfl, _, hs.ld (i := 0) .z rfl, _, hs.ld (i := 0) .z rfl, ?_⟩
    refine only_sp c _ _ _ _ hs ?_
    intro h1 hs
    have fin := fun x => fin x h1
    unfold CvM.may at fin
    generalize bits .andNot .u64 c.set 16382 = z at *
    split
    · rename_i g
      simp at g
      refine ⟨_, hs.ld (i := 0) .z rfl, ?_⟩
      refine within_sp _ _ ?_
      split
      · rename_i g2
        simp at g2
        refine ⟨_, hs.ld (i := 0) .z rfl, ?_⟩
        refine within_sp _ _ ?_
        split
        · rename_i g3
          simp at g3
          refine ⟨_, hs.ld (i := 0) .z rfl, _, hs.ld (i := 0) .z rfl, ?_⟩
          rw [leI_eq]
          exact fin _ (by rw [decide_eq_true_iff]; omega) hs
        · rename_i g3
          simp at g3
          exact fin _ (by simp; omega) hs
      · rename_i g2
        simp at g2
        exact fin _ (by simp; omega) hs
    · rename_i g
      simp at g
      exact fin _ (by simp; omega) hs
  rw [if_neg (by simpa using c2)]
  by_cases c3 : c.kind = 3
  · rw [if_pos (by simpa using c3)]
    refine ⟨_, hs.ld (i := 0) .z rfl, _, hs.ld (i := 0) .z rfl, _, hs.ld (i := 0) .z rfl, _, hs.ld (i := 0) .z rfl, _, hs.ld (i := 0) .z rfl, ?_⟩
    refine only_sp c _ _ _ _ hs ?_
    intro h1 hs
    have fin := fun x => fin x h1
    unfold CvM.may at fin
    split
    · rename_i g
      simp at g
      refine ⟨_, hs.ld (i := 0) .z rfl, ?_⟩
      split
      · rename_i g2
        simp at g2
        refine ⟨_, hs.ld (i := 0) .z rfl, ?_⟩
        refine fin _ ?_ hs
        generalize bits .andNot .u64 c.set 16382 = z at *
        rw [beq_iff_eq]
        omega
      · rename_i g2
        simp at g2
        generalize bits .andNot .u64 c.set 16382 = z at *
        exact fin _ (by simp; omega) hs
    · rename_i g
      simp at g
      generalize bits .andNot .u64 c.set 16382 = z at *
      exact fin _ (by simp; omega) hs
  rw [if_neg (by simpa using c3)]
  by_cases c4 : c.kind = 4
  · rw [if_pos (by simpa using c4)]
    refine ⟨_, hs.ld (i := 0) .z rfl, _, hs.ld (i := 0) .z rfl, _, hs.ld (i := 0) .z rfl, _, hs.ld (i := 0) .z rfl, _, hs.ld (i := 0) .z rfl, ?_⟩
    refine only_sp c _ _ _ _ hs ?_
    intro h1 hs
    have fin := fun x => fin x h1
    unfold CvM.may at fin
    generalize bits .andNot .u64 c.set 16382 = z at *
    split
    · rename_i g
      simp at g
      refine ⟨_, hs.ld (i := 0) .z rfl, ?_⟩
      refine within_sp _ _ ?_
      split
      · rename_i g2
        simp at g2
        refine ⟨_, hs.ld (i := 0) .z rfl, ?_⟩
        first
          | (refine within_sp _ _ (fin _ ?_ hs); rw [decide_eq_true_iff]; omega)
          | (intro v hv; subst hv; refine within_sp _ _ (fin _ ?_ hs); rw [decide_eq_true_iff]; omega)
      · rename_i g2
        simp at g2
        exact fin _ (by simp; omega) hs
    · rename_i g
      simp at g
      exact fin _ (by simp; omega) hs
  rw [if_neg (by simpa using c4)]
  by_cases c5 : c.kind = 5
  · rw [if_pos (by simpa using c5)]
    refine ⟨_, hs.ld (i := 0) .z rfl, _, hs.ld (i := 0) .z rfl, _, hs.ld (i := 0) .z rfl, _, hs.ld (i := 0) .z rfl, _, hs.ld (i := 0) .z rfl, ?_⟩
    refine only_sp c _ _ _ _ hs ?_
    intro h1 hs
    have fin := fun x => fin x h1
    unfold CvM.may at fin
    generalize bits .andNot .u64 c.set 16382 = z at *
    split
    · rename_i g
      simp at g
      refine ⟨_, hs.ld (i := 0) .z rfl, ?_⟩
      refine within_sp _ _ ?_
      split
      · rename_i g2
        simp at g2
        refine ⟨_, hs.ld (i := 0) .z rfl, ?_⟩
        first
          | (refine within_sp _ _ (fin _ ?_ hs); rw [decide_eq_true_iff]; omega)
          | (intro v hv; subst hv; refine within_sp _ _ (fin _ ?_ hs); rw [decide_eq_true_iff]; omega)
      · rename_i g2
        simp at g2
        exact fin _ (by simp; omega) hs
    · rename_i g
      simp at g
      exact fin _ (by simp; omega) hs
  rw [if_neg (by simpa using c5)]
  refine fin _ _ ?_ hs
  unfold CvM.may
  generalize bits .andNot .u64 c.set 16382 = z at *
  simp; omega
theorem reight_sp {Q : Option Addr → Nat → Nat → H → Prop} {p : Option Addr} {l c : Nat} {bs : List Int} (n : Int) (hs : Sat h0 A h) (m : At A i (slE p l c 1 (ints .u8 bs))) (hb : l + 8 ≤ 2 ^ 40)
    (k : ∀ p' c' h', Sat h0 (put A i (slE p' (l + 8) c' 1 (ints .u8 (bs ++ eightM n 8)))) h' → Q p' (l + 8) c' h') : F_portcullisref24_eight p l c n Q h := by
  unfold F_portcullisref24_eight G_portcullisref24_eight
  intro J hJ
  refine loopS 8 (fun t (s : Option Addr × Nat) => [.dv (.one (.slice s.1 (l + t) s.2)), si t]) (fun t s h => Sat h0 (put A i (slE s.1 (l + t) s.2 1 (ints .u8 (bs ++ eightM n t)))) h) ?_ ?_ 0 (p, c) _ (by omega) (by
    have : put A i (slE p (l + 0) c 1 (ints .u8 (bs ++ eightM n 0))) = A := by simpa [eightM] using m.put_self
    rw [this]; exact hs)
  · rintro t ⟨p1, c1⟩ h1 ht hs hk
    dsimp only at hs ⊢
    apply hJ
    rw [ltI_eq, if_pos (by simp; omega)]
    have e8 : IntKind.i64.wrap (8 * (t : Int)) = ((8 * t : Nat) : Int) := by rw [wrap_id (by omega)]; push_cast; rfl
    rw [e8, Int.toNat_natCast]
    refine ⟨by omega, ?_⟩
    intro b _ hn; replace hs := Sat.new hs hn; clear hn
    refine ⟨_, hs.bv (i := 0) (l := 1) .z rfl (ints_one .u8 [IntKind.u8.wrap (n.fdiv (2 ^ min (8 * t) 64))]), ?_⟩
    refine Sat.app hs (i := i + 1) (vs := ints .u8 [IntKind.u8.wrap (n.fdiv (2 ^ min (8 * t) 64))]) (.s (m.put _)) rfl rfl (ints_one _ _) (by omega) ?_
    intro p' c' h2 hs
    simp only [put_succ, put_put] at hs
    rw [wrap_succ (by omega)]
    have := hk (p', c') h2
    dsimp only at this
    refine this ?_
    have e : eightM n (t + 1) = eightM n t ++ [IntKind.u8.wrap (n.fdiv (2 ^ min (8 * t) 64))] := by unfold eightM; rw [List.range_succ, List.map_append]; rfl
    rw [e, ← List.append_assoc]
    have e2 : ints .u8 (bs ++ eightM n t ++ [IntKind.u8.wrap (n.fdiv (2 ^ min (8 * t) 64))]) = ints .u8 (bs ++ eightM n t) ++ ints .u8 [IntKind.u8.wrap (n.fdiv (2 ^ min (8 * t) 64))] := by unfold ints; rw [List.map_append]
    rw [e2]
    exact hs.drop
  · rintro ⟨p1, c1⟩ h1 hs
    apply hJ
    rw [ltI_eq, if_neg (by decide)]
    exact k _ _ _ hs
theorem rcbytes_sp {Q : Option Addr → Nat → Nat → H → Prop} (c : CvM) (hs : Sat h0 A h) (k : ∀ p' c' h', Sat h0 (slE p' 26 c' 1 (ints .u8 (cbM c)) :: A) h' → Q p' 26 c' h') : F_portcullisref24_Caveat_Bytes c.kind c.slot c.frm c.to c.set Q h := by
  unfold F_portcullisref24_Caveat_Bytes G_portcullisref24_Caveat_Bytes
  simp only [add_mk, Nat.zero_add]
  intro b _ hn; replace hs := Sat.new hs hn; clear hn
  refine ⟨_, hs.ld (i := 0) .z rfl, _, hs.ld (i := 0) .z rfl, ?_⟩
  intro b2 _ hn; replace hs := Sat.new hs hn; clear hn
  refine ⟨_, hs.ld (i := 1) (.s .z) rfl, ?_⟩
  replace hs := hs.as_sl (i := 0) (l := 2) (sz := 1) .z rfl (ints_one .u8 [IntKind.u8.wrap c.kind, IntKind.u8.wrap c.slot])
  rw [put_zero] at hs
  refine reight_sp (bs := [IntKind.u8.wrap c.kind, IntKind.u8.wrap c.slot]) _ hs (i := 0) .z (by decide) ?_
  intro p1 c1 h1 hs
  rw [put_zero] at hs
  refine ⟨_, hs.ld (i := 1) (.s .z) rfl, ?_⟩
  refine reight_sp _ hs (i := 0) .z (by decide) ?_
  intro p2 c2 h2 hs
  rw [put_zero] at hs
  refine ⟨_, hs.ld (i := 1) (.s .z) rfl, ?_⟩
  refine reight_sp _ hs (i := 0) .z (by decide) ?_
  intro p3 c3 h3 hs
  rw [put_zero] at hs
  refine k p3 c3 h3 ?_
  exact hs.sub (by (repeat (first | exact List.Sublist.refl _ | apply List.Sublist.cons_cons | apply List.Sublist.cons)))
theorem rmay_sp {Q : Bool → H → Prop} {key : Int} {id tag : List Int} {cs : List CvM} {ip cp : Option Addr} {il ic cl cc : Nat} (hs : Sat h0 A h) (hil : id.length = il) (hl : cl < 2 ^ 40) (hcl : cs.length = cl) (rc : ∀ h', Sat h0 A h' → hsv h' cp 5 cl (cvsV cs))
    (k : ∀ h', Sat h0 A h' → Q (decide (TokMay key id cs)) h') : F_portcullisref24_Token_May key ip il ic cp cl cc tag Q h := by
  unfold F_portcullisref24_Token_May G_portcullisref24_Token_May
  simp only [add_mk, Nat.zero_add, List.append_nil]
  intro b _ hn; replace hs := Sat.new hs hn; clear hn
  replace hs : Sat h0 (blk b (tokL key ip il ic cp cl cc tag) :: A) _ := hs
  have fin : ∀ (x : Bool) h', (x = true ↔ TokMay key id cs) → Sat h0 (blk b (tokL key ip il ic cp cl cc tag) :: A) h' → Q x h' := by
    intro x h' hx hs
    have := k _ hs.drop
    rwa [show decide (TokMay key id cs) = x by rw [Bool.eq_iff_iff, decide_eq_true_iff]; exact hx.symm] at this
  clear k
  intro J14 hJ14
  refine ⟨_, hs.ld (i := 0) .z rfl, ?_⟩
  rw [ltI_eq]
  by_cases c1 : key < 0
  · rw [if_pos (by simpa using c1)]
    exact fin _ _ (by simp only [Bool.false_eq_true, false_iff]; intro y; have := y.1; omega) hs
  rw [if_neg (by simpa using c1)]
  refine ⟨_, hs.ld (i := 0) .z rfl, ?_⟩
  rw [ltI_eq]
  by_cases c2 : 63 < key
  · rw [if_pos (by simpa using c2)]
    exact fin _ _ (by simp only [Bool.false_eq_true, false_iff]; intro y; have := y.1; omega) hs
  rw [if_neg (by simpa using c2)]
  refine ⟨_, _, _, hs.ld (i := 0) .z rfl, ?_⟩
  rw [ltI_eq]
  by_cases c3 : il < 1
  · rw [if_pos (by simp; omega)]
    exact fin _ _ (by simp only [Bool.false_eq_true, false_iff]; intro y; have := y.2.1; omega) hs
  rw [if_neg (by simp; omega)]
  refine ⟨_, _, _, hs.ld (i := 0) .z rfl, ?_⟩
  rw [ltI_eq]
  by_cases c4 : 64 < il
  · rw [if_pos (by simp; omega)]
    exact fin _ _ (by simp only [Bool.false_eq_true, false_iff]; intro y; have := y.2.1; omega) hs
  rw [if_neg (by simp; omega)]
  refine ⟨_, _, _, hs.ld (i := 0) .z rfl, ?_⟩
  rw [ltI_eq]
  by_cases c5 : 32 < cl
  · rw [if_pos (by simp; omega)]
    exact fin _ _ (by simp only [Bool.false_eq_true, false_iff]; intro y; have := y.2.2.1; omega) hs
  rw [if_neg (by simp; omega)]
  apply hJ14
  clear hJ14 J14
  intro J hJ
  refine loop_up cl (fun t h => (∀ j (hj : j < cs.length), j < t → cs[j].may) ∧ Sat h0 (blk b (tokL key ip il ic cp cl cc tag) :: A) h) ?_ ?_ 0 _ (by omega) ⟨fun j _ y => by omega, hs⟩
  · rintro t h1 ht ⟨hm, hs⟩ hk
    apply hJ
    refine ⟨_, _, _, hs.ld (i := 0) .z rfl, ?_⟩
    rw [ltI_eq, if_pos (by simp; omega)]
    obtain ⟨q, hl2, hq, g0, g1, g2, g3, g4⟩ := cv_rd (rc _ hs.drop) (i := t) ht
    refine ⟨_, _, _, hs.ld (i := 0) .z rfl, q, hq, by omega, by omega, ?_⟩
    simp only [Int.toNat_natCast]
    refine ⟨_, g0, _, g1, _, g2, _, g3, _, g4, ?_⟩
    refine rcmay_sp cs[t] hs ?_
    intro h2 hs
    by_cases g : cs[t].may
    · rw [if_neg (by simp [g]), wrap_succ (by omega)]
      refine hk _ ⟨fun j hj hjt => ?_, hs⟩
      by_cases e : j = t
      · subst e; exact g
      · exact hm j hj (by omega)
    · rw [if_pos (by simp [g])]
      exact fin _ _ (by simp only [Bool.false_eq_true, false_iff]; intro y; exact g (y.2.2.2 _ (List.getElem_mem hl2))) hs
  · rintro h1 ⟨hm, hs⟩
    apply hJ
    refine ⟨_, _, _, hs.ld (i := 0) .z rfl, ?_⟩
    rw [ltI_eq, if_neg (by simp)]
    refine fin _ _ ?_ hs
    simp only [true_iff]
    refine ⟨by omega, by omega, by omega, fun c hc => ?_⟩
    obtain ⟨j, hj, rfl⟩ := List.getElem_of_mem hc
    exact hm j hj (by omega)
theorem rnumber_sp {Q : Int → H → Prop} {p : Option Addr} {l c : Nat} {bs : List Int} (rd : hsv h p 1 l (ints .u8 bs)) (hl : 8 ≤ l) (q : Q (nuM bs 8) h) : F_portcullisref24_number p l c Q h := by
  unfold F_portcullisref24_number G_portcullisref24_number
  intro J hJ
  refine loopS 8 (fun t (x : Int) => [.dv (.one (.int .u64 x)), si t]) (fun t x h' => x = nuM bs t ∧ h' = h) ?_ ?_ 0 0 _ (by omega) ⟨rfl, rfl⟩
  · rintro t x h1 ht ⟨hx, hh⟩ hk
    subst hx hh
    apply hJ
    rw [ltI_eq, if_pos (by simp; omega)]
    obtain ⟨q1, hq1, g⟩ := hsvI rd (x := t) (by omega)
    have e8 : IntKind.i64.wrap (8 * (t : Int)) = ((8 * t : Nat) : Int) := by rw [wrap_id (by omega)]; push_cast; rfl
    rw [e8]
    simp only [Int.toNat_natCast, Nat.mul_one]
    refine ⟨q1, hq1, by omega, by omega, _, g, by omega, ?_⟩
    rw [wrap_succ (by omega)]
    exact hk _ _ ⟨rfl, rfl⟩
  · rintro x h1 ⟨hx, hh⟩
    subst hx hh
    apply hJ
    rw [ltI_eq, if_neg (by decide)]
    exact q
theorem rhead_sp {Q : Bool → H → Prop} (t : Nat) (c : Int) (ht : t < 8) (q : Q (standsM t c) h) : F_portcullisref24_head (t : Int) c Q h := by
  unfold F_portcullisref24_head G_portcullisref24_head
  unfold standsM at q
  by_cases c4 : t = 4
  · subst c4
    exact q
  rw [if_neg (by simp; omega)]
  by_cases c5 : t = 5
  · rw [if_pos c5] at q
    rw [if_pos (by simp [c5]), leI_eq]
    rwa [show decide (c ≤ 63) = decide (c < 64) by rw [Bool.eq_iff_iff, decide_eq_true_iff, decide_eq_true_iff]; omega]
  rw [if_neg c5] at q
  rw [if_neg (by simp; omega)]
  by_cases c6 : t = 6
  · rw [if_pos c6] at q
    rw [if_pos (by simp [c6]), leI_eq]
    by_cases g : 1 ≤ c
    · rw [if_pos (by simpa using g), leI_eq]
      simpa [g] using q
    · rw [if_neg (by simpa using g)]
      simpa [g] using q
  rw [if_neg c6] at q
  rw [if_neg (by simp; omega)]
  by_cases c7 : t = 7
  · rw [if_pos c7] at q
    rw [if_pos (by simp [c7]), leI_eq]
    exact q
  rw [if_neg c7] at q
  rw [if_neg (by simp; omega)]
  refine ⟨by omega, by omega, ?_⟩
  rw [Int.toNat_natCast]
  have : t = 0 ∨ t = 1 ∨ t = 2 ∨ t = 3 := by omega
  rcases this with rfl | rfl | rfl | rfl <;> exact q
theorem rfew_sp {Q : Bool → H → Prop} {key : Int} {tag : List Int} {ip cp : Option Addr} {il ic cl cc : Nat} (hs : Sat h0 A h) (k : ∀ h', Sat h0 A h' → Q (decide (cl ≤ 65536)) h') : F_portcullisref24_Few key ip il ic cp cl cc tag Q h := by
  unfold F_portcullisref24_Few G_portcullisref24_Few
  simp only [add_mk, Nat.zero_add, List.append_nil]
  intro b _ hn; replace hs := Sat.new hs hn; clear hn
  replace hs : Sat h0 (blk b (tokL key ip il ic cp cl cc tag) :: A) _ := hs
  refine ⟨_, _, _, hs.ld (i := 0) .z rfl, ?_⟩
  have := k _ hs.drop
  rw [leI_eq]
  rwa [show decide ((cl : Int) ≤ 65536) = decide (cl ≤ 65536) by rw [Bool.eq_iff_iff, decide_eq_true_iff, decide_eq_true_iff]; omega]
end
end Go.Proofs.YtijcpgahmbkijaaDoor
end

/- Tokens: the document's Put; whether two are the same; copies. Own work. -/
section
set_option maxRecDepth 100000
set_option linter.unusedVariables false
namespace Go.Proofs.YtijcpgahmbkijaaDoor
open Go Go.Vc
theorem cv1 (c : CvM) : ∀ v, v ∈ cvV c → v.oneCell' = true := by
  intro v hv
  simp only [List.mem_cons, List.not_mem_nil, or_false] at hv
  rcases hv with rfl | rfl | rfl | rfl | rfl <;> rfl
theorem cvsV_snoc (cs : List CvM) (c : CvM) : cvsV (cs ++ [c]) = cvsV cs ++ cvV c := by rw [cvsV_app]; simp [cvsV]
theorem take_snoc {α : Type} (l : List α) {t : Nat} (h : t < l.length) : l.take (t + 1) = l.take t ++ [l[t]] := by rw [List.take_succ, List.getElem?_eq_getElem h]; rfl
section
variable {h0 h : H} {A : List Ent} {i j d : Nat}
theorem rput_sp {Q : Option Addr → Nat → Nat → Int → H → Prop} {key : Int} {id tag : List Int} {cs : List CvM} {ip cp : Option Addr} {il ic cl cc : Nat} (hs : Sat h0 A h) (ht : tag.length = 32) (hl : cl < 2 ^ 40)
    (ri : ∀ h', Sat h0 A h' → hsv h' ip 1 il (ints .u8 id)) (rc : ∀ h', Sat h0 A h' → hsv h' cp 5 cl (cvsV cs))
    (k1 : ¬ TokMay key id cs → ∀ h', Sat h0 A h' → Q none 0 0 5 h')
    (k2 : TokMay key id cs → ∀ p c h', Sat h0 (slE p (putM24 key id cs tag).length c 1 (ints .u8 (putM24 key id cs tag)) :: A) h' → Q p (putM24 key id cs tag).length c 0 h') :
    F_portcullisref24_Put key ip il ic cp cl cc tag Q h := by
  unfold F_portcullisref24_Put G_portcullisref24_Put
  simp only [add_mk, Nat.zero_add, List.append_nil]
  have hil : id.length = il := by have := (ri _ hs).1; simpa using this
  have hcl : cs.length = cl := by have := (rc _ hs).1; rw [cvsV_len] at this; omega
  intro tb _ hn; replace hs := Sat.new hs hn; clear hn
  replace hs : Sat h0 (blk tb (tokL key ip il ic cp cl cc tag) :: A) _ := hs
  refine ⟨_, hs.ld (i := 0) .z rfl, _, _, _, hs.ld (i := 0) .z rfl, _, _, _, hs.ld (i := 0) .z rfl, tag, ht, tok_row hs (i := 0) .z, ?_⟩
  refine rmay_sp (id := id) (cs := cs) hs hil hl hcl (fun h' hs' => rc _ hs'.drop) ?_
  intro h1 hs
  by_cases g : TokMay key id cs
  case neg =>
    rw [if_pos (by simp [g])]
    exact k1 g _ hs.drop
  rw [if_neg (by simp [g])]
  have K2 := k2 g
  clear k1 k2
  obtain ⟨_, ⟨i1, i2⟩, c32, _⟩ := g
  refine ⟨_, hs.ld (i := 0) .z rfl, _, _, _, hs.ld (i := 0) .z rfl, _, _, _, hs.ld (i := 0) .z rfl, ?_⟩
  intro b1 _ hn; replace hs := Sat.new hs hn; clear hn
  refine ⟨_, _, _, hs.ld (i := 1) (.s .z) rfl, _, ri _ hs.drop.drop, ?_⟩
  replace hs := hs.as_sl (i := 0) (l := 8) (sz := 1) .z rfl (ints_one .u8 [80, 67, 84, 75, 1, IntKind.u8.wrap key, IntKind.u8.wrap (il : Int), IntKind.u8.wrap (cl : Int)])
  simp only [put_zero] at hs
  refine Sat.app hs (i := 0) (vs := ints .u8 id) .z (by simp [hil]) rfl (ints_one _ _) (by omega) ?_
  intro p2 c2 h4 hs
  simp only [put_zero] at hs
  have e0 : ints .u8 [80, 67, 84, 75, 1, IntKind.u8.wrap key, IntKind.u8.wrap (il : Int), IntKind.u8.wrap (cl : Int)] ++ ints .u8 id = ints .u8 (headM24 key id cs ++ cbsM (cs.take 0)) := by
    unfold headM24
    rw [List.take_zero, hil, hcl]
    show _ = ints .u8 (_ ++ [])
    rw [List.append_nil, ints_app]
    rfl
  replace hs : Sat h0 (slE p2 (8 + il) c2 1 (ints .u8 (headM24 key id cs ++ cbsM (cs.take 0))) :: blk tb (tokL key ip il ic cp cl cc tag) :: A) h4 := by
    rw [← e0]; exact hs
  intro J57 hJ57
  refine loopS cl (fun t (s : Option Addr × Nat) => [.dv (.one (.slice s.1 (8 + il + t * 26) s.2)), si t]) (fun t s h => Sat h0 (slE s.1 (8 + il + t * 26) s.2 1 (ints .u8 (headM24 key id cs ++ cbsM (cs.take t))) :: blk tb (tokL key ip il ic cp cl cc tag) :: A) h) ?_ ?_ 0 (p2, c2) _ (by omega) (by simpa using hs)
  · rintro t ⟨p3, c3⟩ h5 htl hs hk
    dsimp only at hs ⊢
    apply hJ57
    refine ⟨_, _, _, hs.ld (i := 1) (.s .z) rfl, ?_⟩
    rw [ltI_eq, if_pos (by simp; omega)]
    obtain ⟨q, hl2, hq, g0, g1, g2, g3, g4⟩ := cv_rd (rc _ hs.drop.drop) (i := t) htl
    refine ⟨_, _, _, hs.ld (i := 1) (.s .z) rfl, q, hq, by omega, by omega, ?_⟩
    simp only [Int.toNat_natCast]
    refine ⟨_, g0, _, g1, _, g2, _, g3, _, g4, ?_⟩
    refine rcbytes_sp cs[t] hs ?_
    intro p4 c4 h7 hs
    refine ⟨_, hs.sv (i := 0) .z, ?_⟩
    refine Sat.app hs (i := 1) (vs := ints .u8 (cbM cs[t])) (.s .z) (by simp [cbM_len]) rfl (ints_one _ _) (by omega) ?_
    intro p5 c5 h8 hs
    simp only [put_succ, put_zero] at hs
    rw [wrap_succ (by omega)]
    have := hk (p5, c5) h8
    dsimp only at this
    rw [show 8 + il + (t + 1) * 26 = 8 + il + t * 26 + 26 by omega] at this
    refine this ?_
    rw [take_snoc _ hl2, cbsM_app, ← List.append_assoc, ints_app .u8 _ (cbM cs[t])]
    exact hs.drop
  · rintro ⟨p3, c3⟩ h5 hs
    dsimp only at hs ⊢
    apply hJ57
    refine ⟨_, _, _, hs.ld (i := 1) (.s .z) rfl, ?_⟩
    rw [ltI_eq, if_neg (by simp)]
    rw [List.take_of_length_le (by omega)] at hs
    have hlen : (putM24 key id cs tag).length = 8 + il + cl * 26 + 32 := by
      unfold putM24
      rw [List.length_append, List.length_append, headM24_len, cbsM_len, hil, hcl, ht]
    obtain ⟨L, hL⟩ : ∃ L, L = 8 + il + cl * 26 := ⟨_, rfl⟩
    rw [← hL] at hs hlen ⊢
    clear hJ57
    intro J hJ
    refine loopS 32 (fun t (s : Option Addr × Nat) => [.dv (.one (.slice s.1 (L + t) s.2)), si t]) (fun t s h => Sat h0 (slE s.1 (L + t) s.2 1 (ints .u8 (headM24 key id cs ++ cbsM cs ++ tag.take t)) :: blk tb (tokL key ip il ic cp cl cc tag) :: A) h) ?_ ?_ 0 (p3, c3) _ (by omega) (by simpa using hs)
    · rintro t ⟨p6, c6⟩ h6 ht2 hs hk
      dsimp only at hs hk ⊢
      apply hJ
      rw [ltI_eq, if_pos (by simp; omega)]
      have ht3 : t < tag.length := by omega
      refine ⟨by omega, by omega, tag[t], ?_, ?_⟩
      · simp only [Int.toNat_natCast]
        have := tok_row hs (i := 1) (.s .z) t (.int .u8 tag[t]) (by rw [ints_get, List.getElem?_eq_getElem ht3]; rfl)
        rw [add_mk] at this
        simpa using this
      intro b3 _ hn; replace hs := Sat.new hs hn; clear hn
      refine ⟨_, hs.bv (i := 0) (l := 1) .z rfl (ints_one .u8 [tag[t]]), ?_⟩
      refine Sat.app hs (i := 1) (vs := ints .u8 [tag[t]]) (.s .z) rfl rfl (ints_one _ _) (by omega) ?_
      intro p7 c7 h7 hs
      simp only [put_succ, put_zero] at hs
      rw [wrap_succ (by omega)]
      refine hk (p7, c7) h7 ?_
      rw [take_snoc _ ht3, ← List.append_assoc, ints_app .u8 _ [tag[t]]]
      exact hs.drop
    · rintro ⟨p6, c6⟩ h6 hs
      dsimp only at hs ⊢
      apply hJ
      rw [ltI_eq, if_neg (by decide)]
      rw [List.take_of_length_le (by omega)] at hs
      have K := K2 p6 c6 h6
      rw [hlen] at K
      exact K (hs.sub (by (repeat (first | exact List.Sublist.refl _ | apply List.Sublist.cons_cons | apply List.Sublist.cons))))
theorem rsame_sp {Q : Bool → H → Prop} {key : Int} {id tag : List Int} {cs : List CvM} {ip cp ip2 cp2 : Option Addr} {il ic cl cc il2 ic2 cl2 cc2 : Nat} (hs : Sat h0 A h) (ht : tag.length = 32) (hl : cl < 2 ^ 60)
    (ri : ∀ h', Sat h0 A h' → hsv h' ip 1 il (ints .u8 id)) (rc : ∀ h', Sat h0 A h' → hsv h' cp 5 cl (cvsV cs)) (ri2 : ∀ h', Sat h0 A h' → hsv h' ip2 1 il2 (ints .u8 id)) (rc2 : ∀ h', Sat h0 A h' → hsv h' cp2 5 cl2 (cvsV cs))
    (k : ∀ h', Sat h0 A h' → Q true h') : F_portcullisref24_Same key ip il ic cp cl cc tag key ip2 il2 ic2 cp2 cl2 cc2 tag Q h := by
  unfold F_portcullisref24_Same G_portcullisref24_Same
  simp only [add_mk, Nat.zero_add, List.append_nil]
  have hcl : cs.length = cl := by have := (rc _ hs).1; rw [cvsV_len] at this; omega
  have hcl2 : cs.length = cl2 := by have := (rc2 _ hs).1; rw [cvsV_len] at this; omega
  obtain rfl : cl = cl2 := by omega
  intro tb _ hn; replace hs := Sat.new hs hn; clear hn
  intro ub _ hn; replace hs := Sat.new hs hn; clear hn
  replace hs : Sat h0 (blk ub (tokL key ip2 il2 ic2 cp2 cl cc2 tag) :: blk tb (tokL key ip il ic cp cl cc tag) :: A) _ := hs
  intro J24 hJ24
  refine ⟨_, hs.ld (i := 1) (.s .z) rfl, _, hs.ld (i := 0) .z rfl, ?_⟩
  rw [if_neg (by simp)]
  refine ⟨_, _, _, hs.ld (i := 1) (.s .z) rfl, id, ri _ hs.drop.drop, _, _, _, hs.ld (i := 0) .z rfl, id, ri2 _ hs.drop.drop, ?_⟩
  rw [if_neg (by simp)]
  refine ⟨tag, ht, tok_row hs (i := 1) (.s .z), tag, ht, tok_row hs (i := 0) .z, ?_⟩
  rw [if_neg (by simp)]
  refine ⟨_, _, _, hs.ld (i := 1) (.s .z) rfl, _, _, _, hs.ld (i := 0) .z rfl, ?_⟩
  rw [if_neg (by simp)]
  apply hJ24
  clear hJ24 J24
  intro J hJ
  refine loop_up cl (fun t h => Sat h0 (blk ub (tokL key ip2 il2 ic2 cp2 cl cc2 tag) :: blk tb (tokL key ip il ic cp cl cc tag) :: A) h) ?_ ?_ 0 _ (by omega) hs
  · intro t h1 ht2 hs hk
    apply hJ
    refine ⟨_, _, _, hs.ld (i := 1) (.s .z) rfl, ?_⟩
    rw [ltI_eq, if_pos (by simp; omega)]
    obtain ⟨q, hl2, hq, g0, g1, g2, g3, g4⟩ := cv_rd (rc _ hs.drop.drop) (i := t) ht2
    obtain ⟨q', hl2', hq', g0', g1', g2', g3', g4'⟩ := cv_rd (rc2 _ hs.drop.drop) (i := t) ht2
    refine ⟨_, _, _, hs.ld (i := 1) (.s .z) rfl, q, hq, by omega, by omega, ?_⟩
    simp only [Int.toNat_natCast]
    refine ⟨_, g0, _, g1, _, g2, _, g3, _, g4, ?_⟩
    refine ⟨_, _, _, hs.ld (i := 0) .z rfl, q', hq', by omega, by omega, _, g0', _, g1', _, g2', _, g3', _, g4', ?_⟩
    rw [if_neg (by simp), wrap_succ (by omega)]
    exact hk _ hs
  · intro h1 hs
    apply hJ
    refine ⟨_, _, _, hs.ld (i := 1) (.s .z) rfl, ?_⟩
    rw [ltI_eq, if_neg (by simp)]
    exact k _ hs.drop.drop
end
end Go.Proofs.YtijcpgahmbkijaaDoor
end

/- Tokens: the document's Get. Own work. -/
section
set_option maxRecDepth 100000
set_option linter.unusedVariables false
namespace Go.Proofs.YtijcpgahmbkijaaDoor
open Go Go.Vc
theorem tok_set {key : Int} {ip cp : Option Addr} {il ic cl cc : Nat} {tag : List Int} {t : Nat} {v : Int} : splice (tokL key ip il ic cp cl cc tag) (3 + t) [.int .u8 v] = tokL key ip il ic cp cl cc (tag.set t v) := by
  show (tokL key ip il ic cp cl cc tag).set (3 + t) (.int .u8 v) = _
  rw [Nat.add_comm]
  show .int .i64 key :: .slice ip il ic :: .slice cp cl cc :: (ints .u8 tag).set t (.int .u8 v) = _
  rw [ints_set]
theorem set_part (tag : List Int) (n t : Nat) (ht : t < tag.length) (hn : tag.length = n) : (tag.take t ++ zeros (n - t)).set t tag[t] = tag.take (t + 1) ++ zeros (n - (t + 1)) := by
  have e : zeros (n - t) = 0 :: zeros (n - (t + 1)) := by
    rw [show n - t = (n - (t + 1)) + 1 by omega]; rfl
  rw [e, List.set_append_right _ _ (by simp; omega), take_snoc _ ht]
  have : t - (tag.take t).length = 0 := by simp; omega
  rw [this, List.append_assoc]
  rfl
section
variable {h0 h : H} {A : List Ent} {i j d : Nat}
theorem rget_sp {Q : Int → Option Addr → Nat → Nat → Option Addr → Nat → Nat → List Int → Int → Int → H → Prop} {bs : List Int} {p : Option Addr} {l c : Nat} (hs : Sat h0 A h) (hb : isBytes bs) (hlc : l ≤ c) (hl : l < 2 ^ 47) (rd : ∀ h', Sat h0 A h' → hsv h' p 1 l (ints .u8 bs))
    (kE : ∀ e a, tgetM bs = .error (e, a) → ∀ h', Sat h0 A h' → Q 0 none 0 0 none 0 0 (zeros 32) e a h')
    (kT : ∀ t, tgetM bs = .ok t → ∀ p1 c1 p2 l2 c2 h', t.cs.length = l2 → Sat h0 (slE p2 l2 c2 5 (cvsV t.cs) :: slE p1 t.id.length c1 1 (ints .u8 t.id) :: A) h' → t.tag.length = 32 → Q t.key p1 t.id.length c1 p2 l2 c2 t.tag 0 0 h') :
    F_portcullisref24_Get p l c Q h := by
  unfold F_portcullisref24_Get G_portcullisref24_Get
  simp only [add_mk, Nat.zero_add, List.append_nil]
  have hbl : bs.length = l := by have := (rd _ hs).1; simpa using this
  intro rb _ hn; replace hs := Sat.new hs hn; clear hn
  intro wb _ hn; replace hs := Sat.new hs hn; clear hn
  replace hs : Sat h0 (blk wb [.int .i64 0, .int .i64 0] :: blk rb tok0 :: A) _ := hs
  have bad : ∀ (e a : Int) (h' : H) (B : List Ent), tgetM bs = .error (e, a) → Sat h0 (blk wb [.int .i64 0, .int .i64 0] :: blk rb tok0 :: A) h' →
      hcan h' ⟨rb, 0, none⟩ 35 ∧ ∀ h17 : H, h17 = hwr h' ⟨rb, 0, none⟩ tok0 → hcan h17 ⟨wb, 0, none⟩ 2 ∧ ∀ h19 : H, h19 = hwr h17 ⟨wb, 0, none⟩ [.int .i64 e, .int .i64 a] →
        ∃ i21 : Int, hc h19 ⟨rb, 0, none⟩ = some (.int .i64 i21) ∧ ∃ (o22 : Option Addr) (n23 n24 : Nat), hc h19 ⟨rb, 1, none⟩ = some (.slice o22 n23 n24) ∧ ∃ (o25 : Option Addr) (n26 n27 : Nat), hc h19 ⟨rb, 2, none⟩ = some (.slice o25 n26 n27) ∧
          ∃ l28 : List Int, l28.length = 32 ∧ hrow h19 ⟨rb, 3, none⟩ .u8 l28 ∧ ∃ i29 : Int, hc h19 ⟨wb, 0, none⟩ = some (.int .i64 i29) ∧ ∃ i30 : Int, hc h19 ⟨wb, 1, none⟩ = some (.int .i64 i30) ∧ Q i21 o22 n23 n24 o25 n26 n27 l28 i29 i30 h19 := by
    intro e a h' _ he hs
    refine ⟨Sat.can hs (i := 1) (.s .z) (by simp [zeros]), ?_⟩
    intro h2 e2
    replace hs := Sat.wra (xs := tok0) hs (i := 1) (.s .z) e2 rfl
    clear e2
    simp only [put_succ, put_zero] at hs
    refine ⟨Sat.can hs (i := 0) .z (by simp), ?_⟩
    intro h3 e3
    replace hs := Sat.wra hs (i := 0) .z e3 rfl
    clear e3
    simp only [put_zero] at hs
    refine ⟨_, hs.ld (i := 1) (.s .z) rfl, _, _, _, hs.ld (i := 1) (.s .z) rfl, _, _, _, hs.ld (i := 1) (.s .z) rfl, _, zeros_len 32, tok_row hs (i := 1) (.s .z), ?_⟩
    refine ⟨_, hs.ld (i := 0) .z rfl, _, hs.ld (i := 0) .z rfl, ?_⟩
    exact kE e a he _ hs.drop.drop
  clear kE
  intro J36 hJ36
  refine loop_up 8 (fun t h => gHead bs 8 = gHead bs (8 - t) ∧ t ≤ bs.length ∧ Sat h0 (blk wb [.int .i64 0, .int .i64 0] :: blk rb tok0 :: A) h) ?_ ?_ 0 _ (by omega) ⟨rfl, by omega, hs⟩
  · rintro t h1 ht ⟨hg, htl, hs⟩ hk
    apply hJ36
    rw [ltI_eq, if_pos (by simp; omega)]
    rw [gHead_at bs ht] at hg
    by_cases ce : t = l
    · rw [if_pos (by simp [ce])]
      rw [if_pos (by omega)] at hg
      refine bad 6 t h1 [] ?_ hs
      unfold tgetM
      rw [hg, hbl, ce]
    rw [if_neg (by simp; omega)]
    rw [if_neg (by omega)] at hg
    obtain ⟨q, hq, g⟩ := hsvI (rd _ hs.drop.drop) (x := t) (by omega)
    refine ⟨q, hq, by omega, by omega, ?_⟩
    simp only [Int.toNat_natCast, Nat.mul_one]
    refine ⟨_, g, ?_⟩
    refine rhead_sp t _ ht ?_
    by_cases cs : standsM t (bs.getD t 0) = true
    · rw [if_pos cs] at hg
      rw [cs, if_neg (by decide), wrap_succ (by omega)]
      exact hk _ ⟨hg, by omega, hs⟩
    · rw [if_neg cs] at hg
      have cs' : standsM t (bs.getD t 0) = false := by simpa using cs
      rw [cs', if_pos (by decide)]
      refine bad 5 t _ [] ?_ hs
      unfold tgetM
      rw [hg]
  rintro h1 ⟨hg, hl8, hs⟩
  apply hJ36
  rw [ltI_eq, if_neg (by decide)]
  clear hJ36 J36
  replace hg : gHead bs 8 = none := hg
  obtain ⟨q, hq, _⟩ := hsvI (rd _ hs.drop.drop) (x := 0) (by omega)
  subst hq
  have rdx : ∀ h' x, Sat h0 A h' → x < l → hc h' (q.add x) = some (.int .u8 (bs.getD x 0)) := by
    intro h' x hs' hx
    obtain ⟨q', hq', g⟩ := hsvI (rd _ hs') (x := x) hx
    injection hq' with hq'
    subst hq'
    exact g
  obtain ⟨n6, hn6⟩ : ∃ n6, n6 = (bs.getD 6 0).toNat := ⟨_, rfl⟩
  obtain ⟨n7, hn7⟩ : ∃ n7, n7 = (bs.getD 7 0).toNat := ⟨_, rfl⟩
  have b5 := isB_get hb 5
  have b6 := isB_get hb 6
  have b7 := isB_get hb 7
  have tg : tgetM bs = if bs.length < 8 + n6 then .error (6, (bs.length : Int)) else match gCavs bs n7 (8 + n6) [] with | .error e => .error e | .ok (a, cs) => gRest bs a cs := by
    unfold tgetM
    rw [hg, hn6, hn7]
    rfl
  have e86 : IntKind.i64.wrap (8 + IntKind.i64.wrap (bs.getD 6 0)) = ((8 + n6 : Nat) : Int) := by
    rw [wrap_id (n := bs.getD 6 0) (by omega), wrap_id (by omega)]; omega
  refine ⟨q, rfl, by decide, by omega, _, rdx _ 5 hs.drop.drop (by omega), ?_⟩
  intro tb _ hn; replace hs := Sat.new hs hn; clear hn
  refine ⟨Sat.can hs (i := 0) .z (by simp [zeros]), ?_⟩
  intro h2 e2
  replace hs := Sat.wra hs (i := 0) .z e2 (by simp [zeros])
  clear e2
  rw [wrap_id (n := bs.getD 5 0) (by omega)] at hs
  simp only [put_zero] at hs
  obtain ⟨key, hkey⟩ : ∃ key, key = bs.getD 5 0 := ⟨_, rfl⟩
  rw [← hkey] at hs
  replace hs : Sat h0 (blk tb (tokL key none 0 0 none 0 0 (zeros 32)) :: blk wb [.int .i64 0, .int .i64 0] :: blk rb tok0 :: A) h2 := hs
  refine ⟨q, rfl, by decide, by omega, _, rdx _ 6 hs.drop.drop.drop (by omega), ?_⟩
  rw [e86, ltI_eq]
  by_cases c6 : l < 8 + n6
  · rw [if_pos (by rw [decide_eq_true_iff]; omega)]
    refine bad 6 l h2 [] ?_ hs.drop
    rw [tg, if_pos (by omega), hbl]
  rw [if_neg (by rw [decide_eq_true_iff]; omega)]
  rw [if_neg (by omega)] at tg
  intro eb _ hn; replace hs := Sat.new hs hn; clear hn
  simp only [Int.toNat_natCast]
  rw [show 8 + n6 - 8 = n6 by omega]
  refine ⟨by decide, by omega, by omega, _, subRd (o := 8) (n := n6) (m := c) (rd _ hs.drop.drop.drop.drop) (by omega) (by omega), ?_⟩
  obtain ⟨id, hid⟩ : ∃ id, id = (bs.drop 8).take n6 := ⟨_, rfl⟩
  rw [← hid]
  have hidl : id.length = n6 := by rw [hid]; simp; omega
  refine Sat.app_new hs (by simp [hidl]) rfl (ints_one _ _) (by omega) ?_
  intro p1 c1 h3 hs
  refine ⟨Sat.can hs (i := 2) (.s (.s .z)) (by simp [zeros]), ?_⟩
  intro h4 e4
  replace hs := Sat.wr hs (i := 2) (.s (.s .z)) e4
  clear e4
  simp only [put_succ, put_zero] at hs
  replace hs : Sat h0 (slE p1 n6 c1 1 (ints .u8 id) :: blk eb [] :: blk tb (tokL key p1 n6 c1 none 0 0 (zeros 32)) :: blk wb [.int .i64 0, .int .i64 0] :: blk rb tok0 :: A) h4 := hs
  replace hs : Sat h0 (slE p1 n6 c1 1 (ints .u8 id) :: blk tb (tokL key p1 n6 c1 none 0 0 (zeros 32)) :: blk wb [.int .i64 0, .int .i64 0] :: blk rb tok0 :: A) h4 := hs.sub (by (repeat (first | exact List.Sublist.refl _ | apply List.Sublist.cons_cons | apply List.Sublist.cons)))
  have e7 : IntKind.i64.wrap (bs.getD 7 0) = (n7 : Int) := by rw [wrap_id (by omega)]; omega
  intro J59 hJ59
  refine loopS n7 (fun t (_ : List CvM × Option Addr × Nat) => [.dv (.one (.int .i64 ((8 + n6 + 26 * t : Nat) : Int))), si t])
    (fun t s h => s.1.length = t ∧ gCavs bs n7 (8 + n6) [] = gCavs bs (n7 - t) (8 + n6 + 26 * t) s.1 ∧ 8 + n6 + 26 * t ≤ l ∧ Sat h0 (slE s.2.1 t s.2.2 5 (cvsV s.1) :: slE p1 n6 c1 1 (ints .u8 id) :: blk tb (tokL key p1 n6 c1 s.2.1 t s.2.2 (zeros 32)) :: blk wb [.int .i64 0, .int .i64 0] :: blk rb tok0 :: A) h) ?_ ?_ 0 ([], none, 0) _ (by omega)
    ⟨rfl, rfl, by omega, hs.sl_nil 5 none⟩
  · rintro t ⟨cs, p2, c2⟩ h4 ht ⟨hcl, hgc, hal, hs⟩ hk
    dsimp only at hcl hgc hs hk ⊢
    apply hJ59
    obtain ⟨a, ha⟩ : ∃ a, a = 8 + n6 + 26 * t := ⟨_, rfl⟩
    rw [← ha] at hgc hal ⊢
    refine ⟨q, rfl, by decide, by omega, _, rdx _ 7 hs.drop.drop.drop.drop.drop (by omega), ?_⟩
    rw [e7, ltI_eq, if_pos (by simp; omega)]
    rw [gCavs_at bs cs ht] at hgc
    have e26 : IntKind.i64.wrap ((a : Int) + 26) = ((a + 26 : Nat) : Int) := by rw [wrap_id (by omega)]; push_cast; rfl
    rw [e26, ltI_eq]
    by_cases cl : l < a + 26
    · rw [if_pos (by rw [decide_eq_true_iff]; omega)]
      rw [if_pos (by omega)] at hgc
      refine bad 6 l h4 [] ?_ hs.drop.drop.drop
      rw [tg, hgc, hbl]
    rw [if_neg (by rw [decide_eq_true_iff]; omega)]
    rw [if_neg (by omega)] at hgc
    intro J64 hJ64
    obtain ⟨C, hC⟩ : ∃ C, C = cvAt bs a := ⟨_, rfl⟩
    rw [← hC] at hgc
    have wayC : ∀ (cb : Nat) h', Sat h0 (blk cb (cvV C) :: slE p2 t c2 5 (cvsV cs) :: slE p1 n6 c1 1 (ints .u8 id) :: blk tb (tokL key p1 n6 c1 p2 t c2 (zeros 32)) :: blk wb [.int .i64 0, .int .i64 0] :: blk rb tok0 :: A) h' → J64 [.dv (.addr ⟨cb, 0, none⟩)] h' := by
      intro cb h5 hs
      apply hJ64
      clear hJ64 J64
      simp only [add_mk, Nat.zero_add]
      refine ⟨_, hs.ld (i := 0) .z rfl, _, hs.ld (i := 0) .z rfl, _, hs.ld (i := 0) .z rfl, _, hs.ld (i := 0) .z rfl, _, hs.ld (i := 0) .z rfl, ?_⟩
      refine rcmay_sp C hs ?_
      intro h6 hs
      by_cases gm : C.may
      case neg =>
        rw [if_pos (by simp [gm])]
        rw [if_neg gm] at hgc
        refine bad 5 a _ [] ?_ hs.drop.drop.drop.drop
        rw [tg, hgc]
      rw [if_neg (by simp [gm])]
      rw [if_pos gm] at hgc
      refine ⟨_, _, _, hs.ld (i := 3) (.s (.s (.s .z))) rfl, ?_⟩
      refine ⟨_, hs.ld (i := 0) .z rfl, _, hs.ld (i := 0) .z rfl, _, hs.ld (i := 0) .z rfl, _, hs.ld (i := 0) .z rfl, _, hs.ld (i := 0) .z rfl, ?_⟩
      intro bb _ hn; replace hs := Sat.new hs hn; clear hn
      refine ⟨_, hs.bv (i := 0) (l := 1) (sz := 5) .z rfl (cv1 C), ?_⟩
      refine Sat.app hs (i := 2) (vs := cvV C) (.s (.s .z)) rfl rfl (cv1 C) (by omega) ?_
      intro p3 c3 h7 hs
      simp only [put_succ, put_zero] at hs
      replace hs := hs.drop.drop
      refine ⟨Sat.can hs (i := 2) (.s (.s .z)) (by simp [zeros]), ?_⟩
      intro h8 e
      replace hs := Sat.wr hs (i := 2) (.s (.s .z)) e
      clear e
      rw [tok_cs] at hs
      simp only [put_succ, put_zero] at hs
      rw [wrap_succ (by omega)]
      have K := hk (cs ++ [C], p3, c3) h8
      dsimp only at K
      rw [show 8 + n6 + 26 * (t + 1) = a + 26 by omega] at K
      refine K ⟨by simp [hcl], hgc, by omega, ?_⟩
      rw [cvsV_snoc]
      exact hs
    clear hJ64 bad
    have e1 : IntKind.i64.wrap ((a : Int) + 1) = ((a + 1 : Nat) : Int) := by rw [wrap_id (by omega)]; push_cast; rfl
    have e2 : IntKind.i64.wrap ((a : Int) + 2) = ((a + 2 : Nat) : Int) := by rw [wrap_id (by omega)]; push_cast; rfl
    have e10 : IntKind.i64.wrap ((a : Int) + 10) = ((a + 10 : Nat) : Int) := by rw [wrap_id (by omega)]; push_cast; rfl
    have e18 : IntKind.i64.wrap ((a : Int) + 18) = ((a + 18 : Nat) : Int) := by rw [wrap_id (by omega)]; push_cast; rfl
    rw [e1, e2, e10, e18]
    simp only [Int.toNat_natCast, Nat.mul_one]
    have nums : ∀ (o : Nat) h', o ≤ l → Sat h0 A h' → hsv h' (subAddr (some q) o c 1) 1 (l - o) (ints .u8 (bs.drop o)) := fun o h' ho hs' => by
      have := subRd (o := o) (n := l - o) (m := c) (rd _ hs') (by omega) (by omega)
      rwa [List.take_of_length_le (by simp; omega)] at this
    have rdA : ∀ h', Sat h0 A h' → hc h' (q.add a) = some (.int .u8 (bs.getD a 0)) := fun h' hs' => rdx _ a hs' (by omega)
    have rdB : ∀ h', Sat h0 A h' → hc h' (q.add (a + 1)) = some (.int .u8 (bs.getD (a + 1) 0)) := fun h' hs' => rdx _ (a + 1) hs' (by omega)
    have SA := hs.drop.drop.drop.drop.drop
    refine ⟨q, rfl, by omega, by omega, _, rdA _ SA, q, rfl, by omega, by omega, _, rdB _ SA, by omega, by omega, by omega, by omega, by omega, by omega, ?_⟩
    have fin : ∀ (cb : Nat) (x : List Value) h', x.length = 5 → Sat h0 (blk cb x :: slE p2 t c2 5 (cvsV cs) :: slE p1 n6 c1 1 (ints .u8 id) :: blk tb (tokL key p1 n6 c1 p2 t c2 (zeros 32)) :: blk wb [.int .i64 0, .int .i64 0] :: blk rb tok0 :: A) h' →
        hcan h' ⟨cb, 0, none⟩ 5 ∧ ∀ h110 : H, h110 = hwr h' ⟨cb, 0, none⟩ [.int .i64 (IntKind.i64.wrap (bs.getD a 0)), .int .i64 (IntKind.i64.wrap (bs.getD (a + 1) 0)), .int .i64 (IntKind.i64.wrap (nuM (bs.drop (a + 2)) 8)), .int .i64 (IntKind.i64.wrap (nuM (bs.drop (a + 10)) 8)), .int .u64 (nuM (bs.drop (a + 18)) 8)] → J64 [.dv (.addr ⟨cb, 0, none⟩)] h110 := by
      intro cb x h5 hx hs
      refine ⟨Sat.can hs (i := 0) .z (by omega), ?_⟩
      intro h6 e
      replace hs := Sat.wra hs (i := 0) .z e (by rw [hx]; rfl)
      clear e
      rw [put_zero] at hs
      refine wayC cb h6 ?_
      rw [hC]
      exact hs
    refine ⟨?_, ?_⟩
    · refine rnumber_sp (nums _ _ (by omega) SA) (by omega) ?_
      refine ⟨hcs_one (rdB _ SA), hcs_one (rdA _ SA), ?_, ?_⟩
      · refine rnumber_sp (nums _ _ (by omega) SA) (by omega) ?_
        refine ⟨hcs_one (rdB _ SA), hcs_one (rdA _ SA), ?_, ?_⟩
        · refine rnumber_sp (nums _ _ (by omega) SA) (by omega) ?_
          refine ⟨hcs_one (rdB _ SA), hcs_one (rdA _ SA), ?_⟩
          intro cb _ hn; replace hs := Sat.new hs hn; clear hn
          have SB := hs.drop.drop.drop.drop.drop.drop
          refine ⟨hcs_one (rdB _ SB), hcs_one (rdA _ SB), ?_⟩
          exact fin cb _ _ rfl hs
        · intro cb _ hn; replace hs := Sat.new hs hn; clear hn
          have SB := hs.drop.drop.drop.drop.drop.drop
          refine ⟨hcs_one (rdB _ SB), hcs_one (rdA _ SB), ?_⟩
          refine rnumber_sp (nums _ _ (by omega) SB) (by omega) ?_
          refine ⟨hcs_one (rdB _ SB), hcs_one (rdA _ SB), ?_⟩
          exact fin cb _ _ rfl hs
      · intro cb _ hn; replace hs := Sat.new hs hn; clear hn
        have SB := hs.drop.drop.drop.drop.drop.drop
        refine ⟨hcs_one (rdB _ SB), hcs_one (rdA _ SB), ?_⟩
        refine rnumber_sp (nums _ _ (by omega) SB) (by omega) ?_
        refine ⟨hcs_one (rdB _ SB), hcs_one (rdA _ SB), ?_⟩
        refine rnumber_sp (nums _ _ (by omega) SB) (by omega) ?_
        refine ⟨hcs_one (rdB _ SB), hcs_one (rdA _ SB), ?_⟩
        exact fin cb _ _ rfl hs
    · intro cb _ hn; replace hs := Sat.new hs hn; clear hn
      have SB := hs.drop.drop.drop.drop.drop.drop
      refine ⟨hcs_one (rdB _ SB), hcs_one (rdA _ SB), ?_⟩
      refine rnumber_sp (nums _ _ (by omega) SB) (by omega) ?_
      refine ⟨hcs_one (rdB _ SB), hcs_one (rdA _ SB), ?_⟩
      refine rnumber_sp (nums _ _ (by omega) SB) (by omega) ?_
      refine ⟨hcs_one (rdB _ SB), hcs_one (rdA _ SB), ?_⟩
      refine rnumber_sp (nums _ _ (by omega) SB) (by omega) ?_
      refine ⟨hcs_one (rdB _ SB), hcs_one (rdA _ SB), ?_⟩
      exact fin cb _ _ rfl hs
  · rintro ⟨cs, p2, c2⟩ h4 ⟨hcl, hgc, hal, hs⟩
    dsimp only at hcl hgc hs ⊢
    apply hJ59
    clear hJ59
    obtain ⟨a, ha⟩ : ∃ a, a = 8 + n6 + 26 * n7 := ⟨_, rfl⟩
    rw [← ha] at hgc hal ⊢
    refine ⟨q, rfl, by decide, by omega, _, rdx _ 7 hs.drop.drop.drop.drop.drop (by omega), ?_⟩
    rw [e7, ltI_eq, if_neg (by simp)]
    rw [Nat.sub_self] at hgc
    replace hgc : gCavs bs n7 (8 + n6) [] = .ok (a, cs) := hgc
    have tg2 : tgetM bs = gRest bs a cs := by rw [tg, hgc]
    unfold gRest at tg2
    have e32 : IntKind.i64.wrap ((a : Int) + 32) = ((a + 32 : Nat) : Int) := by rw [wrap_id (by omega)]; push_cast; rfl
    rw [e32, ltI_eq]
    by_cases cl : l < a + 32
    · rw [if_pos (by rw [decide_eq_true_iff]; omega)]
      rw [if_pos (by omega)] at tg2
      exact bad 6 l h4 [] (by rw [tg2, hbl]) hs.drop.drop.drop
    rw [if_neg (by rw [decide_eq_true_iff]; omega)]
    rw [if_neg (by omega)] at tg2
    rw [ltI_eq]
    by_cases cr : a + 32 < l
    · rw [if_pos (by rw [decide_eq_true_iff]; omega)]
      rw [if_pos (by omega)] at tg2
      exact bad 7 _ _ [] tg2 hs.drop.drop.drop
    rw [if_neg (by rw [decide_eq_true_iff]; omega)]
    rw [if_neg (by omega)] at tg2
    clear bad
    obtain ⟨tag, htag⟩ : ∃ tag, tag = (bs.drop a).take 32 := ⟨_, rfl⟩
    rw [← htag] at tg2
    have htl : tag.length = 32 := by rw [htag]; simp; omega
    intro J hJ
    refine loop_up 32 (fun t h => Sat h0 (slE p2 n7 c2 5 (cvsV cs) :: slE p1 n6 c1 1 (ints .u8 id) :: blk tb (tokL key p1 n6 c1 p2 n7 c2 (tag.take t ++ zeros (32 - t))) :: blk wb [.int .i64 0, .int .i64 0] :: blk rb tok0 :: A) h) ?_ ?_ 0 _ (by omega) hs
    · intro t h5 ht hs hk
      apply hJ
      rw [ltI_eq, if_pos (by simp; omega)]
      have ea : IntKind.i64.wrap ((a : Int) + (t : Int)) = ((a + t : Nat) : Int) := by rw [wrap_id (by omega)]; push_cast; rfl
      rw [ea]
      simp only [Int.toNat_natCast, Nat.mul_one]
      have ht3 : t < tag.length := by omega
      have eg : bs.getD (a + t) 0 = tag[t] := by
        have := dropD bs a 32 t ht
        rw [← htag, List.getD_eq_getElem?_getD, List.getElem?_eq_getElem ht3] at this
        exact this.symm
      refine ⟨q, rfl, by omega, by omega, tag[t], by rw [← eg]; exact rdx _ _ hs.drop.drop.drop.drop.drop (by omega), by omega, by omega, ?_⟩
      refine ⟨Sat.can hs (i := 2) (.s (.s .z)) (by simp [zeros]; omega), ?_⟩
      intro h6 e
      replace hs := Sat.wr hs (i := 2) (.s (.s .z)) e
      clear e
      rw [tok_set, set_part tag 32 t ht3 htl] at hs
      simp only [put_succ, put_zero] at hs
      rw [wrap_succ (by omega)]
      exact hk _ hs
    · intro h5 hs
      apply hJ
      rw [ltI_eq, if_neg (by decide)]
      have e0 : tag.take 32 ++ zeros (32 - 32) = tag := by rw [List.take_of_length_le (by omega)]; simp [zeros]
      rw [e0] at hs
      have t2 := At.s (x := slE p2 n7 c2 5 (cvsV cs)) (At.s (x := slE p1 n6 c1 1 (ints .u8 id)) (At.z (A := blk wb [.int .i64 0, .int .i64 0] :: blk rb tok0 :: A) (e := blk tb (tokL key p1 n6 c1 p2 n7 c2 tag))))
      refine ⟨_, hs.ld t2 rfl, _, _, _, hs.ld t2 rfl, _, _, _, hs.ld t2 rfl, tag, htl, tok_row hs t2, ?_⟩
      refine ⟨Sat.can hs (i := 4) (.s (.s (.s (.s .z)))) (by simp [zeros]), ?_⟩
      intro h6 e
      replace hs := Sat.wra (xs := tokL key p1 n6 c1 p2 n7 c2 tag) hs (i := 4) (.s (.s (.s (.s .z)))) e (by simp [zeros, htl])
      clear e
      simp only [put_succ, put_zero] at hs
      refine ⟨Sat.can hs (i := 3) (.s (.s (.s .z))) (by simp), ?_⟩
      intro h7 e
      replace hs := Sat.wra (xs := [.int .i64 0, .int .i64 0]) hs (i := 3) (.s (.s (.s .z))) e rfl
      clear e
      simp only [put_succ, put_zero] at hs
      have t3 := At.s (x := slE p2 n7 c2 5 (cvsV cs)) (At.s (x := slE p1 n6 c1 1 (ints .u8 id)) (At.s (x := blk tb (tokL key p1 n6 c1 p2 n7 c2 tag)) (At.z (A := blk rb (tokL key p1 n6 c1 p2 n7 c2 tag) :: A) (e := blk wb [.int .i64 0, .int .i64 0]))))
      have t4 := At.s (x := slE p2 n7 c2 5 (cvsV cs)) (At.s (x := slE p1 n6 c1 1 (ints .u8 id)) (At.s (x := blk tb (tokL key p1 n6 c1 p2 n7 c2 tag)) (At.s (x := blk wb [.int .i64 0, .int .i64 0]) (At.z (A := A) (e := blk rb (tokL key p1 n6 c1 p2 n7 c2 tag))))))
      refine ⟨_, hs.ld t4 rfl, _, _, _, hs.ld t4 rfl, _, _, _, hs.ld t4 rfl, tag, htl, tok_row hs t4, _, hs.ld t3 rfl, _, hs.ld t3 rfl, ?_⟩
      rw [← hn6, ← hid, ← hkey] at tg2
      have K := kT _ tg2 p1 c1 p2 n7 c2 h7 hcl
      dsimp only at K
      rw [hidl] at K
      exact K (hs.sub (by (repeat (first | exact List.Sublist.refl _ | apply List.Sublist.cons_cons | apply List.Sublist.cons)))) htl
end
end Go.Proofs.YtijcpgahmbkijaaDoor
end

/- Tokens: as the program has them, and back. Own work. -/
section
set_option maxRecDepth 100000
set_option linter.unusedVariables false
namespace Go.Proofs.YtijcpgahmbkijaaDoor
open Go Go.Vc
theorem flat_len (n : Nat) (X : List Value) : (List.replicate n X).flatten.length = n * X.length := by
  induction n with
  | zero => simp
  | succ n ih => rw [List.replicate_succ, List.flatten_cons, List.length_append, ih, Nat.succ_mul]; omega
section
variable {h0 h : H} {A : List Ent} {i j d : Nat}
theorem as_sl0 (hs : Sat h0 A h) {i b c sz : Nat} {vs : List Value} (m : At A i (blk b vs)) (hl : vs.length = c * sz) : Sat h0 (put A i (slE (some ⟨b, 0, none⟩) 0 c sz [])) h := by
  refine hs.as m fun f hp => ?_
  obtain ⟨k, hf⟩ := blk_P.1 hp
  refine slE_P.2 ⟨[b], ⟨by simp, by omega, by intro v hv; simp at hv, Or.inr ⟨b, vs, rfl, rfl, by simpa using k, by rw [hl]; simp⟩⟩, fun x => ?_⟩
  rw [hf]; simp
theorem caveat_sp {Q : Int → Int → Int → Int → Int → H → Prop} (c : CvM) (hs : Sat h0 A h) (k : ∀ h', Sat h0 A h' → Q c.kind c.slot c.frm c.to c.set h') : F_portcullislaw24_caveat c.kind c.slot c.frm c.to c.set Q h := by
  unfold F_portcullislaw24_caveat G_portcullislaw24_caveat
  simp only [add_mk, Nat.zero_add]
  intro b _ hn; replace hs := Sat.new hs hn; clear hn
  intro b2 _ hn; replace hs := Sat.new hs hn; clear hn
  refine ⟨_, hs.ld (i := 1) (.s .z) rfl, _, hs.ld (i := 1) (.s .z) rfl, _, hs.ld (i := 1) (.s .z) rfl, _, hs.ld (i := 1) (.s .z) rfl, _, hs.ld (i := 1) (.s .z) rfl, ?_⟩
  refine ⟨Sat.can hs (i := 0) .z (by simp), ?_⟩
  intro h2 e
  replace hs := Sat.wra hs (i := 0) .z e rfl
  clear e
  simp only [put_zero] at hs
  refine ⟨_, hs.ld (i := 0) .z rfl, _, hs.ld (i := 0) .z rfl, _, hs.ld (i := 0) .z rfl, _, hs.ld (i := 0) .z rfl, _, hs.ld (i := 0) .z rfl, ?_⟩
  exact k _ hs.drop.drop
theorem lawof_sp {Q : Int → Option Addr → Nat → Nat → Option Addr → Nat → Nat → List Int → H → Prop} {key : Int} {id tag : List Int} {cs : List CvM} {ip cp : Option Addr} {il ic cl cc : Nat} (hs : Sat h0 A h) (ht : tag.length = 32) (hi : il + 4096 ≤ 2 ^ 47) (hl : cl ≤ 65536)
    (ri : ∀ h', Sat h0 A h' → hsv h' ip 1 il (ints .u8 id)) (rc : ∀ h', Sat h0 A h' → hsv h' cp 5 cl (cvsV cs))
    (k : ∀ p1 c1 p2 c2 h', il + 3 ≤ c1 → Sat h0 (slE p2 cl c2 5 (cvsV cs) :: slE p1 (il + 3) c1 1 (ints .u8 (id ++ [161, 162, 163])) :: A) h' → Q key (subAddr p1 0 c1 1) il c1 p2 cl c2 tag h') :
    F_portcullislaw24_of key ip il ic cp cl cc tag Q h := by
  unfold F_portcullislaw24_of G_portcullislaw24_of
  simp only [add_mk, Nat.zero_add, List.append_nil]
  have hcl : cs.length = cl := by have := (rc _ hs).1; rw [cvsV_len] at this; omega
  have hil : id.length = il := by have := (ri _ hs).1; simpa using this
  intro tb _ hn; replace hs := Sat.new hs hn; clear hn
  intro ob _ hn; replace hs := Sat.new hs hn; clear hn
  replace hs : Sat h0 (blk ob tok0 :: blk tb (tokL key ip il ic cp cl cc tag) :: A) _ := hs
  refine ⟨_, _, _, hs.ld (i := 1) (.s .z) rfl, _, _, _, hs.ld (i := 1) (.s .z) rfl, ?_⟩
  have e3 : IntKind.i64.wrap ((il : Int) + 3) = ((il + 3 : Nat) : Int) := by rw [wrap_id (by omega)]; push_cast; rfl
  rw [e3]
  refine ⟨by decide, by omega, by omega, by omega, ?_⟩
  simp only [Int.toNat_natCast]
  intro ib _ hn; replace hs := Sat.new hs hn; clear hn
  refine ⟨hcs_one (hs.ld (i := 2) (.s (.s .z)) rfl), _, ri _ hs.drop.drop.drop, ?_⟩
  replace hs := as_sl0 hs (i := 0) (c := il + 3) (sz := 1) .z (by rw [flat_len]; simp)
  rw [put_zero] at hs
  refine Sat.app hs (i := 0) (vs := ints .u8 id) .z (by simp [hil]) rfl (ints_one _ _) (by omega) ?_
  intro p1 c1 h2 hs
  simp only [put_zero, Nat.zero_add, List.nil_append] at hs ⊢
  refine ⟨_, _, _, hs.ld (i := 2) (.s (.s .z)) rfl, ?_⟩
  have e2 : IntKind.i64.wrap ((cl : Int) + 2) = ((cl + 2 : Nat) : Int) := by rw [wrap_id (by omega)]; push_cast; rfl
  rw [e2]
  refine ⟨by decide, by omega, by omega, by omega, ?_⟩
  simp only [Int.toNat_natCast]
  intro cb _ hn; replace hs := Sat.new hs hn; clear hn
  replace hs := as_sl0 hs (i := 0) (c := cl + 2) (sz := 5) .z (by rw [flat_len]; rfl)
  rw [put_zero] at hs
  refine ⟨_, _, _, hs.ld (i := 3) (.s (.s (.s .z))) rfl, ?_⟩
  intro J40 hJ40
  refine loopS cl (fun t (s : Option Addr × Nat) => [.dv (.one (.slice s.1 t s.2)), si t]) (fun t s h => Sat h0 (slE s.1 t s.2 5 (cvsV (cs.take t)) :: slE p1 il c1 1 (ints .u8 id) :: blk ob tok0 :: blk tb (tokL key ip il ic cp cl cc tag) :: A) h) ?_ ?_ 0 (some ⟨cb, 0, none⟩, cl + 2) _ (by omega) (by simpa [cvsV] using hs)
  · rintro t ⟨p3, c3⟩ h5 htl hs hk
    dsimp only at hs hk ⊢
    apply hJ40
    rw [ltI_eq, if_pos (by simp; omega)]
    obtain ⟨q, hl2, hq, g0, g1, g2, g3, g4⟩ := cv_rd (rc _ hs.drop.drop.drop.drop) (i := t) htl
    refine ⟨q, hq, by omega, by omega, ?_⟩
    simp only [Int.toNat_natCast]
    refine ⟨_, g0, _, g1, _, g2, _, g3, _, g4, ?_⟩
    intro b3 _ hn; replace hs := Sat.new hs hn; clear hn
    refine ⟨Sat.can hs (i := 0) .z (by simp), ?_⟩
    intro h6 e
    replace hs := Sat.wra hs (i := 0) .z e rfl
    clear e
    simp only [put_zero] at hs
    refine ⟨_, hs.ld (i := 0) .z rfl, _, hs.ld (i := 0) .z rfl, _, hs.ld (i := 0) .z rfl, _, hs.ld (i := 0) .z rfl, _, hs.ld (i := 0) .z rfl, ?_⟩
    refine caveat_sp cs[t] hs ?_
    intro h7 hs
    intro b4 _ hn; replace hs := Sat.new hs hn; clear hn
    refine ⟨_, hs.bv (i := 0) (l := 1) (sz := 5) .z rfl (cv1 cs[t]), ?_⟩
    refine Sat.app hs (i := 2) (vs := cvV cs[t]) (.s (.s .z)) rfl rfl (cv1 _) (by omega) ?_
    intro p5 c5 h8 hs
    simp only [put_succ, put_zero] at hs
    rw [wrap_succ (by omega)]
    refine hk (p5, c5) h8 ?_
    dsimp only
    rw [take_snoc _ hl2, cvsV_snoc]
    exact hs.drop.drop
  · rintro ⟨p3, c3⟩ h5 hs
    dsimp only at hs ⊢
    apply hJ40
    clear hJ40
    rw [ltI_eq, if_neg (by simp)]
    rw [List.take_of_length_le (by omega)] at hs
    have t3 := At.s (x := slE p3 cl c3 5 (cvsV cs)) (At.s (x := slE p1 il c1 1 (ints .u8 id)) (At.s (x := blk ob tok0) (At.z (A := A) (e := blk tb (tokL key ip il ic cp cl cc tag)))))
    refine ⟨_, hs.ld t3 rfl, _, _, _, hs.ld t3 rfl, tag, ht, tok_row hs t3, ?_⟩
    intro mb _ hn; replace hs := Sat.new hs hn; clear hn
    have t4 := At.s (x := blk mb [Value.int .u8 161, .int .u8 162, .int .u8 163]) t3
    refine ⟨tok_row hs t4, hcs_one (hs.ld t4 rfl), hcs_one (hs.ld t4 rfl), _, hs.bv (i := 0) (l := 3) (sz := 1) .z rfl (ints_one .u8 [161, 162, 163]), ?_⟩
    refine Sat.app hs (i := 2) (vs := ints .u8 [161, 162, 163]) (.s (.s .z)) rfl rfl (ints_one _ _) (by omega) ?_
    intro p6 c6 h6 hs
    simp only [put_succ, put_zero] at hs
    rw [← ints_app] at hs
    have hc := capS hs (i := 2) (.s (.s .z))
    have t5 := At.s (x := blk mb [Value.int .u8 161, .int .u8 162, .int .u8 163]) (At.s (x := slE p3 cl c3 5 (cvsV cs)) (At.s (x := slE p6 (il + 3) c6 1 (ints .u8 (id ++ [161, 162, 163]))) (At.s (x := blk ob tok0) (At.z (A := A) (e := blk tb (tokL key ip il ic cp cl cc tag))))))
    refine ⟨tok_row hs t5, hcs_one (hs.ld t5 rfl), hcs_one (hs.ld t5 rfl), by omega, by omega, ?_⟩
    refine ⟨Sat.can hs (i := 3) (.s (.s (.s .z))) (by simp [zeros]), ?_⟩
    intro h7 e
    replace hs := Sat.wra (xs := tokL key (subAddr p6 0 c6 1) il c6 p3 cl c3 tag) hs (i := 3) (.s (.s (.s .z))) (by simpa using e) (by simp [zeros, ht])
    clear e
    simp only [put_succ, put_zero] at hs
    have t6 := At.s (x := blk mb [Value.int .u8 161, .int .u8 162, .int .u8 163]) (At.s (x := slE p3 cl c3 5 (cvsV cs)) (At.s (x := slE p6 (il + 3) c6 1 (ints .u8 (id ++ [161, 162, 163]))) (At.z (A := blk tb (tokL key ip il ic cp cl cc tag) :: A) (e := blk ob (tokL key (subAddr p6 0 c6 1) il c6 p3 cl c3 tag)))))
    refine ⟨_, hs.ld t6 rfl, _, _, _, hs.ld t6 rfl, _, _, _, hs.ld t6 rfl, tag, ht, tok_row hs t6, ?_⟩
    exact k p6 c6 p3 c3 h7 hc (hs.sub (by (repeat (first | exact List.Sublist.refl _ | apply List.Sublist.cons_cons | apply List.Sublist.cons))))
/-- The ID of a copy. -/
theorem ofId {p : Option Addr} {il c1 : Nat} {id m : List Int} (hil : id.length = il) (hc : il + 3 ≤ c1) (R : hsv h p 1 (il + 3) (ints .u8 (id ++ m))) : hsv h (subAddr p 0 c1 1) 1 il (ints .u8 id) := by
  have := subRd (o := 0) (n := il) (m := c1) R (by omega) (by omega)
  rw [List.drop_zero, List.take_append_of_le_length (by omega), List.take_of_length_le (by omega)] at this
  exact this
theorem back_sp {Q : Int → Option Addr → Nat → Nat → Option Addr → Nat → Nat → List Int → H → Prop} {key : Int} {tag : List Int} {cs : List CvM} {ip cp : Option Addr} {il ic cl cc : Nat} (hs : Sat h0 A h) (ht : tag.length = 32) (hl : cl < 2 ^ 40)
    (rc : ∀ h', Sat h0 A h' → hsv h' cp 5 cl (cvsV cs)) (k : ∀ p2 c2 h', Sat h0 (slE p2 cl c2 5 (cvsV cs) :: A) h' → Q key ip il ic p2 cl c2 tag h') :
    F_portcullislaw24_back key ip il ic cp cl cc tag Q h := by
  unfold F_portcullislaw24_back G_portcullislaw24_back
  simp only [add_mk, Nat.zero_add, List.append_nil]
  have hcl : cs.length = cl := by have := (rc _ hs).1; rw [cvsV_len] at this; omega
  intro tb _ hn; replace hs := Sat.new hs hn; clear hn
  intro rb _ hn; replace hs := Sat.new hs hn; clear hn
  replace hs : Sat h0 (blk rb tok0 :: blk tb (tokL key ip il ic cp cl cc tag) :: A) _ := hs
  refine ⟨_, hs.ld (i := 1) (.s .z) rfl, _, _, _, hs.ld (i := 1) (.s .z) rfl, tag, ht, tok_row hs (i := 1) (.s .z), ?_⟩
  intro ob _ hn; replace hs := Sat.new hs hn; clear hn
  refine ⟨Sat.can hs (i := 0) .z (by simp [zeros]), ?_⟩
  intro h2 e
  replace hs := Sat.wra (xs := tokL key ip il ic none 0 0 tag) hs (i := 0) .z e (by simp [zeros, ht])
  clear e
  simp only [put_zero] at hs
  refine ⟨_, _, _, hs.ld (i := 2) (.s (.s .z)) rfl, ?_⟩
  intro J29 hJ29
  refine loopS cl (fun t (s : Option Addr × Nat) => [si t]) (fun t s h => Sat h0 (slE s.1 t s.2 5 (cvsV (cs.take t)) :: blk ob (tokL key ip il ic s.1 t s.2 tag) :: blk rb tok0 :: blk tb (tokL key ip il ic cp cl cc tag) :: A) h) ?_ ?_ 0 (none, 0) _ (by omega) (by simpa [cvsV] using hs.sl_nil 5 none)
  · rintro t ⟨p3, c3⟩ h5 htl hs hk
    dsimp only at hs hk ⊢
    apply hJ29
    rw [ltI_eq, if_pos (by simp; omega)]
    obtain ⟨q, hl2, hq, g0, g1, g2, g3, g4⟩ := cv_rd (rc _ hs.drop.drop.drop.drop) (i := t) htl
    refine ⟨q, hq, by omega, by omega, ?_⟩
    simp only [Int.toNat_natCast]
    refine ⟨_, g0, _, g1, _, g2, _, g3, _, g4, ?_⟩
    intro b3 _ hn; replace hs := Sat.new hs hn; clear hn
    refine ⟨Sat.can hs (i := 0) .z (by simp), ?_⟩
    intro h6 e
    replace hs := Sat.wra hs (i := 0) .z e rfl
    clear e
    simp only [put_zero] at hs
    refine ⟨_, _, _, hs.ld (i := 2) (.s (.s .z)) rfl, ?_⟩
    refine ⟨_, hs.ld (i := 0) .z rfl, _, hs.ld (i := 0) .z rfl, _, hs.ld (i := 0) .z rfl, _, hs.ld (i := 0) .z rfl, _, hs.ld (i := 0) .z rfl, ?_⟩
    intro b4 _ hn; replace hs := Sat.new hs hn; clear hn
    refine ⟨_, hs.bv (i := 0) (l := 1) (sz := 5) .z rfl (cv1 cs[t]), ?_⟩
    refine Sat.app hs (i := 2) (vs := cvV cs[t]) (.s (.s .z)) rfl rfl (cv1 _) (by omega) ?_
    intro p5 c5 h8 hs
    simp only [put_succ, put_zero] at hs
    replace hs := hs.drop.drop
    refine ⟨Sat.can hs (i := 1) (.s .z) (by simp), ?_⟩
    intro h9 e
    replace hs := Sat.wr hs (i := 1) (.s .z) e
    clear e
    rw [tok_cs] at hs
    simp only [put_succ, put_zero] at hs
    rw [wrap_succ (by omega)]
    refine hk (p5, c5) h9 ?_
    dsimp only
    rw [take_snoc _ hl2, cvsV_snoc]
    exact hs
  · rintro ⟨p3, c3⟩ h5 hs
    dsimp only at hs ⊢
    apply hJ29
    clear hJ29
    rw [ltI_eq, if_neg (by simp)]
    rw [List.take_of_length_le (by omega)] at hs
    refine ⟨_, hs.ld (i := 1) (.s .z) rfl, _, _, _, hs.ld (i := 1) (.s .z) rfl, _, _, _, hs.ld (i := 1) (.s .z) rfl, tag, ht, tok_row hs (i := 1) (.s .z), ?_⟩
    refine ⟨Sat.can hs (i := 2) (.s (.s .z)) (by simp [zeros]), ?_⟩
    intro h6 e
    replace hs := Sat.wra (xs := tokL key ip il ic p3 cl c3 tag) hs (i := 2) (.s (.s .z)) e (by simp [zeros, ht])
    clear e
    simp only [put_succ, put_zero] at hs
    refine ⟨_, hs.ld (i := 2) (.s (.s .z)) rfl, _, _, _, hs.ld (i := 2) (.s (.s .z)) rfl, _, _, _, hs.ld (i := 2) (.s (.s .z)) rfl, tag, ht, tok_row hs (i := 2) (.s (.s .z)), ?_⟩
    exact k p3 c3 _ (hs.sub (by (repeat (first | exact List.Sublist.refl _ | apply List.Sublist.cons_cons | apply List.Sublist.cons))))
end
end Go.Proofs.YtijcpgahmbkijaaDoor
end

/- Tokens: two tags part (reckoned). Own work. -/
section
set_option maxRecDepth 1000000
namespace Go.Proofs.YtijcpgahmbkijaaDoor
open Go Go.Vc
theorem awake_tags : (macM (macM [107] (msgM [105, 100])) (cbM ⟨1, 1, 0, 0, 0⟩) == macM [107] (msgM [105, 100])) = false := by decide +kernel
end Go.Proofs.YtijcpgahmbkijaaDoor
end

/- Tokens: awake; TokenNames. Own work. -/
section
set_option maxRecDepth 1000000
set_option linter.unusedVariables false
namespace Go.Proofs.YtijcpgahmbkijaaDoor
open Go Go.Vc
theorem awake_may : TokMay 1 [105, 100] [] := by decide
theorem get_nil : tgetM [] = .error (6, 0) := rfl
section
variable {h0 h : H} {A : List Ent} {i j d : Nat}
theorem hsv_nil (h : H) (p : Option Addr) (sz : Nat) : hsv h p sz 0 [] := ⟨by simp, by intro v hv; simp at hv, Or.inl rfl⟩
theorem awake24_sp {Q : Bool → H → Prop} (hg : hc h0 ⟨0, 0, none⟩ = some errTypeV) (hs : Sat h0 A h) (k : ∀ h', Sat h0 A h' → Q true h') : F_portcullislaw24_awake Q h := by
  unfold F_portcullislaw24_awake G_portcullislaw24_awake
  simp only [add_mk, Nat.zero_add, List.append_nil]
  intro kb _ hn; replace hs := Sat.new hs hn; clear hn
  refine ⟨_, rfl, ?_⟩
  intro h1 e
  replace hs := hs.mark (i := 0) .z e
  clear e
  intro sb _ hn; replace hs := Sat.new hs hn; clear hn
  refine keys1_sp (key := 1) (bs := [107]) hs (by decide) (by decide) (fun h' hs' => hs'.ld (i := 0) .z rfl) (fun h' hs' => by rw [add_mk]; exact hs'.ld (i := 0) .z rfl) (fun h' hs' => hs'.bv (i := 1) (l := 1) (.s .z) rfl (ints_one .u8 [107])) ?_
  intro r m kp kc h2 hkc hs
  intro J hJ
  rw [if_neg (by decide), if_neg (by simp)]
  apply hJ
  clear hJ J
  intro ib _ hn; replace hs := Sat.new hs hn; clear hn
  refine ⟨_, rfl, ?_⟩
  intro h3 e
  replace hs := hs.mark (i := 0) .z e
  clear e
  refine ⟨_, rfl, ?_⟩
  refine issue_sp (key := 1) (secret := [107]) (id := [105, 100]) hs (i := 2) (j := 3) (.s (.s .z)) (.s (.s (.s .z))) rfl hkc (by decide) (by decide) (fun h' hs' => hs'.sv (i := 1) (.s .z)) (fun h' hs' => hs'.bv (i := 0) (l := 2) .z rfl (ints_one .u8 [105, 100])) ?_
  intro p1 c1 h4 hc1 hs
  obtain ⟨tag, htag⟩ : ∃ tag, tag = macM [107] (msgM [105, 100]) := ⟨_, rfl⟩
  have htl : tag.length = 32 := by rw [htag]; exact macM_len _ _
  have htb : isBytes tag := by rw [htag]; exact macM_bytes _ _
  have hne := awake_tags
  rw [← htag] at hne ⊢
  clear htag
  intro tb _ hn; replace hs := Sat.new hs hn; clear hn
  refine ⟨Sat.can hs (i := 0) .z (by simp [zeros]), ?_⟩
  intro h5 e
  replace hs := Sat.wra (xs := tokL 1 p1 2 c1 none 0 0 tag) hs (i := 0) .z e (by simp [zeros, htl])
  clear e
  simp only [put_zero] at hs
  refine ⟨_, hs.ld (i := 0) .z rfl, _, _, _, hs.ld (i := 0) .z rfl, _, _, _, hs.ld (i := 0) .z rfl, tag, htl, tok_row hs (i := 0) .z, ?_⟩
  refine narrow_sp (⟨1, 1, 0, 0, 0⟩ : CvM) (id := [105, 100]) (cs := []) hs htl (by decide) (by decide) (fun h' hs' => hs'.sv (i := 1) (.s .z)) (fun h' hs' => hsv_nil _ _ _) (fun y => absurd y (by decide)) (fun _ y => absurd (by decide) y) ?_
  intro _ _ p2 c2 p3 c3 h6 hs
  obtain ⟨tag2, htag2⟩ : ∃ tag2, tag2 = macM tag (cbM ⟨1, 1, 0, 0, 0⟩) := ⟨_, rfl⟩
  have htl2 : tag2.length = 32 := by rw [htag2]; exact macM_len _ _
  rw [← htag2] at hne ⊢
  clear htag2
  intro ub _ hn; replace hs := Sat.new hs hn; clear hn
  refine ⟨Sat.can hs (i := 0) .z (by simp [zeros]), ?_⟩
  intro h7 e
  replace hs := Sat.wra (xs := tokL 1 p2 2 c2 p3 1 c3 tag2) hs (i := 0) .z e (by simp [zeros, htl2])
  clear e
  simp only [put_zero] at hs
  refine ⟨_, hs.ld (i := 3) (.s (.s (.s .z))) rfl, _, _, _, hs.ld (i := 3) (.s (.s (.s .z))) rfl, _, _, _, hs.ld (i := 3) (.s (.s (.s .z))) rfl, tag, htl, tok_row hs (i := 3) (.s (.s (.s .z))), ?_⟩
  refine narrow_sp (⟨0, 0, 0, 0, 0⟩ : CvM) (id := [105, 100]) (cs := []) hs htl (by decide) (by decide) (fun h' hs' => hs'.sv (i := 4) (.s (.s (.s (.s .z))))) (fun h' hs' => hsv_nil _ _ _) (fun y => absurd y (by decide)) ?_ (fun _ y => absurd y (by decide))
  intro _ _ h8 hs
  intro nb _ hn; replace hs := Sat.new hs hn; clear hn
  refine ⟨Sat.can hs (i := 0) .z (by simp [zeros]), ?_⟩
  intro h9 e
  replace hs := Sat.wra (xs := tok0) hs (i := 0) .z e (by simp [zeros])
  clear e
  simp only [put_zero] at hs
  refine ⟨_, hs.ld (i := 4) (.s (.s (.s (.s .z)))) rfl, _, _, _, hs.ld (i := 4) (.s (.s (.s (.s .z)))) rfl, _, _, _, hs.ld (i := 4) (.s (.s (.s (.s .z)))) rfl, tag, htl, tok_row hs (i := 4) (.s (.s (.s (.s .z)))), ?_⟩
  refine put_sp (id := [105, 100]) (cs := []) hs htl (by decide) (fun h' hs' => hs'.sv (i := 5) (.s (.s (.s (.s (.s .z)))))) (fun h' hs' => hsv_nil _ _ _) (fun y => absurd awake_may y) ?_
  intro _ p4 c4 h10 hc4 hs
  have hpl : (putM24 1 [105, 100] [] tag).length = 42 := by rw [awake_put, List.length_append, htl]; rfl
  have hpb : isBytes (putM24 1 [105, 100] [] tag) := by
    rw [awake_put]
    intro n hn
    rcases List.mem_append.1 hn with hn | hn
    · simp only [List.mem_cons, List.not_mem_nil, or_false] at hn
      omega
    · exact htb n hn
  have hget := awake_get htl
  generalize putM24 1 [105, 100] [] tag = B at *
  rw [hpl] at hs hc4 ⊢
  refine get_sp (bs := B) hs hpb hc4 (by decide) (fun h' hs' => hs'.sv (i := 0) .z) (fun e a he => by rw [hget] at he; cases he) ?_
  intro t ht p5 c5 p6 l6 c6 h11 hl6 hs htt
  rw [hget] at ht
  injection ht with ht
  subst ht
  dsimp only at hs htt hl6 ⊢
  intro xb _ hn; replace hs := Sat.new hs hn; clear hn
  refine ⟨Sat.can hs (i := 0) .z (by simp [zeros]), ?_⟩
  intro h12 e
  replace hs := Sat.wra (xs := tokL 1 p5 2 c5 p6 l6 c6 tag) hs (i := 0) .z e (by simp [zeros, htl])
  clear e
  simp only [put_zero] at hs
  refine get_sp (bs := []) hs (by intro n hn; simp at hn) (by decide) (by decide) (fun h' hs' => hsv_nil _ _ _) ?_ (fun t ht => by rw [get_nil] at ht; cases ht)
  intro e a hea wb h13 hs
  rw [get_nil] at hea
  injection hea with hea
  injection hea with he ha
  subst he ha
  intro yb _ hn; replace hs := Sat.new hs hn; clear hn
  refine ⟨Sat.can hs (i := 0) .z (by simp [zeros]), ?_⟩
  intro h14 e
  replace hs := Sat.wra (xs := tok0) hs (i := 0) .z e (by simp [zeros])
  clear e
  simp only [put_zero] at hs
  refine told24_sp hg hs (i := 1) (.s .z) (by decide) ?_
  intro h15 hs
  intro zb _ hn; replace hs := Sat.new hs hn; clear hn
  refine ⟨Sat.can hs (i := 0) .z (by simp), ?_⟩
  intro h16 e
  replace hs := Sat.wra hs (i := 0) .z e rfl
  clear e
  simp only [put_zero] at hs
  rw [if_pos (by decide), if_pos (by decide)]
  have tU := At.s (x := blk zb [.int .i64 6, .int .i64 0]) (At.s (x := blk yb tok0) (At.s (x := blk wb [.int .i64 6, .int .i64 0]) (At.s (x := blk xb (tokL 1 p5 2 c5 p6 l6 c6 tag)) (At.s (x := slE p6 l6 c6 5 (cvsV [])) (At.s (x := slE p5 2 c5 1 (ints .u8 [105, 100])) (At.s (x := slE p4 42 c4 1 (ints .u8 B)) (At.s (x := blk nb tok0) (At.z (e := blk ub (tokL 1 p2 2 c2 p3 1 c3 tag2)) (A := slE p3 1 c3 5 (cvsV [⟨1, 1, 0, 0, 0⟩]) :: slE p2 2 c2 1 (ints .u8 [105, 100]) :: blk tb (tokL 1 p1 2 c1 none 0 0 tag) :: slE p1 2 c1 1 (ints .u8 [105, 100]) :: blk ib (ints .u8 [105, 100]) :: slE kp 1 kc 1 (ints .u8 [107]) :: blk r [.map (some m)] :: mapE m [(.int .i64 1, .one (.slice kp 1 kc))] :: blk sb [.int .i64 1, .slice (some ⟨kb, 0, none⟩) 1 1] :: blk kb (ints .u8 [107]) :: A)))))))))
  refine ⟨_, _, _, hs.ld tU rfl, ?_⟩
  rw [if_pos (by decide)]
  have tT : At _ 11 (blk tb (tokL 1 p1 2 c1 none 0 0 tag)) := At.s (x := blk zb [.int .i64 6, .int .i64 0]) (At.s (x := blk yb tok0) (At.s (x := blk wb [.int .i64 6, .int .i64 0]) (At.s (x := blk xb (tokL 1 p5 2 c5 p6 l6 c6 tag)) (At.s (x := slE p6 l6 c6 5 (cvsV [])) (At.s (x := slE p5 2 c5 1 (ints .u8 [105, 100])) (At.s (x := slE p4 42 c4 1 (ints .u8 B)) (At.s (x := blk nb tok0) (At.s (x := blk ub (tokL 1 p2 2 c2 p3 1 c3 tag2)) (At.s (x := slE p3 1 c3 5 (cvsV [⟨1, 1, 0, 0, 0⟩])) (At.s (x := slE p2 2 c2 1 (ints .u8 [105, 100])) (At.z (A := slE p1 2 c1 1 (ints .u8 [105, 100]) :: blk ib (ints .u8 [105, 100]) :: slE kp 1 kc 1 (ints .u8 [107]) :: blk r [.map (some m)] :: mapE m [(.int .i64 1, .one (.slice kp 1 kc))] :: blk sb [.int .i64 1, .slice (some ⟨kb, 0, none⟩) 1 1] :: blk kb (ints .u8 [107]) :: A))))))))))))
  refine ⟨tag2, htl2, tok_row hs tU, tag, htl, tok_row hs tT, ?_⟩
  rw [if_pos (show (!tag2 == tag) = true by rw [hne]; rfl), if_pos (by decide), if_pos (by decide), if_pos (by decide)]
  refine ⟨rfl, ?_⟩
  rw [if_pos (by decide)]
  refine ⟨_, hs.ld (i := 3) (.s (.s (.s .z))) rfl, ?_⟩
  rw [if_pos (by decide)]
  refine ⟨_, _, _, hs.ld (i := 3) (.s (.s (.s .z))) rfl, [105, 100], hs.sv (i := 5) (.s (.s (.s (.s (.s .z))))), ?_⟩
  rw [if_pos (by decide +kernel), if_pos rfl]
  refine ⟨_, hs.ld (i := 0) .z rfl, _, hs.ld (i := 0) .z rfl, ?_⟩
  exact k _ (hs.sub (by (repeat (first | exact List.Sublist.refl _ | apply List.Sublist.cons_cons | apply List.Sublist.cons))))
end
end Go.Proofs.YtijcpgahmbkijaaDoor
end

/- TokenBytes: walked. Own work. -/
section
set_option maxRecDepth 100000
set_option linter.unusedVariables false
namespace Go.Proofs.YtijcpgahmbkijaaDoor
open Go Go.Vc
def outM (key : Int) (id : List Int) (cs : List CvM) (tag : List Int) : List Int := if TokMay key id cs then putM24 key id cs tag else []
def errM24 (key : Int) (id : List Int) (cs : List CvM) : Int := if TokMay key id cs then 0 else 5
theorem gHead_ne (bs : List Int) : ∀ {k : Nat} {e a : Int}, gHead bs k = some (e, a) → e ≠ 0
  | 0, e, a, h => by cases h
  | k + 1, e, a, h => by
    unfold gHead at h
    split at h
    · injection h with h; injection h with h1 h2; omega
    · split at h
      · exact gHead_ne bs h
      · injection h with h; injection h with h1 h2; omega
theorem gCavs_ne (bs : List Int) : ∀ {n at_ : Nat} {cs : List CvM} {e a : Int}, gCavs bs n at_ cs = .error (e, a) → e ≠ 0
  | 0, _, _, e, a, h => by cases h
  | n + 1, at_, cs, e, a, h => by
    unfold gCavs at h
    split at h
    · injection h with h; injection h with h1 h2; omega
    · split at h
      · exact gCavs_ne bs h
      · injection h with h; injection h with h1 h2; omega
theorem tget_ne {bs : List Int} {e a : Int} (h : tgetM bs = .error (e, a)) : e ≠ 0 := by
  unfold tgetM at h
  split at h
  · rename_i hh; injection h with h; subst h; exact gHead_ne bs hh
  · split at h
    · injection h with h; injection h with h1 h2; omega
    · split at h
      · rename_i hh; injection h with h; subst h; exact gCavs_ne bs hh
      · unfold gRest at h
        split at h
        · injection h with h; injection h with h1 h2; omega
        · split at h
          · injection h with h; injection h with h1 h2; omega
          · cases h
theorem gCavs_len (bs : List Int) : ∀ {n at_ a : Nat} {cs cs' : List CvM}, gCavs bs n at_ cs = .ok (a, cs') → cs'.length = cs.length + n
  | 0, _, _, cs, cs', h => by unfold gCavs at h; injection h with h; injection h with h1 h2; rw [← h2]; rfl
  | n + 1, at_, a, cs, cs', h => by
    unfold gCavs at h
    split at h
    · cases h
    · split at h
      · have := gCavs_len bs h
        simp at this
        omega
      · cases h
theorem tget_few {bs : List Int} {T : TkM} (h : tgetM bs = .ok T) : T.cs.length ≤ 32 := by
  unfold tgetM at h
  split at h
  · cases h
  · rename_i hh
    have h7 : standsM 7 (bs.getD 7 0) = true := by
      have : ∀ m, m < 8 → gHead bs (8 - m) = none := by
        intro m
        induction m with
        | zero => intro _; exact hh
        | succ m ih =>
          intro hm
          have := ih (by omega)
          rw [gHead_at bs (by omega)] at this
          split at this
          · cases this
          · split at this
            · exact this
            · cases this
      have := this 7 (by decide)
      rw [gHead_at bs (by decide)] at this
      split at this
      · cases this
      · split at this
        · assumption
        · cases this
    split at h
    · cases h
    · split at h
      · cases h
      · rename_i hc
        have := gCavs_len bs hc
        unfold gRest at h
        split at h
        · cases h
        · split at h
          · cases h
          · injection h with h
            subst h
            simp only [List.length_nil, Nat.zero_add] at this
            have h8 : bs.getD 7 0 ≤ 32 := of_decide_eq_true h7
            dsimp only
            omega
/-- A slice of bytes that came in. -/
def BytesAt (h : H) (p : Option Addr) (t : Nat) : Prop := ∃ q xp xl xc bs, p = some q ∧ hc h (q.add t) = some (.slice xp xl xc) ∧ hsv h xp 1 xl (ints .u8 bs) ∧ isBytes bs ∧ xl ≤ xc ∧ xl < 2 ^ 47
section
variable {h0 h : H} {A : List Ent} {i j d : Nat}
theorem put1_sp {Q : Option Addr → Nat → Nat → Int → H → Prop} {key : Int} {id tag : List Int} {cs : List CvM} {ip cp : Option Addr} {il ic cl cc : Nat} (hs : Sat h0 A h) (ht : tag.length = 32) (hl : cl < 2 ^ 40)
    (ri : ∀ h', Sat h0 A h' → hsv h' ip 1 il (ints .u8 id)) (rc : ∀ h', Sat h0 A h' → hsv h' cp 5 cl (cvsV cs))
    (k : ∀ p c h', (outM key id cs tag).length ≤ c → Sat h0 (slE p (outM key id cs tag).length c 1 (ints .u8 (outM key id cs tag)) :: A) h' → Q p (outM key id cs tag).length c (errM24 key id cs) h') :
    F_token_Put key ip il ic cp cl cc tag Q h := by
  unfold outM errM24 at k
  refine put_sp hs ht hl ri rc ?_ ?_
  · intro g h' hs
    rw [if_neg g, if_neg g] at k
    exact k none 0 h' (by simp) (hs.sl_nil 1 none)
  · intro g p c h' hc hs
    rw [if_pos g, if_pos g] at k
    exact k p c h' hc hs
theorem rput1_sp {Q : Option Addr → Nat → Nat → Int → H → Prop} {key : Int} {id tag : List Int} {cs : List CvM} {ip cp : Option Addr} {il ic cl cc : Nat} (hs : Sat h0 A h) (ht : tag.length = 32) (hl : cl < 2 ^ 40)
    (ri : ∀ h', Sat h0 A h' → hsv h' ip 1 il (ints .u8 id)) (rc : ∀ h', Sat h0 A h' → hsv h' cp 5 cl (cvsV cs))
    (k : ∀ p c h', Sat h0 (slE p (outM key id cs tag).length c 1 (ints .u8 (outM key id cs tag)) :: A) h' → Q p (outM key id cs tag).length c (errM24 key id cs) h') :
    F_portcullisref24_Put key ip il ic cp cl cc tag Q h := by
  unfold outM errM24 at k
  refine rput_sp hs ht hl ri rc ?_ ?_
  · intro g h' hs
    rw [if_neg g, if_neg g] at k
    exact k none 0 h' (hs.sl_nil 1 none)
  · intro g p c h' hs
    rw [if_pos g, if_pos g] at k
    exact k p c h' hs
theorem TokenBytes_sp {Q : Bool → H → Prop} (hg : hc h0 ⟨0, 0, none⟩ = some errTypeV) {key : Int} {id tag : List Int} {cs : List CvM} {ip cp p : Option Addr} {il ic cl cc l c : Nat} (ht : tag.length = 32) (hi : il + 4096 ≤ 2 ^ 47)
    (ri : hsv h0 ip 1 il (ints .u8 id)) (rc : hsv h0 cp 5 cl (cvsV cs)) (hl : l < 2 ^ 47) (rl : ∀ t, t < l → BytesAt h0 p t) (hs : Sat h0 A h)
    (k : ∀ h', Sat h0 [] h' → Q true h') : F_portcullislaw24_TokenBytes key ip il ic cp cl cc tag p l c Q h := by
  unfold F_portcullislaw24_TokenBytes G_portcullislaw24_TokenBytes
  simp only [add_mk, Nat.zero_add, List.append_nil]
  have hcl : cs.length = cl := by have := rc.1; rw [cvsV_len] at this; omega
  have hil : id.length = il := by have := ri.1; simpa using this
  intro tb _ hn; replace hs := Sat.new hs hn; clear hn
  replace hs : Sat h0 (blk tb (tokL key ip il ic cp cl cc tag) :: A) _ := hs
  refine awake24_sp hg hs ?_
  intro h1 hs
  rw [if_neg (by decide)]
  refine ⟨_, hs.ld (i := 0) .z rfl, _, _, _, hs.ld (i := 0) .z rfl, _, _, _, hs.ld (i := 0) .z rfl, tag, ht, tok_row hs (i := 0) .z, ?_⟩
  refine rfew_sp hs ?_
  intro h2 hs
  by_cases cf : cl ≤ 65536
  case neg =>
    rw [if_pos (by simp [cf])]
    exact k _ hs.nil
  rw [if_neg (by simp [cf])]
  refine ⟨_, hs.ld (i := 0) .z rfl, _, _, _, hs.ld (i := 0) .z rfl, _, _, _, hs.ld (i := 0) .z rfl, tag, ht, tok_row hs (i := 0) .z, ?_⟩
  refine lawof_sp (id := id) (cs := cs) hs ht hi cf (fun h' hs' => hs'.base ri) (fun h' hs' => hs'.base rc) ?_
  intro p1 c1 p2 c2 h3 hc1 hs
  refine put1_sp (id := id) (cs := cs) hs ht (by omega) (fun h' hs' => ofId hil hc1 (hs'.sv (i := 1) (.s .z))) (fun h' hs' => hs'.sv (i := 0) .z) ?_
  intro p3 c3 h4 _ hs
  refine ⟨_, hs.ld (i := 3) (.s (.s (.s .z))) rfl, _, _, _, hs.ld (i := 3) (.s (.s (.s .z))) rfl, _, _, _, hs.ld (i := 3) (.s (.s (.s .z))) rfl, tag, ht, tok_row hs (i := 3) (.s (.s (.s .z))), ?_⟩
  refine rput1_sp (id := id) (cs := cs) hs ht (by omega) (fun h' hs' => hs'.base ri) (fun h' hs' => hs'.base rc) ?_
  intro p4 c4 h5 hs
  intro J73 hJ73
  rw [if_neg (by simp)]
  refine ⟨_, hs.sv (i := 1) (.s .z), _, hs.sv (i := 0) .z, ?_⟩
  rw [if_neg (by simp)]
  apply hJ73
  clear hJ73 J73
  replace hs := hs.nil
  intro J hJ
  refine loop_up l (fun t h => Sat h0 [] h) ?_ ?_ 0 _ (by omega) hs
  · intro t h6 htl hs hk
    apply hJ
    rw [ltI_eq, if_pos (by simp; omega)]
    obtain ⟨q, xp, xl, xc, bs, hq, g, rb, hb, hx, hxl⟩ := rl t htl
    refine ⟨q, hq, by omega, by omega, ?_⟩
    simp only [Int.toNat_natCast, Nat.mul_one]
    refine ⟨_, _, _, hc_ext hs.ex g (fun y => y), ?_⟩
    refine get_sp hs hb hx hxl (fun h' hs' => hs'.base rb) ?_ ?_
    · intro e a hea w h7 hs
      intro xb _ hn; replace hs := Sat.new hs hn; clear hn
      refine ⟨Sat.can hs (i := 0) .z (by simp [zeros]), ?_⟩
      intro h8 e8
      replace hs := Sat.wra (xs := tok0) hs (i := 0) .z e8 rfl
      clear e8
      simp only [put_zero] at hs
      refine rget_sp hs hb hx hxl (fun h' hs' => hs'.base rb) ?_ (fun t ht => by rw [hea] at ht; cases ht)
      intro e' a' hea' h9 hs
      rw [hea] at hea'
      injection hea' with hea'
      injection hea' with he ha
      subst he ha
      intro yb _ hn; replace hs := Sat.new hs hn; clear hn
      intro zb _ hn; replace hs := Sat.new hs hn; clear hn
      refine ⟨Sat.can hs (i := 1) (.s .z) (by simp [zeros]), ?_⟩
      intro h10 e10
      replace hs := Sat.wra (xs := tok0) hs (i := 1) (.s .z) e10 rfl
      clear e10
      simp only [put_succ, put_zero] at hs
      refine ⟨Sat.can hs (i := 0) .z (by simp), ?_⟩
      intro h11 e11
      replace hs := Sat.wra (xs := [.int .i64 e, .int .i64 a]) hs (i := 0) .z e11 rfl
      clear e11
      simp only [put_zero] at hs
      refine told24_sp hg hs (i := 3) (.s (.s (.s .z))) (tget_ne hea) ?_
      intro h12 hs
      intro vb _ hn; replace hs := Sat.new hs hn; clear hn
      refine ⟨Sat.can hs (i := 0) .z (by simp), ?_⟩
      intro h13 e13
      replace hs := Sat.wra (xs := [.int .i64 e, .int .i64 a]) hs (i := 0) .z e13 rfl
      clear e13
      simp only [put_zero] at hs
      rw [if_neg (by decide)]
      refine ⟨_, hs.ld (i := 0) .z rfl, _, hs.ld (i := 0) .z rfl, _, hs.ld (i := 1) (.s .z) rfl, _, hs.ld (i := 1) (.s .z) rfl, ?_⟩
      rw [if_neg (by simp)]
      refine ⟨_, hs.ld (i := 3) (.s (.s (.s .z))) rfl, _, _, _, hs.ld (i := 3) (.s (.s (.s .z))) rfl, _, _, _, hs.ld (i := 3) (.s (.s (.s .z))) rfl, _, zeros_len 32, tok_row hs (i := 3) (.s (.s (.s .z))), ?_⟩
      refine ⟨_, hs.ld (i := 2) (.s (.s .z)) rfl, _, _, _, hs.ld (i := 2) (.s (.s .z)) rfl, _, _, _, hs.ld (i := 2) (.s (.s .z)) rfl, _, zeros_len 32, tok_row hs (i := 2) (.s (.s .z)), ?_⟩
      refine back_sp (cs := []) hs (zeros_len 32) (by decide) (fun h' hs' => hsv_nil _ _ _) ?_
      intro p5 c5 h14 hs
      refine ⟨Sat.cs hs (i := 3) (.s (.s (.s .z))) rfl, ?_⟩
      refine rsame_sp (id := []) (cs := []) hs (zeros_len 32) (by decide) (fun h' hs' => hsv_nil _ _ _) (fun h' hs' => hs'.sv (i := 0) .z) (fun h' hs' => hsv_nil _ _ _) (fun h' hs' => hsv_nil _ _ _) ?_
      intro h15 hs
      rw [if_neg (by decide), wrap_succ (by omega)]
      exact hk _ hs.nil
    · intro T hT p5 c5 p6 l6 c6 h7 hl6 hs htt
      intro xb _ hn; replace hs := Sat.new hs hn; clear hn
      refine ⟨Sat.can hs (i := 0) .z (by simp [zeros]), ?_⟩
      intro h8 e8
      replace hs := Sat.wra (xs := tokL T.key p5 T.id.length c5 p6 l6 c6 T.tag) hs (i := 0) .z (by simpa using e8) (by simp [zeros, htt])
      clear e8
      simp only [put_zero] at hs
      refine rget_sp hs hb hx hxl (fun h' hs' => hs'.base rb) (fun e a he => by rw [hT] at he; cases he) ?_
      intro T' hT' p7 c7 p8 l8 c8 h9 hl8 hs _
      rw [hT] at hT'
      injection hT' with hT'
      subst hT'
      intro yb _ hn; replace hs := Sat.new hs hn; clear hn
      intro zb _ hn; replace hs := Sat.new hs hn; clear hn
      refine ⟨Sat.can hs (i := 1) (.s .z) (by simp [zeros]), ?_⟩
      intro h10 e10
      replace hs := Sat.wra (xs := tokL T.key p7 T.id.length c7 p8 l8 c8 T.tag) hs (i := 1) (.s .z) (by simpa using e10) (by simp [zeros, htt])
      clear e10
      simp only [put_succ, put_zero] at hs
      refine ⟨Sat.can hs (i := 0) .z (by simp), ?_⟩
      intro h11 e11
      replace hs := Sat.wra (xs := [.int .i64 0, .int .i64 0]) hs (i := 0) .z e11 rfl
      clear e11
      simp only [put_zero] at hs
      refine told24_nil hs ?_
      intro h12 hs
      intro vb _ hn; replace hs := Sat.new hs hn; clear hn
      refine ⟨Sat.can hs (i := 0) .z (by simp), ?_⟩
      intro h13 e13
      replace hs := Sat.wra (xs := [.int .i64 0, .int .i64 0]) hs (i := 0) .z e13 rfl
      clear e13
      simp only [put_zero] at hs
      rw [if_neg (by decide)]
      refine ⟨_, hs.ld (i := 0) .z rfl, _, hs.ld (i := 0) .z rfl, _, hs.ld (i := 1) (.s .z) rfl, _, hs.ld (i := 1) (.s .z) rfl, ?_⟩
      rw [if_neg (by simp)]
      have tx := At.s (x := blk vb [Value.int .i64 0, .int .i64 0]) (At.s (x := blk zb [Value.int .i64 0, .int .i64 0]) (At.s (x := blk yb (tokL T.key p7 T.id.length c7 p8 l8 c8 T.tag)) (At.s (x := slE p8 l8 c8 5 (cvsV T.cs)) (At.s (x := slE p7 T.id.length c7 1 (ints .u8 T.id)) (At.z (A := slE p6 l6 c6 5 (cvsV T.cs) :: slE p5 T.id.length c5 1 (ints .u8 T.id) :: []) (e := blk xb (tokL T.key p5 T.id.length c5 p6 l6 c6 T.tag)))))))
      refine ⟨_, hs.ld tx rfl, _, _, _, hs.ld tx rfl, _, _, _, hs.ld tx rfl, _, htt, tok_row hs tx, ?_⟩
      refine ⟨_, hs.ld (i := 2) (.s (.s .z)) rfl, _, _, _, hs.ld (i := 2) (.s (.s .z)) rfl, _, _, _, hs.ld (i := 2) (.s (.s .z)) rfl, _, htt, tok_row hs (i := 2) (.s (.s .z)), ?_⟩
      have hb6 : l6 < 2 ^ 40 := by
        have := tget_few hT
        omega
      refine back_sp (cs := T.cs) hs htt hb6 (fun h' hs' => hs'.sv (i := 6) (.s (.s (.s (.s (.s (.s .z))))))) ?_
      intro p9 c9 h14 hs
      refine ⟨Sat.cs hs (i := 3) (.s (.s (.s .z))) (by rw [List.drop_zero, List.take_of_length_le (Nat.le_refl _)]), ?_⟩
      refine rsame_sp (id := T.id) (cs := T.cs) hs htt (by omega) (fun h' hs' => hs'.sv (i := 8) (.s (.s (.s (.s (.s (.s (.s (.s .z))))))))) (fun h' hs' => hs'.sv (i := 0) .z) (fun h' hs' => hs'.sv (i := 5) (.s (.s (.s (.s (.s .z)))))) (fun h' hs' => hs'.sv (i := 4) (.s (.s (.s (.s .z))))) ?_
      intro h15 hs
      rw [if_neg (by decide), wrap_succ (by omega)]
      exact hk _ hs.nil
  · intro h6 hs
    apply hJ
    rw [ltI_eq, if_neg (by simp)]
    exact k _ hs
end
end Go.Proofs.YtijcpgahmbkijaaDoor
end

/- What arguments of the statements are: tokens, bytes. Own work. -/
section
set_option maxRecDepth 100000
set_option linter.unusedVariables false
namespace Go.Proofs.YtijcpgahmbkijaaDoor
open Go Go.Vc Go.ChangeShapes Go.WideShapes Go.ChangeAt Go.RowKit

theorem xByte24 : xsh PP 8 5 = some [.int .u8] := by kernel_rfl
theorem xBytes24 : xsh PP 8 23 = some [.slc 5] := by kernel_rfl
theorem xCav24 : xsh PP 8 66 = some [.int .i64, .int .i64, .int .i64, .int .i64, .int .u64] := by kernel_rfl
theorem xTok24 : xsh PP 8 28 = some [.int .i64, .slc 5, .slc 66, .row .u8 32] := by kernel_rfl
/-- A caveat of a program's types. -/
def CvM.typed (c : CvM) : Prop := has .i64 c.kind ∧ has .i64 c.slot ∧ has .i64 c.frm ∧ has .i64 c.to ∧ has .u64 c.set
section
variable {D : Type} {enc : TypeId × Value → D} {W : World}
theorem bytes24_of {p : Option Addr} {l c : Nat} (h : Sli enc PP W 5 p l c) : ∃ ns : List Int, hsv W.heap p 1 l (ints .u8 ns) ∧ isBytes ns ∧ l ≤ c ∧ l + 4096 ≤ 2 ^ 47 := by
  have hb : Tryd.prog.bytesOf 5 = 1 := by kernel_rfl
  have hc : Tryd.prog.cellsOf 5 = 1 := by kernel_rfl
  obtain ⟨ess, h1, h2, h3, _⟩ := h.els xByte24
  have hlc := h.1
  have hr := h.2.1
  rw [hb] at hr
  rw [hc] at h3
  have key : ∀ ess : List (List Value), (∀ es, es ∈ ess → es.length = Tryd.prog.cellsOf 5 ∧ XM enc PP W [XSh.int .u8] es) → ∃ ns : List Int, ess.flatten = ints .u8 ns ∧ isBytes ns := by
    intro ess
    induction ess with
    | nil => intro _; exact ⟨[], rfl, by intro n hn; simp at hn⟩
    | cons x r ih =>
      intro h
      obtain ⟨ns, e, hn⟩ := ih fun es hes => h es (by simp [hes])
      obtain ⟨n, rest, rfl, hh, hr⟩ := (h x (by simp)).2
      simp only [XM] at hr
      subst hr
      refine ⟨n :: ns, by simp [e], ?_⟩
      intro m hm
      rcases List.mem_cons.1 hm with rfl | hm
      · exact has_u8 hh
      · exact hn m hm
  obtain ⟨ns, e, hn⟩ := key ess h2
  rw [e] at h3
  refine ⟨ns, h3, hn, hlc, ?_⟩
  unfold reachBytes at hr
  omega
theorem cavs_of {p : Option Addr} {l c : Nat} (h : Sli enc PP W 66 p l c) : ∃ cs : List CvM, hsv W.heap p 5 l (cvsV cs) ∧ (∀ c, c ∈ cs → c.typed) ∧ l ≤ c ∧ l * 40 + 4096 ≤ 2 ^ 47 := by
  have hb : Tryd.prog.bytesOf 66 = 40 := by kernel_rfl
  have hc : Tryd.prog.cellsOf 66 = 5 := by kernel_rfl
  obtain ⟨ess, h1, h2, h3, _⟩ := h.els xCav24
  have hlc := h.1
  have hr := h.2.1
  rw [hb] at hr
  rw [hc] at h3
  have key : ∀ ess : List (List Value), (∀ es, es ∈ ess → es.length = Tryd.prog.cellsOf 66 ∧ XM enc PP W [XSh.int .i64, .int .i64, .int .i64, .int .i64, .int .u64] es) → ∃ cs : List CvM, ess.flatten = cvsV cs ∧ ∀ c, c ∈ cs → c.typed := by
    intro ess
    induction ess with
    | nil => intro _; exact ⟨[], rfl, by intro n hn; simp at hn⟩
    | cons x r ih =>
      intro h
      obtain ⟨cs, e, hn⟩ := ih fun es hes => h es (by simp [hes])
      obtain ⟨a, _, rfl, ha, b, _, rfl, hb, c, _, rfl, hc, d, _, rfl, hd, f, _, rfl, hf, hr⟩ := (h x (by simp)).2
      simp only [XM] at hr
      subst hr
      refine ⟨⟨a, b, c, d, f⟩ :: cs, by simp [e, cvsV], ?_⟩
      intro m hm
      rcases List.mem_cons.1 hm with rfl | hm
      · exact ⟨ha, hb, hc, hd, hf⟩
      · exact hn m hm
  obtain ⟨cs, e, hn⟩ := key ess h2
  rw [e] at h3
  refine ⟨cs, h3, hn, hlc, ?_⟩
  unfold reachBytes at hr
  omega
theorem bb_of {p : Option Addr} {l c : Nat} (h : Sli enc PP W 23 p l c) : l < 2 ^ 47 ∧ ∀ t, t < l → BytesAt W.heap p t := by
  have hb : Tryd.prog.bytesOf 23 = 24 := by kernel_rfl
  have hc : Tryd.prog.cellsOf 23 = 1 := by kernel_rfl
  obtain ⟨ess, h1, h2, _, h4⟩ := h.els xBytes24
  have hlc := h.1
  have hr := h.2.1
  rw [hb] at hr
  unfold reachBytes at hr
  refine ⟨by omega, fun t ht => ?_⟩
  obtain ⟨q, hq, g⟩ := h4 t (by omega)
  obtain ⟨xp, xl, xc, rest, e, hh, hrr⟩ := (h2 ess[t] (List.getElem_mem _)).2
  simp only [XM] at hrr
  subst hrr
  rw [e, hc, Nat.mul_one] at g
  obtain ⟨bs, b1, b2, b3, b4⟩ := bytes24_of hh
  have g0 := g 0 _ rfl
  rw [add_zero] at g0
  exact ⟨q, xp, xl, xc, bs, hq, g0, b1, b2, b3, by omega⟩
theorem slice24_of {t e : TypeId} {v : Value} {base : Nat} (u : Tryd.prog.underlying t = some (.slice e)) (h : Rdt enc PP W t v.cells.toList) (ho : Value.okWide PP W .any base t v) : ∃ p l c, v = .slice p l c ∧ Sli enc PP W e p l c := by
  obtain ⟨p, l, c, e1, hs⟩ := Rdt.slice u h
  exact ⟨p, l, c, okw_one (by rw [u]) ho e1, hs⟩
/-- A token that came in. -/
structure TokIn (h : H) (key : Int) (id tag : List Int) (cs : List CvM) (ip : Option Addr) (il : Nat) (cp : Option Addr) (cl : Nat) : Prop where
  key : has .i64 key
  ri : hsv h ip 1 il (ints .u8 id)
  rb : isBytes id
  ii : il + 4096 ≤ 2 ^ 47
  rc : hsv h cp 5 cl (cvsV cs)
  ct : ∀ c, c ∈ cs → c.typed
  cc : cl * 40 + 4096 ≤ 2 ^ 47
  tl : tag.length = 32
  tb : isBytes tag
theorem tok24_of {v : Value} {base : Nat} (h : Rdt enc PP W 28 v.cells.toList) (ho : Value.okWide PP W .any base 28 v) :
    ∃ key id tag cs ip il ic cp cl cc, v = .agg (tokL key ip il ic cp cl cc tag).toArray ∧ TokIn W.heap key id tag cs ip il cp cl := by
  have e := okw_agg (by kernel_rfl) ho
  obtain ⟨key, r1, e1, hk, ip, il, ic, r2, rfl, s2, cp, cl, cc, r3, rfl, s3, tag, r4, rfl, tl, th, hr⟩ := Rdt.xm 8 _ _ _ xTok24 h
  simp only [XM] at hr
  subst hr
  obtain ⟨id, i1, i2, _, i4⟩ := bytes24_of s2
  obtain ⟨cs, c1, c2, _, c4⟩ := cavs_of s3
  refine ⟨key, id, tag, cs, ip, il, ic, cp, cl, cc, ?_, hk, i1, i2, i4, c1, c2, c4, tl, fun x hx => has_u8 (th x hx)⟩
  rw [e]
  congr 1
  rw [← Array.toArray_toList (xs := v.cells), e1, List.append_nil]
theorem ok_tok {key : Int} {tag : List Int} {ip cp : Option Addr} {il ic cl cc : Nat} (ht : tag.length = 32) : (DV.agg [.c (.int .i64 key), .c (.slice ip il ic), .c (.slice cp cl cc), .row .u8 32 tag]).ok := by
  intro y hy
  simp only [List.mem_cons, List.not_mem_nil, or_false] at hy
  rcases hy with rfl | rfl | rfl | rfl
  · rfl
  · rfl
  · rfl
  · exact ht
end
end Go.Proofs.YtijcpgahmbkijaaDoor
end

/- TokenBytes: the bytes of any token; any bytes: the token, or what is wrong first, and where; for every input. -/
section
set_option maxRecDepth 100000
set_option linter.unusedVariables false
namespace Go.Proofs.YtijcpgahmbkijaaDoor
open Go Go.Vc Go.ChangeShapes Go.WideShapes Go.ChangeAt Go.RowKit

theorem TokenBytes_calls {D : Type} {enc : TypeId × Value → D} {W : World} {base : Nat} (hg : hc W.heap ⟨0, 0, none⟩ = some errTypeV) (vs : List Value) (h : ArgsOk enc PP W base [28, 29] vs) : CallsTrue PP 4 vs W := by
  obtain ⟨hl, h⟩ := h
  match vs, hl with
  | [v0, v1], _ =>
  obtain ⟨r0, w0⟩ := h 0 _ v0 rfl rfl
  obtain ⟨r1, w1⟩ := h 1 _ v1 rfl rfl
  obtain ⟨key, id, tag, cs, ip, il, ic, cp, cl, cc, rfl, T⟩ := tok24_of r0 w0
  obtain ⟨p, l, c, rfl, hsl⟩ := slice24_of (e := 23) (by kernel_rfl) r1 w1
  obtain ⟨ll, rl⟩ := bb_of hsl
  have := R_portcullislaw24_TokenBytes [.agg [.c (.int .i64 key), .c (.slice ip il ic), .c (.slice cp cl cc), .row .u8 32 tag], .one (.slice p l c)] (fun rs h' => rs = [DV.one (.bool true)] ∧ Ext none_ W.heap h') W.heap (by
    intro x hx
    simp only [List.mem_cons, List.not_mem_nil, or_false] at hx
    rcases hx with rfl | rfl
    · exact ok_tok T.tl
    · rfl) (by
    show F_portcullislaw24_TokenBytes key ip il ic cp cl cc tag p l c (fun b h' => [DV.one (.bool b)] = [DV.one (.bool true)] ∧ Ext none_ W.heap h') W.heap
    exact TokenBytes_sp hg T.tl T.ii T.ri T.rc ll rl (Sat.init _) fun h' x => ⟨rfl, x.ex⟩)
  have e : [DV.agg [.c (.int .i64 key), .c (.slice ip il ic), .c (.slice cp cl cc), .row .u8 32 tag], .one (.slice p l c)].map DV.flat = [.agg (tokL key ip il ic cp cl cc tag).toArray, .slice p l c] := by
    simp [DV.flat, flats, Ch.flat]
  rw [e] at this
  exact this
theorem TokenBytes_lifted (os : Os) (started : os.Started) (D : Type) (enc : TypeId × Value → D) :
    ReturnsInHanded {} Tryd.checked os 4 .any (fun w args => (Rows.tokenBytesSpec.pre enc Tryd.prog Tryd.f4 [] false w args ∧ laidMetH Tryd.prog laidL w) ∧ sizedMet enc Tryd.prog Tryd.f4 (OpenSpec.ofChange Rows.tokenBytesSpec) false w args)
      (Rows.tokenBytesSpec.post enc Tryd.prog Tryd.f4 false true false false) := by
  refine returnsInHanded_of_change_and (C := Tryd.checked) (X := fun w _ => laidMetH Tryd.prog laidL w) (fun _ _ _ hh h => h.of_heap hh) Tryd.own started (by kernel_rfl) Tryd.func4
    (ChangeSpec.witness_at (enc := enc) (C := Tryd.checked) (os := os) (X := fun w _ => laidMetH Tryd.prog laidL w) false (laidWorld os) #[.agg #[.int .i64 0, .slice none 0 0, .slice none 0 0, .int .u8 0, .int .u8 0, .int .u8 0, .int .u8 0, .int .u8 0, .int .u8 0, .int .u8 0, .int .u8 0, .int .u8 0, .int .u8 0, .int .u8 0, .int .u8 0, .int .u8 0, .int .u8 0, .int .u8 0, .int .u8 0, .int .u8 0, .int .u8 0, .int .u8 0, .int .u8 0, .int .u8 0, .int .u8 0, .int .u8 0, .int .u8 0, .int .u8 0, .int .u8 0, .int .u8 0, .int .u8 0, .int .u8 0, .int .u8 0, .int .u8 0, .int .u8 0], .slice none 0 0] 8 rfl (by kernel_rfl) (by kernel_rfl) (by kernel_rfl) (by kernel_rfl) (by kernel_rfl) (laidWorld_met os _)) ?_
  intro W base args ds gs before hval hW hcnd hsz hL _
  exact law_go (P := Tryd.prog) (fn := Tryd.f4) (s := Rows.tokenBytesSpec) [28, 29] (by kernel_rfl) Tryd.laidOut rfl (by kernel_rfl) (by kernel_rfl) Tryd.ubool
    (fun ds hl => match ds, hl with | [d1, d2], _ => rfl) hval hW hsz (TokenBytes_calls (handle_of_laid hL))

theorem TokenBytes_said : Rows.TokenBytesSaid :=
  OpenClaim.holds_of_wide 4 Tryd.f4 rfl rfl rfl rfl rfl rfl rfl ⟨rfl, rfl, rfl, rfl, rfl⟩ rfl rfl rfl rfl rfl (by kernel_rfl) Tryd.func4 (by kernel_rfl)
    (of_decide_eq_true (by kernel_rfl)) (by unfold Func.isWrapper; first | (rw [if_pos (by decide +kernel)]; kernel_rfl) | (rw [if_neg (by decide +kernel)]; exact ⟨rfl, rfl⟩))
    (fun os started H enc _ => TokenBytes_lifted os started H enc)

theorem TokenBytes_plain (f : FuncId) (fn : Func) (hf : Tryd.pinned.checked.prog.funcNamed "portcullis/portcullislaw24.TokenBytes" = some f) (hfn : Tryd.pinned.checked.prog.funcs[f]? = some fn) :
    true = Tryd.pinned.checked.prog.looks [] ∧ ∀ (j : Nat) t, fn.params[j]? = some t → Tryd.pinned.checked.prog.wantsStandIn t = false := by
  obtain rfl : f = 4 := Option.some.inj ((show Tryd.prog.funcNamed "portcullis/portcullislaw24.TokenBytes" = some 4 by kernel_rfl).symm.trans hf) |>.symm
  obtain rfl : fn = Tryd.f4 := (Option.some.inj (Tryd.func4.symm.trans hfn)).symm
  refine ⟨by kernel_rfl, fun j t ht => ?_⟩
  have hm := Array.mem_of_getElem? ht
  have hm2 : t ∈ ([28, 29] : List Nat) := by
    have : Tryd.f4.params.toList = [28, 29] := by kernel_rfl
    rw [← this]; exact Array.mem_toList_iff.2 hm
  simp only [List.mem_cons, List.not_mem_nil, or_false] at hm2
  rcases hm2 with rfl | rfl <;> (first | kernel_rfl | rfl)

theorem TokenBytes_holds : Rows.TokenBytesCardSaid :=
  Claim7.holds_tied_plain_at .later [] _ _ _ _ TokenBytes_said (fun _ h => by cases h) (by kernel_rfl) (fun _ h => by cases h) tokenBytes_row_tie rfl ⟨rfl, rfl⟩ (by kernel_rfl) rfl TokenBytes_plain (by kernel_rfl)

end Go.Proofs.YtijcpgahmbkijaaDoor
end
