/- Contracts of the document's chip: configs, copies, new ones. Own work. -/
import Derived.Test.YtamfkofcpoglnaaFa2
import Derived.Test.YtamfkofcpoglnaaFa3
import Derived.Test.YtamfkofcpoglnaaFa4
import Derived.Test.YtamfkofcpoglnaaCh8
import Derived.Test.YtamfkofcpoglnaaBy
set_option autoImplicit false
set_option linter.all false
set_option linter.unusedVariables false
namespace Go.Proofs.Ytamfkofcpoglnaa
open Go Go.Vc

section
variable {h0 h : H} {A : List Ent} {i p : Nat} {C : Cm}
theorem rwithin_iff (n a b : Int) (Q : Bool → H → Prop) (h : H) : F_portcullisref04_within n a b Q h = Q (decide (a ≤ n) && decide (n ≤ b)) h := by
  unfold F_portcullisref04_within G_portcullisref04_within
  by_cases h1 : a ≤ n <;> simp [h1]
theorem rMay_sp (c : Cfg) {Q : Int → H → Prop} (hs : Sat h0 A h) (k : ∀ h', Sat h0 A h' → Q c.may? h') :
    F_portcullisref04_May c.cells c.slots c.fuses c.step c.keys c.erases c.area Q h := by
  unfold F_portcullisref04_May G_portcullisref04_May
  simp only [add_mk, Nat.zero_add]
  intro n1 h' hn; replace hs := Sat.new hs hn; clear hn
  replace k := k h' hs.drop
  have kb := hs.blkOf .z
  have hc0 := kb.hc
  intro J hJ
  have w3 : 1 ≤ c.slots ∧ c.slots ≤ 8 → IntKind.i64.wrap (c.slots + 3) = c.slots + 3 := by
    intro h1; rw [IntKind.wrap_i64]; omega
  have fin : ∀ r : Bool, (r = true ↔ (1 ≤ c.slots ∧ c.slots ≤ 8) ∧ (c.slots + 3 ≤ c.cells ∧ c.cells ≤ 256) ∧ (1 ≤ c.fuses ∧ c.fuses ≤ 64) ∧ (1 ≤ c.step ∧ c.step ≤ 65536)) → J [SV.dv (DV.one (Value.bool r))] h' := by
    intro r hr
    apply hJ
    simp only [hc0, rwithin_iff, List.getElem?_cons_succ, List.getElem?_cons_zero, Option.some.injEq, Value.int.injEq, true_and, exists_eq_left', Bool.and_eq_true, decide_eq_true_eq]
    have bad : ¬ c.may → Q 1 h' := fun hm => by unfold Cfg.may? at k; rwa [if_neg hm] at k
    have good : c.may → Q 0 h' := fun hm => by unfold Cfg.may? at k; rwa [if_pos hm] at k
    by_cases h4 : 1 ≤ c.keys ∧ c.keys ≤ 64
    case neg => rw [if_neg h4]; split <;> exact bad fun m => h4 m.keys
    rw [if_pos h4]
    by_cases h5 : 0 ≤ c.erases ∧ c.erases ≤ 65536
    case neg => rw [if_neg h5]; split <;> exact bad fun m => h5 m.erases
    rw [if_pos h5]
    cases r with
    | false =>
      have := mt hr.2 (by simp)
      simp only [Bool.not_false, if_true]
      exact bad fun m => this ⟨m.slots, m.cells, m.fuses, m.step⟩
    | true =>
      obtain ⟨a1, a2, a3, a4⟩ := hr.1 rfl
      rw [if_neg (by simp)]
      by_cases h6 : 0 ≤ c.area ∧ c.area ≤ 64
      · rw [if_neg (by simp; omega)]; exact good ⟨a1, a2, a3, a4, h4, h5, h6⟩
      · rw [if_pos (by simp; omega)]; exact bad fun m => h6 m.area
  simp only [hc0, rwithin_iff, List.getElem?_cons_succ, List.getElem?_cons_zero, Option.some.injEq, Value.int.injEq, true_and, exists_eq_left', Bool.and_eq_true, decide_eq_true_eq]
  split
  case isFalse h1 => exact fin false (by simp; intro a b; exact absurd ⟨a, b⟩ h1)
  rename_i h1
  rw [w3 h1]
  split
  case isFalse h2 => exact fin false (by simp; intro _ _ a b; exact absurd ⟨a, b⟩ h2)
  rename_i h2
  split
  case isFalse h3 => exact fin false (by simp; intro _ _ _ _ a b; exact absurd ⟨a, b⟩ h3)
  rename_i h3
  refine fin _ ?_
  simp only [Bool.and_eq_true, decide_eq_true_eq]
  exact ⟨fun h4 => ⟨h1, h2, h3, h4⟩, fun m => m.2.2.2⟩

theorem rBlank_sp {Q : List Int → H → Prop} (hs : Sat h0 A h) (k : ∀ h', Sat h0 A h' → Q blankCell h') : F_portcullisref04_Blank Q h := by
  unfold F_portcullisref04_Blank G_portcullisref04_Blank
  simp only [add_mk, Nat.zero_add, List.append_nil]
  (intro _ _ hn; replace hs := Sat.new hs hn; clear hn)
  (intro _ _ hn; replace hs := Sat.new hs hn; clear hn)
  (refine ⟨Sat.can hs (by (repeat (first | exact At.z | apply At.s))) (by simp), ?_⟩; intro _ e; replace hs := Sat.wra hs (by (repeat (first | exact At.z | apply At.s))) e (by simp [*]); clear e; simp only [put] at hs)
  intro J hJ
  refine loop_up 32 (fun i h => Sat h0 (blk _ (ints .u8 (mapTo (fun _ _ => 255) i (zeros 32))) :: blk _ (ints .u8 (zeros 32)) :: A) h) ?_ ?_ 0 _ (by omega) (by rw [mapTo_zero]; exact hs)
  · intro j h7 hjl hs hk'
    apply hJ
    rw [ltI_eq, if_pos (by simp; omega)]
    simp only [Int.toNat_natCast, Nat.mul_one]
    refine ⟨by omega, by omega, hs.can .z (by simp; omega), ?_⟩
    intro h8 e8
    replace hs := hs.wr .z e8
    rw [wrap_succ (by omega)]
    refine hk' _ ?_
    simp only [splice_cons, splice_nil, ints_set, put] at hs
    rw [mapTo_succ (fun _ _ => 255) j (zeros 32) (by simpa using hjl)] at hs
    exact hs
  · intro h7 hs
    apply hJ
    rw [ltI_eq, if_neg (by simp)]
    rw [mapTo_const 32 255 _ (by simp)] at hs
    refine ⟨blankCell, by simp [blankCell], hs.row0 .z, ?_⟩
    have : (ints .u8 blankCell).length = 32 := by simp [blankCell]
    refine ⟨hs.can (.s .z) (by simp), ?_⟩
    intro _ e
    replace hs := Sat.wra hs (.s .z) e (by simp [blankCell])
    simp only [put] at hs
    refine ⟨blankCell, by simp [blankCell], hs.row0 (.s .z), k _ hs.drop.drop⟩

theorem CopyState_sp {a b c : Sl} {s : St} {Q : Option Addr → Nat → Nat → Option Addr → Nat → Nat → Option Addr → Nat → Nat → H → Prop} (hs : Sat h0 A h) (rd : ∀ h', Sat h0 A h' → RdS h' a b c s) (sm : s.small)
    (k : ∀ (a' b' c' : Sl) h', Sat h0 (stL a' b' c' s ++ A) h' → Q a'.1 a'.2.1 a'.2.2 b'.1 b'.2.1 b'.2.2 c'.1 c'.2.1 c'.2.2 h') :
    F_portcullisref04_CopyState a.1 a.2.1 a.2.2 b.1 b.2.1 b.2.2 c.1 c.2.1 c.2.2 Q h := by
  unfold F_portcullisref04_CopyState G_portcullisref04_CopyState
  simp only [add_mk, Nat.zero_add]
  intro n1 _ hn; replace hs := Sat.new hs hn; clear hn
  intro n2 _ hn; replace hs := Sat.new hs hn; clear hn
  intro J hJ
  have rd0 := rd _ hs.drop.drop
  have l2 : s.erases.length = b.2.1 := by have := rd0.er.1; simpa using this
  have l3 : s.blown.length = c.2.1 := by have := rd0.bl.1; simpa using this
  have s2 := sm.erases
  have s3 := sm.blown
  have fin : ∀ q b2 b3 c2 c3 h', Sat h0 (blk q [.slice none 0 0, .slice b2 b.2.1 b3, .slice c2 c.2.1 c3] :: sE (b2, b.2.1, b3) 1 (ints .i64 s.erases) :: sE (c2, c.2.1, c3) 1 (bools s.blown) ::
      blk n1 [a.v, b.v, c.v] :: blk n2 [.slice none 0 0, .slice none 0 0, .slice none 0 0] :: A) h' → J [SV.dv (DV.addr ⟨q, 0, none⟩)] h' := by
    intro q b2 b3 c2 c3 h' hs
    apply hJ
    intro J2 hJ2
    have hlen := (rd _ hs.drop.drop.drop.drop.drop).pg.len
    replace hs := hs.mat_nil 32 none
    refine loop_up a.2.1 (fun i h => ∃ hd : Sl, hd.2.1 = i ∧ Sat h0 (matE 32 hd (s.pages.take i) :: blk q [hd.v, .slice b2 b.2.1 b3, .slice c2 c.2.1 c3] :: sE (b2, b.2.1, b3) 1 (ints .i64 s.erases) :: sE (c2, c.2.1, c3) 1 (bools s.blown) ::
      blk n1 [a.v, b.v, c.v] :: blk n2 [.slice none 0 0, .slice none 0 0, .slice none 0 0] :: A) h) ?_ ?_ 0 _ (by omega) ⟨_, rfl, hs⟩
    · rintro i h1 hi ⟨⟨hp, hl, hc⟩, e, hs⟩ hk
      simp only at e; subst e
      apply hJ2
      refine ⟨_, _, _, Sat.ld hs (by (repeat (first | exact At.z | apply At.s))) (by rfl), ?_⟩
      rw [ltI_eq, if_pos (by simp; omega)]
      have hlt : hl < s.pages.length := by omega
      obtain ⟨q', x, e1, e2, e3⟩ := (rd _ hs.drop.drop.drop.drop.drop.drop).pg.at hlt
      refine ⟨_, _, _, Sat.ld hs (by (repeat (first | exact At.z | apply At.s))) (by rfl), ?_⟩
      refine ⟨_, _, _, Sat.ld hs (by (repeat (first | exact At.z | apply At.s))) (by rfl), ?_⟩
      obtain ⟨ap, al, ac⟩ := a
      dsimp only at e1
      subst e1
      refine ⟨_, rfl, by omega, by omega, ?_⟩
      refine ⟨_, _, _, e2, ?_⟩
      intro n36 h37 hn
      have e2' := hcs_one (hc_ext hn.ext e2 (fun x => x))
      have e3' := hsv_ext hn.ext e3 (fun _ _ x => x)
      replace hs := Sat.new hs hn; clear hn
      refine ⟨e2', ?_⟩
      refine ⟨Sat.cs hs (by (repeat (first | exact At.z | apply At.s))) (by rfl), ?_⟩
      refine ⟨Sat.cs hs (by (repeat (first | exact At.z | apply At.s))) (by rfl), ?_⟩
      have hr := sm.rows _ (List.getElem_mem hlt)
      have hx := e3.1
      simp only [ints_length] at hx
      refine ⟨_, e3', Sat.app_new hs e3'.1 (by simp) (ints_one _ _) (by omega) ?_⟩
      intro p' c' h2 hs
      refine ⟨Sat.cs hs (by (repeat (first | exact At.z | apply At.s))) (by rfl), ?_⟩
      (intro _ _ hn; replace hs := Sat.new hs hn; clear hn)
      refine ⟨Sat.cs hs (by (repeat (first | exact At.z | apply At.s))) (by rfl), ?_⟩
      refine ⟨_, Sat.bv hs (.z) (by simp) (by simp), ?_⟩
      replace hs := Sat.front (e := sE (p', x.2.1, c') 32 _) hs (.s .z)
      have hpl := sm.pages
      refine Sat.app_row hs (i := 2) (.s (.s .z)) (by dsimp only; omega) ?_
      intro p2 c2' h4 hs
      simp only [put, del] at hs
      (refine ⟨Sat.can hs (by (repeat (first | exact At.z | apply At.s))) (by simp), ?_⟩; intro _ e; replace hs := Sat.wr hs (by (repeat (first | exact At.z | apply At.s))) e; clear e; simp only [put, splice, List.set] at hs)
      rw [wrap_succ (by omega)]
      refine hk _ ⟨(p2, hl + 1, c2'), rfl, ?_⟩
      rw [List.take_succ_eq_append_getElem hlt]
      exact hs.sub (by (repeat (first | exact List.Sublist.refl _ | apply List.Sublist.cons_cons | apply List.Sublist.cons)))
    · rintro h1 ⟨⟨hp, hl, hc⟩, e, hs⟩
      simp only at e; subst e
      apply hJ2
      refine ⟨_, _, _, Sat.ld hs (by (repeat (first | exact At.z | apply At.s))) (by rfl), ?_⟩
      rw [ltI_eq, if_neg (by simp)]
      (repeat first | refine ⟨_, Sat.ld hs (by (repeat (first | exact At.z | apply At.s))) (by rfl), ?_⟩ | refine ⟨_, _, _, Sat.ld hs (by (repeat (first | exact At.z | apply At.s))) (by rfl), ?_⟩ | (intro _ _ hn; replace hs := Sat.new hs hn; clear hn) | refine ⟨Sat.cs hs (by (repeat (first | exact At.z | apply At.s))) (by rfl), ?_⟩ | (refine ⟨Sat.can hs (by (repeat (first | exact At.z | apply At.s))) (by simp), ?_⟩; intro _ e; replace hs := Sat.wr hs (by (repeat (first | exact At.z | apply At.s))) e; clear e; simp only [put, splice, List.set] at hs))
      refine k (hp, _, hc) (b2, _, b3) (c2, _, c3) _ ?_
      rw [← hlen, List.take_length] at hs
      replace hs := Sat.front hs (e := blk n2 _) (by (repeat (first | exact At.z | apply At.s)))
      replace hs := Sat.front hs (e := blk n1 _) (by (repeat (first | exact At.z | apply At.s)))
      replace hs := Sat.front hs (e := blk q _) (by (repeat (first | exact At.z | apply At.s)))
      simp only [del] at hs
      have := hs.drop.drop.drop
      rw [hlen] at this
      exact this
  repeat' (first
    | refine ⟨_, Sat.ld hs (by (repeat (first | exact At.z | apply At.s))) (by rfl), ?_⟩
    | refine ⟨_, _, _, Sat.ld hs (by (repeat (first | exact At.z | apply At.s))) (by rfl), ?_⟩
    | (intro _ _ hn; replace hs := Sat.new hs hn; clear hn)
    | refine ⟨Sat.cs hs (by (repeat (first | exact At.z | apply At.s))) (by rfl), ?_⟩
    | (refine ⟨Sat.can hs (by (repeat (first | exact At.z | apply At.s))) (by simp), ?_⟩; intro _ e; replace hs := Sat.wr hs (by (repeat (first | exact At.z | apply At.s))) e; clear e; simp only [put, splice, List.set] at hs)
    | (refine ⟨_, (rd _ (hs.sub (by (repeat (first | exact List.Sublist.refl _ | apply List.Sublist.cons_cons | apply List.Sublist.cons))))).er, Sat.app_new hs (by simp; omega) rfl (ints_one _ _) (by omega) ?_⟩; intro _ _ _ hs)
    | (refine ⟨_, (rd _ (hs.sub (by (repeat (first | exact List.Sublist.refl _ | apply List.Sublist.cons_cons | apply List.Sublist.cons))))).bl, Sat.app_new hs (by simp; omega) rfl (bools_one _) (by omega) ?_⟩; intro _ _ _ hs)
    | refine And.intro ?_ ?_)
  all_goals
    replace hs := Sat.front hs (e := blk n2 _) (by (repeat (first | exact At.z | apply At.s)))
    replace hs := Sat.front hs (e := blk n1 _) (by (repeat (first | exact At.z | apply At.s)))
    replace hs := Sat.front hs (e := slE _ _ _ 1 (bools _)) (by (repeat (first | exact At.z | apply At.s)))
    replace hs := Sat.front hs (e := slE _ _ _ 1 (ints .i64 _)) (by (repeat (first | exact At.z | apply At.s)))
    replace hs := Sat.front hs (e := blk _ [.slice none 0 0, .slice _ b.2.1 _, .slice _ c.2.1 _]) (by (repeat (first | exact At.z | apply At.s)))
    simp only [del] at hs
    exact fin _ _ _ _ _ _ (hs.sub (by (repeat (first | exact List.Sublist.refl _ | apply List.Sublist.cons_cons | apply List.Sublist.cons))))
end
end Go.Proofs.Ytamfkofcpoglnaa

/- Contracts of the document's chip: new ones, laid ones, copies. Own work. -/
set_option autoImplicit false
set_option linter.unusedVariables false
namespace Go.Proofs.Ytamfkofcpoglnaa
open Go Go.Vc

section
variable {h0 h : H} {A : List Ent} {i p : Nat} {C : Cm}
theorem wnp {c : Cfg} (m : c.may) : IntKind.i64.wrap (2 + IntKind.i64.wrap (2 * c.area)) = c.np := by
  have := m.area; unfold Cfg.np; simp only [IntKind.wrap_i64]; omega
theorem wnf {c : Cfg} (m : c.may) : IntKind.i64.wrap (IntKind.i64.wrap (c.slots * c.fuses) + c.keys) = c.nf := by
  have h1 := m.slots; have h2 := m.fuses; have h3 := m.keys
  have e1 : 0 ≤ c.slots * c.fuses := Int.mul_nonneg (by omega) (by omega)
  have e2 : c.slots * c.fuses ≤ 8 * 64 := Int.mul_le_mul (by omega) (by omega) (by omega) (by omega)
  unfold Cfg.nf; simp only [IntKind.wrap_i64]; omega
theorem rep_set {α : Type} (n i : Nat) (X Y : List α) (hX : X.length = 32) (hi : i < n) (hY : Y.length = 32) :
    (List.replicate i X).flatten ++ X ++ (List.replicate (n - (i + 1)) Y).flatten = (List.replicate (i + 1) X).flatten ++ (List.replicate (n - (i + 1)) Y).flatten := by
  rw [rep_add i 1 X]; simp
theorem fresh_sp (c : Cfg) (hm : c.may) {Q : Option Addr → Nat → Nat → Option Addr → Nat → Nat → Option Addr → Nat → Nat → H → Prop} (hs : Sat h0 A h)
    (k : ∀ (a' b' c' : Sl) h', Sat h0 (stL a' b' c' (freshSt c) ++ A) h' → Q a'.1 a'.2.1 a'.2.2 b'.1 b'.2.1 b'.2.2 c'.1 c'.2.1 c'.2.2 h') :
    F_portcullisref04_fresh c.cells c.slots c.fuses c.step c.keys c.erases c.area Q h := by
  unfold F_portcullisref04_fresh G_portcullisref04_fresh
  simp only [add_mk, Nat.zero_add, List.append_nil]
  intro g _ hn; replace hs := Sat.new hs hn; clear hn
  intro n2 _ hn; replace hs := Sat.new hs hn; clear hn
  intro J hJ
  have hnp := hm.np
  have hnf := hm.nf
  have hmc := hm.cells
  have hms := hm.slots
  have fin : ∀ p a b h', Sat h0 (blk p [.slice none 0 0, .slice (some ⟨a, 0, none⟩) c.np.toNat c.np.toNat, .slice (some ⟨b, 0, none⟩) c.nf.toNat c.nf.toNat] :: blk a (List.replicate c.np.toNat [Value.int .i64 0]).flatten :: blk b (List.replicate c.nf.toNat [Value.bool false]).flatten ::
      blk g c.vals :: blk n2 [.slice none 0 0, .slice none 0 0, .slice none 0 0] :: A) h' → J [SV.dv (DV.addr ⟨p, 0, none⟩)] h' := by
    intro p a b h' hs
    apply hJ
    simp only [Cfg.vals] at hs
    intro J2 hJ2
    replace hs := hs.mat_nil 32 none
    refine loop_up c.np.toNat (fun i h => ∃ hd : Sl, hd.2.1 = i ∧ Sat h0 (matE 32 hd (List.replicate i (blankRow c)) :: blk p [hd.v, .slice (some ⟨a, 0, none⟩) c.np.toNat c.np.toNat, .slice (some ⟨b, 0, none⟩) c.nf.toNat c.nf.toNat] :: blk a (List.replicate c.np.toNat [Value.int .i64 0]).flatten :: blk b (List.replicate c.nf.toNat [Value.bool false]).flatten ::
      blk g c.vals :: blk n2 [.slice none 0 0, .slice none 0 0, .slice none 0 0] :: A) h) ?_ ?_ 0 _ (by omega) ⟨_, rfl, hs⟩
    · rintro i h1 hi ⟨⟨hp, hl, hc⟩, e, hs⟩ hk
      simp only at e; subst e
      apply hJ2
      simp only [Cfg.vals] at hs
      refine ⟨_, Sat.ld hs (by (repeat (first | exact At.z | apply At.s))) (by rfl), ?_⟩
      rw [wnp hm, ltI_eq, if_pos (by simp; omega)]
      refine ⟨_, Sat.ld hs (by (repeat (first | exact At.z | apply At.s))) (by rfl), ?_⟩
      refine ⟨by omega, by omega, by omega, by omega, ?_⟩
      intro nr _ hn; replace hs := Sat.new hs hn; clear hn
      intro J3 hJ3
      have hrl : ∀ i, ((List.replicate i blankCell).flatten ++ (List.replicate (c.cells.toNat - i) (zeros 32)).flatten).length = i * 32 + (c.cells.toNat - i) * 32 := fun i => by
        simp [blankCell]
      refine loop_up c.cells.toNat (fun i h => Sat h0 (blk nr (ints .u8 ((List.replicate i blankCell).flatten ++ (List.replicate (c.cells.toNat - i) (zeros 32)).flatten)) :: matE 32 (hp, hl, hc) (List.replicate hl (blankRow c)) :: blk p [.slice hp hl hc, .slice (some ⟨a, 0, none⟩) c.np.toNat c.np.toNat, .slice (some ⟨b, 0, none⟩) c.nf.toNat c.nf.toNat] :: blk a (List.replicate c.np.toNat [Value.int .i64 0]).flatten :: blk b (List.replicate c.nf.toNat [Value.bool false]).flatten ::
        blk g c.vals :: blk n2 [.slice none 0 0, .slice none 0 0, .slice none 0 0] :: A) h) ?_ ?_ 0 _ (by omega) ?_
      · intro j h2 hj hs hk2
        apply hJ3
        simp only [Cfg.vals] at hs
        refine ⟨_, Sat.ld hs (by (repeat (first | exact At.z | apply At.s))) (by rfl), ?_⟩
        rw [ltI_eq, if_pos (by simp; omega)]
        refine rBlank_sp hs ?_
        intro h3 hs
        refine ⟨_, rfl, by omega, by omega, ?_⟩
        simp only [add_mk, Nat.zero_add, Int.toNat_natCast]
        refine ⟨hs.can .z (by rw [ints_length, hrl]; omega), ?_⟩
        intro h4 e4
        replace hs := hs.wr .z e4
        rw [wrap_succ (by omega)]
        refine hk2 _ ?_
        have esp : splice (ints .u8 ((List.replicate j blankCell).flatten ++ (List.replicate (c.cells.toNat - j) (zeros 32)).flatten)) (j * 32) (ints .u8 blankCell) = ints .u8 ((List.replicate (j + 1) blankCell).flatten ++ (List.replicate (c.cells.toNat - (j + 1)) (zeros 32)).flatten) := by
          have e1 : (List.replicate (c.cells.toNat - j) (zeros 32)).flatten = zeros 32 ++ (List.replicate (c.cells.toNat - (j + 1)) (zeros 32)).flatten := by
            rw [show c.cells.toNat - j = 1 + (c.cells.toNat - (j + 1)) by omega, rep_add]; simp
          have e2 : (ints .u8 (List.replicate j blankCell).flatten).length = j * 32 := by simp [blankCell]
          rw [e1, ints_append, ints_append, ← List.append_assoc, ← e2, splice_append _ _ _ _ (by simp [blankCell]), rep_add j 1]
          simp
        rw [esp] at hs
        exact hs
      · intro h2 hs
        apply hJ3
        simp only [Cfg.vals] at hs
        refine ⟨_, Sat.ld hs (by (repeat (first | exact At.z | apply At.s))) (by rfl), ?_⟩
        rw [ltI_eq, if_neg (by simp; omega)]
        refine ⟨_, _, _, Sat.ld hs (by (repeat (first | exact At.z | apply At.s))) (by rfl), ?_⟩
        intro nh _ hn; replace hs := Sat.new hs hn; clear hn
        refine ⟨_, Sat.bv hs (.z) (by simp) (by simp), ?_⟩
        replace hs := hs.as_sl (i := 1) (l := c.cells.toNat) (sz := 32) (.s .z) (by rw [ints_length, hrl]; omega) (ints_one _ _)
        simp only [put] at hs
        replace hs := Sat.front (e := sE (some ⟨nr, 0, none⟩, c.cells.toNat, c.cells.toNat) 32 _) hs (.s .z)
        refine Sat.app_row hs (i := 1) (.s .z) (by omega) ?_
        intro p2 c2' h4 hs
        simp only [put, del] at hs
        (refine ⟨Sat.can hs (by (repeat (first | exact At.z | apply At.s))) (by simp), ?_⟩; intro _ e; replace hs := Sat.wr hs (by (repeat (first | exact At.z | apply At.s))) e; clear e; simp only [put, splice, List.set] at hs)
        rw [wrap_succ (by omega)]
        refine hk _ ⟨(p2, hl + 1, c2'), rfl, ?_⟩
        have e1 : (List.replicate c.cells.toNat blankCell).flatten ++ (List.replicate (c.cells.toNat - c.cells.toNat) (zeros 32)).flatten = blankRow c := by simp [blankRow]
        rw [e1] at hs
        rw [List.replicate_succ']
        exact hs.sub (by (repeat (first | exact List.Sublist.refl _ | apply List.Sublist.cons_cons | apply List.Sublist.cons)))
      · have e0 : (List.replicate c.cells.toNat (ints .u8 (zeros 32))).flatten = ints .u8 ((List.replicate 0 blankCell).flatten ++ (List.replicate (c.cells.toNat - 0) (zeros 32)).flatten) := by
          simp [ints, List.map_flatten]
        rw [e0] at hs
        exact hs
    · rintro h1 ⟨⟨hp, hl, hc⟩, e, hs⟩
      simp only at e; subst e
      apply hJ2
      simp only [Cfg.vals] at hs
      refine ⟨_, Sat.ld hs (by (repeat (first | exact At.z | apply At.s))) (by rfl), ?_⟩
      rw [wnp hm, ltI_eq, if_neg (by simp; omega)]
      (repeat first | refine ⟨_, Sat.ld hs (by (repeat (first | exact At.z | apply At.s))) (by rfl), ?_⟩ | refine ⟨_, _, _, Sat.ld hs (by (repeat (first | exact At.z | apply At.s))) (by rfl), ?_⟩ | (intro _ _ hn; replace hs := Sat.new hs hn; clear hn) | refine ⟨Sat.cs hs (by (repeat (first | exact At.z | apply At.s))) (by rfl), ?_⟩ | (refine ⟨Sat.can hs (by (repeat (first | exact At.z | apply At.s))) (by simp), ?_⟩; intro _ e; replace hs := Sat.wr hs (by (repeat (first | exact At.z | apply At.s))) e; clear e; simp only [put, splice, List.set] at hs))
      refine k (hp, _, hc) (some ⟨a, 0, none⟩, _, _) (some ⟨b, 0, none⟩, _, _) _ ?_
      have eb : (List.replicate c.nf.toNat [Value.bool false]).flatten = bools (freshSt c).blown := by simp [freshSt, bools]
      have ea : (List.replicate c.np.toNat [Value.int .i64 0]).flatten = ints .i64 (freshSt c).erases := by simp [freshSt, zeros, ints]
      rw [ea, eb] at hs
      replace hs := Sat.front hs (e := blk p _) (by (repeat (first | exact At.z | apply At.s)))
      replace hs := Sat.front hs (e := blk g _) (by (repeat (first | exact At.z | apply At.s)))
      replace hs := Sat.front hs (e := blk n2 _) (by (repeat (first | exact At.z | apply At.s)))
      simp only [del] at hs
      replace hs := hs.drop.drop.drop
      replace hs := hs.as_sl (i := 1) (l := c.np.toNat) (sz := 1) (.s .z) (by simp [freshSt]) (ints_one _ _)
      replace hs := hs.as_sl (i := 2) (l := c.nf.toNat) (sz := 1) (.s (.s .z)) (by simp [freshSt]) (bools_one _)
      exact hs
  (repeat first | refine ⟨_, Sat.ld hs (by (repeat (first | exact At.z | apply At.s))) (by rfl), ?_⟩ | refine ⟨_, _, _, Sat.ld hs (by (repeat (first | exact At.z | apply At.s))) (by rfl), ?_⟩ | (intro _ _ hn; replace hs := Sat.new hs hn; clear hn) | refine ⟨Sat.cs hs (by (repeat (first | exact At.z | apply At.s))) (by rfl), ?_⟩ | (refine ⟨Sat.can hs (by (repeat (first | exact At.z | apply At.s))) (by simp), ?_⟩; intro _ e; replace hs := Sat.wr hs (by (repeat (first | exact At.z | apply At.s))) e; clear e; simp only [put, splice, List.set] at hs))
  simp only [wnp hm, wnf hm]
  repeat' (first
    | refine ⟨_, Sat.ld hs (by (repeat (first | exact At.z | apply At.s))) (by rfl), ?_⟩
    | (intro _ _ hn; replace hs := Sat.new hs hn; clear hn)
    | refine ⟨Sat.cs hs (by (repeat (first | exact At.z | apply At.s))) (by rfl), ?_⟩
    | (refine ⟨Sat.can hs (by (repeat (first | exact At.z | apply At.s))) (by simp), ?_⟩; intro _ e; replace hs := Sat.wr hs (by (repeat (first | exact At.z | apply At.s))) e; clear e; simp only [put, splice, List.set] at hs)
    | refine ⟨by omega, ?_⟩
    | refine And.intro ?_ ?_)
  all_goals
    replace hs := Sat.front hs (e := blk n2 _) (by (repeat (first | exact At.z | apply At.s)))
    replace hs := Sat.front hs (e := blk g _) (by (repeat (first | exact At.z | apply At.s)))
    replace hs := Sat.front hs (e := blk _ (List.replicate c.nf.toNat [Value.bool false]).flatten) (by (repeat (first | exact At.z | apply At.s)))
    replace hs := Sat.front hs (e := blk _ (List.replicate c.np.toNat [Value.int .i64 0]).flatten) (by (repeat (first | exact At.z | apply At.s)))
    replace hs := Sat.front hs (e := blk _ [Value.slice none 0 0, Value.slice (some ⟨_, 0, none⟩) _ _, Value.slice (some ⟨_, 0, none⟩) _ _]) (by (repeat (first | exact At.z | apply At.s)))
    exact fin _ _ _ _ hs
theorem rNew_sp (c : Cfg) {Q : Option Addr → Int → H → Prop} (hs : Sat h0 A h)
    (k1 : ¬ c.may → ∀ h', Sat h0 A h' → Q none 1 h')
    (k2 : c.may → ∀ p h', Sat h0 (chipE p (freshC c) :: A) h' → Q (some ⟨p, 0, none⟩) 0 h') :
    F_portcullisref04_New c.cells c.slots c.fuses c.step c.keys c.erases c.area Q h := by
  unfold F_portcullisref04_New G_portcullisref04_New
  simp only [add_mk, Nat.zero_add]
  intro g _ hn; replace hs := Sat.new hs hn; clear hn
  (repeat first | refine ⟨_, Sat.ld hs (by (repeat (first | exact At.z | apply At.s))) (by rfl), ?_⟩ | refine ⟨_, _, _, Sat.ld hs (by (repeat (first | exact At.z | apply At.s))) (by rfl), ?_⟩ | (intro _ _ hn; replace hs := Sat.new hs hn; clear hn) | refine ⟨Sat.cs hs (by (repeat (first | exact At.z | apply At.s))) (by rfl), ?_⟩ | (refine ⟨Sat.can hs (by (repeat (first | exact At.z | apply At.s))) (by simp), ?_⟩; intro _ e; replace hs := Sat.wr hs (by (repeat (first | exact At.z | apply At.s))) e; clear e; simp only [put, splice, List.set] at hs))
  refine rMay_sp c hs ?_
  intro h1 hs
  unfold Cfg.may?
  by_cases hm : c.may
  case neg =>
    rw [if_neg hm, if_pos (by decide)]
    exact k1 hm _ hs.drop
  rw [if_pos hm, if_neg (by decide)]
  (repeat first | refine ⟨_, Sat.ld hs (by (repeat (first | exact At.z | apply At.s))) (by rfl), ?_⟩ | refine ⟨_, _, _, Sat.ld hs (by (repeat (first | exact At.z | apply At.s))) (by rfl), ?_⟩ | (intro _ _ hn; replace hs := Sat.new hs hn; clear hn) | refine ⟨Sat.cs hs (by (repeat (first | exact At.z | apply At.s))) (by rfl), ?_⟩ | (refine ⟨Sat.can hs (by (repeat (first | exact At.z | apply At.s))) (by simp), ?_⟩; intro _ e; replace hs := Sat.wr hs (by (repeat (first | exact At.z | apply At.s))) e; clear e; simp only [put, splice, List.set] at hs))
  refine fresh_sp c hm hs ?_
  intro a b c' h2 hs
  replace hs : Sat h0 (matE 32 a (freshSt c).pages :: sE b 1 (ints .i64 (freshSt c).erases) :: sE c' 1 (bools (freshSt c).blown) :: blk g c.vals :: A) h2 := hs
  simp only [Cfg.vals] at hs
  (repeat first | refine ⟨_, Sat.ld hs (by (repeat (first | exact At.z | apply At.s))) (by rfl), ?_⟩ | refine ⟨_, _, _, Sat.ld hs (by (repeat (first | exact At.z | apply At.s))) (by rfl), ?_⟩ | (intro _ _ hn; replace hs := Sat.new hs hn; clear hn) | refine ⟨Sat.cs hs (by (repeat (first | exact At.z | apply At.s))) (by rfl), ?_⟩ | (refine ⟨Sat.can hs (by (repeat (first | exact At.z | apply At.s))) (by simp), ?_⟩; intro _ e; replace hs := Sat.wr hs (by (repeat (first | exact At.z | apply At.s))) e; clear e; simp only [put, splice, List.set] at hs))
  refine k2 hm _ _ ?_
  replace hs := hs.sl_nil 1 none
  replace hs := Sat.front hs (e := slE _ _ _ 1 (bools _)) (by (repeat (first | exact At.z | apply At.s)))
  replace hs := Sat.front hs (e := slE _ _ _ 1 (ints .i64 _)) (by (repeat (first | exact At.z | apply At.s)))
  replace hs := Sat.front hs (e := matE 32 _ _) (by (repeat (first | exact At.z | apply At.s)))
  replace hs := Sat.front hs (e := blk _ [_, _, _, _, _, _, _, _, _, _, _, _, _, _]) (by (repeat (first | exact At.z | apply At.s)))
  simp only [del] at hs
  exact (chip_make (C := freshC c) (a := a) (b := b) (c := c') (m := (none, 0, 0)) (freshC_ok hm) hs).sub (by (repeat (first | exact List.Sublist.refl _ | apply List.Sublist.cons_cons | apply List.Sublist.cons)))
end
end Go.Proofs.Ytamfkofcpoglnaa

/- Contracts of the document's chip: its methods. Own work. -/
set_option autoImplicit false
set_option linter.unusedVariables false
namespace Go.Proofs.Ytamfkofcpoglnaa
open Go Go.Vc

/-- The document's chip: as the program's, but that a mask which is used up may stay. -/
structure RefW (C : Cm) (w : Pl × List Int) : Prop where
  ok : C.ok
  b : bytesOk w.2
  l : w.2.length ≤ 2 ^ 47
  m : 0 ≤ C.left → w.2 = C.mask
abbrev refL (p : Nat) (C : Cm) (w : Pl × List Int) : List Ent := [blk p (C.cells w.1.a w.1.b w.1.c w.1.m), matE 32 w.1.a C.s.pages, sE w.1.b 1 (ints .i64 C.s.erases), sE w.1.c 1 (bools C.s.blown), sE w.1.m 1 (ints .u8 w.2)]
def refE (p : Nat) (C : Cm) : Ent := exE 4 (RefW C) (refL p C)

section
variable {h0 h : H} {A : List Ent} {i p : Nat} {C : Cm}
theorem ref_close {C0 : Cm} {a b c m : Sl} {ms : List Int} (ok : C.ok) (mb : bytesOk ms) (ml : ms.length ≤ 2 ^ 47) (me : 0 ≤ C.left → ms = C.mask) (ci : At A i (refE p C0))
    (hs : Sat h0 (blk p (C.cells a b c m) :: matE 32 a C.s.pages :: sE b 1 (ints .i64 C.s.erases) :: sE c 1 (bools C.s.blown) :: sE m 1 (ints .u8 ms) :: del A i) h) : Sat h0 (put A i (refE p C)) h :=
  Sat.back ci (Sat.close (⟨a, b, c, m⟩, ms) ⟨ok, mb, ml, me⟩ hs)
theorem ref_make {a b c m : Sl} {ms : List Int} (ok : C.ok) (mb : bytesOk ms) (ml : ms.length ≤ 2 ^ 47) (me : 0 ≤ C.left → ms = C.mask)
    (hs : Sat h0 (blk p (C.cells a b c m) :: matE 32 a C.s.pages :: sE b 1 (ints .i64 C.s.erases) :: sE c 1 (bools C.s.blown) :: sE m 1 (ints .u8 ms) :: A) h) : Sat h0 (refE p C :: A) h :=
  Sat.close (⟨a, b, c, m⟩, ms) ⟨ok, mb, ml, me⟩ hs
theorem chip_ref (hs : Sat h0 A h) (ci : At A i (chipE p C)) : Sat h0 (put A i (refE p C)) h := by
  obtain ⟨w, ok, hs⟩ := (hs.front ci).open_; dsimp only [chipL, List.cons_append, List.nil_append, Cm.cells] at hs
  exact Sat.back ci (ref_make (a := w.a) (b := w.b) (c := w.c) (m := w.m) ok ok.mask ok.mlen (fun _ => rfl) hs)

theorem act_b {Q : Bool → H → Prop} {a b c m : Sl} (hs : Sat h0 A h) (ci : At A i (blk p (C.cells a b c m))) (ok : C.ok) (k : ∀ h', Sat h0 (put A i (blk p (C.act.cells a b c m))) h' → Q (decide (C.left = 0)) h') : F_portcullisref04_Chip_act ⟨p, 0, none⟩ Q h := by
  unfold F_portcullisref04_Chip_act G_portcullisref04_Chip_act
  simp only [add_mk, Nat.zero_add]
  have hl := ok.left
  have hl2 := ok.left2
  have ea : C.act.cells a b c m = [.int .i64 C.cfg.cells, .int .i64 C.cfg.slots, .int .i64 C.cfg.fuses, .int .i64 C.cfg.step, .int .i64 C.cfg.keys, .int .i64 C.cfg.erases, .int .i64 C.cfg.area, a.v, b.v, c.v,
      .int .i64 (w64 (C.acts + 1)), .bool C.act.out, .int .i64 C.act.left, m.v] := by unfold Cm.act; split <;> rfl
  rw [ea] at k
  replace hs := (hs.front ci)
  simp only [Cm.cells] at hs
  (repeat first | refine ⟨_, Sat.ld hs (by (repeat (first | exact At.z | apply At.s))) (by rfl), ?_⟩ | refine ⟨_, _, _, Sat.ld hs (by (repeat (first | exact At.z | apply At.s))) (by rfl), ?_⟩ | (intro _ _ hn; replace hs := Sat.new hs hn; clear hn) | refine ⟨Sat.cs hs (by (repeat (first | exact At.z | apply At.s))) (by rfl), ?_⟩ | (refine ⟨Sat.can hs (by (repeat (first | exact At.z | apply At.s))) (by simp), ?_⟩; intro _ e; replace hs := Sat.wr hs (by (repeat (first | exact At.z | apply At.s))) e; clear e; simp only [put, splice, List.set] at hs))
  have back : ∀ {vs h}, Sat h0 (blk p vs :: del A i) h → Sat h0 (put A i (blk p vs)) h := fun hs => Sat.back ci hs
  by_cases h1 : C.left = 0
  · rw [if_pos (by simp [h1])]
    (repeat first | refine ⟨_, Sat.ld hs (by (repeat (first | exact At.z | apply At.s))) (by rfl), ?_⟩ | refine ⟨_, _, _, Sat.ld hs (by (repeat (first | exact At.z | apply At.s))) (by rfl), ?_⟩ | (intro _ _ hn; replace hs := Sat.new hs hn; clear hn) | refine ⟨Sat.cs hs (by (repeat (first | exact At.z | apply At.s))) (by rfl), ?_⟩ | (refine ⟨Sat.can hs (by (repeat (first | exact At.z | apply At.s))) (by simp), ?_⟩; intro _ e; replace hs := Sat.wr hs (by (repeat (first | exact At.z | apply At.s))) e; clear e; simp only [put, splice, List.set] at hs))
    have e1 : C.act.out = true := by simp [Cm.act, h1]
    have e2 : C.act.left = -1 := by simp [Cm.act, h1]
    rw [e1, e2] at k
    have := k _ (back hs)
    simpa [h1] using this
  · rw [if_neg (by simp [h1])]
    (repeat first | refine ⟨_, Sat.ld hs (by (repeat (first | exact At.z | apply At.s))) (by rfl), ?_⟩ | refine ⟨_, _, _, Sat.ld hs (by (repeat (first | exact At.z | apply At.s))) (by rfl), ?_⟩ | (intro _ _ hn; replace hs := Sat.new hs hn; clear hn) | refine ⟨Sat.cs hs (by (repeat (first | exact At.z | apply At.s))) (by rfl), ?_⟩ | (refine ⟨Sat.can hs (by (repeat (first | exact At.z | apply At.s))) (by simp), ?_⟩; intro _ e; replace hs := Sat.wr hs (by (repeat (first | exact At.z | apply At.s))) e; clear e; simp only [put, splice, List.set] at hs))
    have e1 : C.act.out = C.out := by simp [Cm.act, h1]
    have e3 : decide (C.left = 0) = false := by simp [h1]
    rw [e1, e3] at k
    by_cases h2 : 0 < C.left
    · rw [ltI_eq, if_pos (by simpa using h2)]
      (repeat first | refine ⟨_, Sat.ld hs (by (repeat (first | exact At.z | apply At.s))) (by rfl), ?_⟩ | refine ⟨_, _, _, Sat.ld hs (by (repeat (first | exact At.z | apply At.s))) (by rfl), ?_⟩ | (intro _ _ hn; replace hs := Sat.new hs hn; clear hn) | refine ⟨Sat.cs hs (by (repeat (first | exact At.z | apply At.s))) (by rfl), ?_⟩ | (refine ⟨Sat.can hs (by (repeat (first | exact At.z | apply At.s))) (by simp), ?_⟩; intro _ e; replace hs := Sat.wr hs (by (repeat (first | exact At.z | apply At.s))) e; clear e; simp only [put, splice, List.set] at hs))
      have e2 : C.act.left = C.left - 1 := by simp [Cm.act, h1]; omega
      rw [e2] at k
      rw [show IntKind.i64.wrap (C.left - 1) = C.left - 1 by rw [IntKind.wrap_i64]; omega] at hs
      exact k _ (back hs)
    · rw [ltI_eq, if_neg (by simpa using h2)]
      have e2 : C.act.left = C.left := by simp [Cm.act, h1]; omega
      rw [e2] at k
      exact k _ (back hs)
theorem bits_b {Q : Int → H → Prop} {j : Nat} {a b c m : Sl} {mask : List Int} (hs : Sat h0 A h) (ci : At A i (blk p (C.cells a b c m))) (mi : At A j (sE m 1 (ints .u8 mask))) (n : Nat) {x : Int} (hx : x = n)
    (k : Q (if mask = [] then 0 else mask.getD (n % mask.length) 0) h) : F_portcullisref04_Chip_bits ⟨p, 0, none⟩ x Q h := by
  unfold F_portcullisref04_Chip_bits G_portcullisref04_Chip_bits
  subst hx
  simp only [add_mk, Nat.zero_add]
  have hl := hs.sl_len mi
  simp only [ints_length, Nat.mul_one] at hl
  refine ⟨_, _, _, hs.ld ci rfl, ?_⟩
  by_cases h1 : mask = []
  · rw [if_pos h1] at k
    subst h1
    rw [if_pos (by simp at hl; simp [← hl])]
    exact k
  · rw [if_neg h1] at k
    have hp : 0 < mask.length := List.length_pos_iff.2 h1
    rw [if_neg (by simp; omega)]
    refine ⟨_, _, _, hs.ld ci rfl, ?_⟩
    refine ⟨_, _, _, hs.ld ci rfl, ?_⟩
    obtain ⟨q, hq⟩ := hs.sl_some mi (by omega)
    obtain ⟨mp, ml, mc⟩ := m
    simp only at hq hl
    subst hq
    have e : (n : Int).tmod (ml : Int) = ((n % ml : Nat) : Int) := by rw [Int.tmod_eq_emod_of_nonneg (by omega)]; omega
    rw [hl] at k
    have hlt : n % ml < ml := Nat.mod_lt _ (by omega)
    refine ⟨by dsimp only; omega, _, rfl, by dsimp only; rw [e]; omega, by dsimp only; rw [e]; omega, _, ?_, k⟩
    dsimp only
    rw [e]
    simp only [add_mk, Nat.zero_add, Int.toNat_natCast, Nat.mul_one]
    refine hs.sld mi ?_
    rw [ints_get, List.getElem?_eq_getElem (by omega)]
    simp [List.getD, List.getElem?_eq_getElem (show n % ml < mask.length by omega)]
theorem fuse_b {Q : Int → H → Prop} {a b c m : Sl} (hs : Sat h0 A h) (ci : At A i (blk p (C.cells a b c m))) (hl : C.s.blown.length = c.2.1) (j : Int) (k : Q (askedM C j C.s.blown.length) h) : F_portcullisref04_Chip_fuse ⟨p, 0, none⟩ j Q h := by
  unfold F_portcullisref04_Chip_fuse G_portcullisref04_Chip_fuse
  simp only [add_mk, Nat.zero_add]
  refine ⟨_, hs.ld ci rfl, ?_⟩
  unfold askedM at k
  rw [hl] at k
  simp only [ltI_eq, leI_eq, decide_eq_true_eq]
  split
  · simpa [*] using k
  · rename_i h1
    rw [if_neg h1] at k
    split
    · rename_i h2; rw [if_pos h2] at k; exact k
    · rename_i h2; rw [if_neg h2] at k
      refine ⟨_, _, _, hs.ld ci rfl, ?_⟩
      split
      · rename_i h3; rw [if_pos h3] at k; exact k
      · rename_i h3; rw [if_neg h3] at k; exact k
theorem at_b {Q : Int → H → Prop} {a b c m : Sl} (hs : Sat h0 A h) (ci : At A i (blk p (C.cells a b c m))) (hl : C.s.pages.length = a.2.1) (page cell : Int) (k : Q (asksCellM C page cell) h) : F_portcullisref04_Chip_at ⟨p, 0, none⟩ page cell Q h := by
  unfold F_portcullisref04_Chip_at G_portcullisref04_Chip_at
  simp only [add_mk, Nat.zero_add]
  refine ⟨_, hs.ld ci rfl, ?_⟩
  unfold asksCellM askedM at k
  rw [hl] at k
  simp only [ltI_eq, leI_eq, decide_eq_true_eq]
  split
  · rename_i h1; simp only [if_pos h1] at k; simpa using k
  · rename_i h1
    simp only [if_neg h1] at k
    split
    · rename_i h2; simp only [if_pos h2] at k; simpa using k
    · rename_i h2; simp only [if_neg h2] at k
      refine ⟨_, _, _, hs.ld ci rfl, ?_⟩
      split
      · rename_i h3; simp only [if_pos h3] at k; simpa using k
      · rename_i h3; simp only [if_neg h3] at k
        simp only [ne_eq, not_true, if_false] at k
        split
        · rename_i h4; simp only [if_pos h4] at k; exact k
        · rename_i h4; simp only [if_neg h4] at k
          refine ⟨_, hs.ld ci rfl, ?_⟩
          split
          · rename_i h5; simp only [if_pos h5] at k; exact k
          · rename_i h5; simp only [if_neg h5] at k; exact k
end
end Go.Proofs.Ytamfkofcpoglnaa
