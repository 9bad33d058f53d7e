/- LogWhole: what is proved and its parts, laid together by a program of ours: Lw3 Lx1 ScL Lx2 RwLogWhole -/
import Derived.Test.YteabcbpimjjdpaaK9
set_option autoImplicit false
set_option linter.all false
/- The log's laws, plain: what a lay leaves of the numbers. Own work. -/
section
set_option maxRecDepth 100000
set_option linter.unusedVariables false
namespace Go.Proofs.Yteabcbpimjjdpaa
open Go Go.Vc

theorem pI_eq {C D : Cm} (hc : D.cfg = C.cfg) {y : Nat} (h : D.pg y = C.pg y) : pI D y = pI C y := by unfold pI; rw [hc, h]
theorem tgt_cases (C : Cm) : (tgtM C = 1 ∧ presM C = 0) ∨ (tgtM C = 0 ∧ presM C = 1) ∨ (tgtM C = 0 ∧ presM C = -1) := by
  unfold tgtM
  rcases presM_cases C with h | h | h <;> simp [h]
theorem same_info {C D : Cm} (hc : D.cfg = C.cfg) (hp : ∀ y, y ≠ tgtM C → D.pg y = C.pg y) (hh : (pI D (tgtM C)).head = 0 ∨ (pI D (tgtM C)).head = (pI C (tgtM C)).head) (h0 : 0 ≤ (pI C 0).head) (h1 : 0 ≤ (pI C 1).head) :
    presM D = presM C ∧ infoM D = infoM C := by
  have key : presM D = presM C := by
    rcases tgt_cases C with ⟨t, p⟩ | ⟨t, p⟩ | ⟨t, p⟩
    · rw [t] at hp hh
      have e := pI_eq hc (hp 0 (by omega))
      rw [p]
      unfold presM presH at p ⊢
      rw [e]
      generalize (pI D 1).head = x at *
      generalize (pI C 1).head = y at *
      generalize (pI C 0).head = z at *
      split at p
      · rw [if_pos (by omega)]
      · split at p <;> exact absurd p (by decide)
    · rw [t] at hp hh
      have e := pI_eq hc (hp 1 (by omega))
      rw [p]
      unfold presM presH at p ⊢
      rw [e]
      generalize (pI D 0).head = x at *
      generalize (pI C 1).head = y at *
      generalize (pI C 0).head = z at *
      split at p
      · exact absurd p (by decide)
      · split at p
        · rw [if_neg (by omega), if_pos (by omega)]
        · exact absurd p (by decide)
    · rw [t] at hp hh
      have e := pI_eq hc (hp 1 (by omega))
      rw [p]
      unfold presM presH at p ⊢
      rw [e]
      generalize (pI D 0).head = x at *
      generalize (pI C 1).head = y at *
      generalize (pI C 0).head = z at *
      split at p
      · exact absurd p (by decide)
      · split at p
        · exact absurd p (by decide)
        · rw [if_neg (by omega), if_neg (by omega)]
  refine ⟨key, ?_⟩
  unfold infoM
  rw [key]
  rcases tgt_cases C with ⟨t, p⟩ | ⟨t, p⟩ | ⟨t, p⟩
  · rw [p, if_neg (by decide), if_neg (by decide)]
    exact pI_eq hc (hp 0 (by omega))
  · rw [p, if_neg (by decide), if_neg (by decide)]
    exact pI_eq hc (hp 1 (by omega))
  · rw [p, if_pos (by decide), if_pos (by decide)]
theorem turned_info {C D : Cm} (hc : D.cfg = C.cfg) (hp : ∀ y, y ≠ tgtM C → D.pg y = C.pg y) (hh : (pI D (tgtM C)).head = (infoM C).head + 1) (h0 : 0 ≤ (pI C 0).head) (h1 : 0 ≤ (pI C 1).head) (h2 : 0 ≤ (infoM C).head) :
    presM D = (tgtM C : Int) ∧ infoM D = pI D (tgtM C) := by
  have key : presM D = (tgtM C : Int) := by
    rcases tgt_cases C with ⟨t, p⟩ | ⟨t, p⟩ | ⟨t, p⟩
    · rw [t] at hp hh ⊢
      have e := pI_eq hc (hp 0 (by omega))
      have ei : infoM C = pI C 0 := by unfold infoM; rw [p]; rfl
      rw [ei] at hh h2
      unfold presM presH
      rw [e, if_neg (by omega), if_pos (by omega)]; rfl
    · rw [t] at hp hh ⊢
      have e := pI_eq hc (hp 1 (by omega))
      have ei : infoM C = pI C 1 := by unfold infoM; rw [p]; rfl
      rw [ei] at hh h2
      unfold presM presH
      rw [e, if_pos (by omega)]; rfl
    · rw [t] at hp hh ⊢
      have e := pI_eq hc (hp 1 (by omega))
      unfold presM presH at p ⊢
      rw [e]
      split at p
      · exact absurd p (by decide)
      · split at p
        · exact absurd p (by decide)
        · rw [if_pos (by omega)]; rfl
  refine ⟨key, ?_⟩
  unfold infoM
  rw [key, if_neg (by omega), Int.toNat_natCast]
theorem head_eq (C : Cm) (t : Nat) : (pI C t).head = (ofM (C.pg t) (lOf C)).head := rfl
/-- What a lay leaves. -/
structure Laid (C D : Cm) (slot : Nat) (n e : Int) : Prop where
  ok : D.ok
  cfg : D.cfg = C.cfg
  snd : sndM D
  ec : e = 0 ∨ e = 8 ∨ e = 9
  e9 : e = 9 → D = C
  out0 : e = 0 → D.out = false
  other : ∀ k : Nat, (k : Int) ≤ C.cfg.slots → k ≠ slot → numOf D k = numOf C k
  me : numOf D slot = numOf C slot ∨ numOf D slot = n
  done : e = 0 → numOf D slot = n
theorem place_law {C : Cm} {slot : Nat} {n : Int} (ok : C.ok) (ho : C.out = false) (snd : sndM C) (hs : (slot : Int) ≤ C.cfg.slots) (hn1 : 1 ≤ n) (hn2 : n ≤ most) (hv : numOf C slot < n) (hp : 0 ≤ presM C) (hx : (infoM C).next < C.cfg.cells) :
    ∃ D e, programM C (presM C) (infoM C).next (valueM (slot : Int) n).1 = (D, e) ∧ Laid C D slot n e ∧ Part C D (presM C).toNat 1 e ∧ (∀ x, D.er x = C.er x) ∧ (0 ≤ C.acts → C.acts < 2 ^ 60 → D.acts = C.acts + 1) ∧ presM D = presM C ∧
      (∀ k : Nat, (infoM C).next + 1 ≤ (k : Int) → k < lOf C → (rk (D.pg (presM C).toNat) k).1 = 0) := by
  have hms := ok.may.slots
  have hcells := ok.may.cells
  obtain ⟨t, ht⟩ : ∃ t : Nat, presM C = (t : Int) := Int.eq_ofNat_of_zero_le hp
  have ht2 : t < 2 := by have := presM_cases C; omega
  have ei : infoM C = pI C t := by unfold infoM; rw [if_neg (by omega), ht, Int.toNat_natCast]
  have iok := pI_ok ok t
  have hh : 0 < (pI C t).head := by
    have : presM C = t := ht
    unfold presM presH at this
    have h2 : t = 0 ∨ t = 1 := by omega
    rcases h2 with rfl | rfl
    · split at this
      · omega
      · split at this <;> exact absurd this (by decide)
    · split at this
      · exact absurd this (by decide)
      · split at this
        · omega
        · exact absurd this (by decide)
  have hnx1 : 1 ≤ (pI C t).next := by
    have hb := ofM_blank (C.pg t) (lOf C) (by show C.cfg.cells.toNat < _; omega)
    rcases Int.lt_or_le 0 (pI C t).next with h | h
    · omega
    · have := iok.next.1
      have e : (ofM (C.pg t) (lOf C)).next = 0 := by show (pI C t).next = 0; omega
      have : ofM (C.pg t) (lOf C) = inf0 := hb.1 e
      rw [head_eq, this] at hh
      exact absurd hh (by decide)
  rw [ei, ht]
  rw [ei] at hx
  obtain ⟨q, hq⟩ : ∃ q : Nat, (pI C t).next = (q : Int) := Int.eq_ofNat_of_zero_le (by omega)
  rw [hq] at hx hnx1 ⊢
  have hql : q < lOf C := by show q < C.cfg.cells.toNat; omega
  have hbl : ∀ k : Nat, q ≤ k → k < lOf C → (rk (C.pg t) k).1 = 0 := fun k k1 k2 => ofM_next (r := C.pg t) (n := lOf C) (by show C.cfg.cells.toNat < _; omega) k (by show (pI C t).next ≤ _; omega) k2
  rw [value_laid (by omega) hn1 hn2, Int.toNat_natCast]
  obtain ⟨D, e, p1, p2, p3, p4, p5, p6, p7⟩ := prog_part ok ho ht2 hql (kind := 2) (slot := (slot : Int)) (n := n) ⟨by decide, by decide⟩ snd (hbl q (by omega) hql)
  have hlo : lOf D = lOf C := by show D.cfg.cells.toNat = _; rw [p2.cfg]
  have hv' : (ofM (C.pg t) (lOf C)).nums.getD slot 0 < n := by
    have : numOf C slot = (ofM (C.pg t) (lOf C)).nums.getD slot 0 := by show (infoM C).nums.getD slot 0 = _; rw [ei]; rfl
    omega
  obtain ⟨q1, q2, q3⟩ := put_nums (r := C.pg t) (z := D.pg t) hql (by omega) p4 hbl (x := slot) (by omega) hn1 hn2 hv' p5
  have hhd : (pI D t).head = (pI C t).head := by rw [head_eq, head_eq, hlo]; exact q3
  have hpr : presM D = presM C := by
    unfold presM
    have h2 : t = 0 ∨ t = 1 := by omega
    rcases h2 with rfl | rfl
    · rw [hhd, pI_eq p2.cfg (p2.pgs 1 (by omega))]
    · rw [hhd, pI_eq p2.cfg (p2.pgs 0 (by omega))]
  have eiD : infoM D = pI D t := by unfold infoM; rw [hpr, if_neg (by omega), ht, Int.toNat_natCast]
  have nC : ∀ k, numOf C k = (ofM (C.pg t) (lOf C)).nums.getD k 0 := fun k => by show (infoM C).nums.getD k 0 = _; rw [ei]; rfl
  have nD : ∀ k, numOf D k = (ofM (D.pg t) (lOf C)).nums.getD k 0 := fun k => by show (infoM D).nums.getD k 0 = _; rw [eiD, ← hlo]; rfl
  have hset : ∀ k, ((ofM (C.pg t) (lOf C)).nums.set slot n).getD k 0 = if slot = k ∧ k < 9 then n else (ofM (C.pg t) (lOf C)).nums.getD k 0 := fun k => by rw [set_getD, ofM_len]
  refine ⟨D, e, p1, ⟨p2.ok, p2.cfg, p2.snd, ?_, ?_, p2.out0, ?_, ?_, ?_⟩, p2, p3, p7, hpr.trans ht, ?_⟩
  · rcases p2.ec with h | h
    · exact Or.inl h
    · exact Or.inr (Or.inl h)
  · intro h
    have := p2.ec
    omega
  · intro k hk hne
    rw [nC, nD]
    rcases q1 with h | h
    · rw [h]
    · rw [h, hset, if_neg (fun y => hne y.1.symm)]
  · rw [nC, nD]
    rcases q1 with h | h
    · left; rw [h]
    · right; rw [h, hset, if_pos ⟨rfl, by omega⟩]
  · intro h
    rw [nD, q2 (p6 h), hset, if_pos ⟨rfl, by omega⟩]
  · intro k k1 k2
    rw [p4 k k2 (by omega)]
    exact hbl k (by omega) k2
theorem lay_law {C : Cm} {slot : Nat} {n : Int} (ok : C.ok) (ho : C.out = false) (snd : sndM C) (hs : (slot : Int) ≤ C.cfg.slots) (hn1 : 1 ≤ n) (hn2 : n ≤ most) (hv : numOf C slot < n) :
    ∃ D e, layL C (slot : Int) n = (D, e) ∧ Laid C D slot n e := by
  unfold layL
  rw [if_neg (by simp [ho]), if_neg (fun y => y ⟨by omega, hs, hn1, hn2⟩), Int.toNat_natCast, if_neg (by unfold numOf at hv; omega)]
  by_cases g : 0 ≤ presM C ∧ (infoM C).next < C.cfg.cells
  · rw [if_pos g]
    obtain ⟨D, e, d1, d2, _⟩ := place_law ok ho snd hs hn1 hn2 hv g.1 g.2
    exact ⟨D, e, d1, d2⟩
  rw [if_neg g]
  by_cases gw : wornF C = true
  · rw [if_pos gw]
    exact ⟨C, 9, rfl, ok, rfl, snd, Or.inr (Or.inr rfl), fun _ => rfl, fun y => absurd y (by decide), fun _ _ _ => rfl, Or.inl rfl, fun y => absurd y (by decide)⟩
  rw [if_neg gw]
  obtain ⟨D, e, d1, d2⟩ := turn_law ok ho snd hs hn1 hn2 (by simpa using gw)
  have hms := ok.may.slots
  have h0 := (pI_ok ok 0).head.1
  have h1 := (pI_ok ok 1).head.1
  have h2 := (infoM_ok ok).head.1
  have ilen := infoM_len C
  have set9 : ∀ k, ((infoM C).nums.set slot n).getD k 0 = if slot = k ∧ k < 9 then n else numOf C k := fun k => by rw [set_getD, ilen]
  have turned : ((pI D (tgtM C)).head = (infoM C).head + 1 ∧ ∀ k : Nat, (k : Int) ≤ C.cfg.slots → nof D (tgtM C) k = ((infoM C).nums.set slot n).getD k 0) → (∀ k : Nat, (k : Int) ≤ C.cfg.slots → k ≠ slot → numOf D k = numOf C k) ∧ numOf D slot = n := by
    rintro ⟨y1, y2⟩
    obtain ⟨_, ei⟩ := turned_info d2.part.cfg d2.part.pgs y1 h0 h1 h2
    have nD : ∀ k, numOf D k = nof D (tgtM C) k := fun k => by show (infoM D).nums.getD k 0 = _; rw [ei]
    refine ⟨fun k hk hne => ?_, ?_⟩
    · rw [nD, y2 k hk, set9, if_neg (fun y => hne y.1.symm)]
    · rw [nD, y2 slot hs, set9, if_pos ⟨rfl, by omega⟩]
  have keep : ((pI D (tgtM C)).head = 0 ∨ (pI D (tgtM C)).head = (pI C (tgtM C)).head) → ∀ k, numOf D k = numOf C k := by
    intro y k
    obtain ⟨_, ei⟩ := same_info d2.part.cfg d2.part.pgs y h0 h1
    show (infoM D).nums.getD k 0 = _
    rw [ei]
  refine ⟨D, e, d1, d2.part.ok, d2.part.cfg, d2.part.snd, ?_, ?_, d2.part.out0, ?_, ?_, fun y => (turned (d2.headf y)).2⟩
  · rcases d2.part.ec with h | h
    · exact Or.inl h
    · exact Or.inr (Or.inl h)
  · intro h
    have := d2.part.ec
    omega
  · intro k hk hne
    rcases d2.head with h | h | h
    · exact keep (Or.inl h) k
    · exact keep (Or.inr h) k
    · exact (turned h).1 k hk hne
  · rcases d2.head with h | h | h
    · exact Or.inl (keep (Or.inl h) slot)
    · exact Or.inl (keep (Or.inr h) slot)
    · exact Or.inr (turned h).2
end Go.Proofs.Yteabcbpimjjdpaa
end

/- The log's laws: round, numbers, fixed; LogWhole. Own work. -/
section
set_option maxRecDepth 100000
set_option linter.unusedVariables false
namespace Go.Proofs.Yteabcbpimjjdpaa
open Go Go.Vc

def rndM (c n : Int) : Int := if c.tmod n < 0 then c.tmod n + n else c.tmod n
theorem rnd_in (c : Int) {n : Int} (hn : 1 ≤ n) : 0 ≤ rndM c n ∧ rndM c n < n := by
  have h2 := Int.tmod_lt_of_pos c (show 0 < n by omega)
  have h3 : -n < c.tmod n := by
    have := Int.tmod_lt_of_pos (-c) (show 0 < n by omega)
    rw [Int.neg_tmod] at this
    omega
  unfold rndM
  split <;> omega
def numL (C : Cm) : List Int := tab (C.cfg.slots + 1).toNat (numOf C)
theorem numL_at (C : Cm) {k : Nat} (h : (k : Int) ≤ C.cfg.slots) : (ints .i64 (numL C))[k]? = some (.int .i64 (numOf C k)) := by
  unfold numL; rw [ints_get, tab_get, if_pos (by omega)]; rfl
section
variable {h0 h : H} {A : List Ent} {i j p r b : Nat} {C : Cm}
theorem round_sp {Q : Int → H → Prop} (a : Int) {n : Int} (hn : 1 ≤ n) (hn2 : n < 2 ^ 60) (k : Q (rndM a n) h) : F_portcullislaw09_round a n Q h := by
  unfold F_portcullislaw09_round G_portcullislaw09_round
  refine ⟨by omega, ?_⟩
  have h2 := Int.tmod_lt_of_pos a (show 0 < n by omega)
  have h3 := rnd_in a hn
  unfold rndM at k h3
  by_cases c : a.tmod n < 0
  · rw [if_pos c] at k h3
    rw [ltI_eq, if_pos (by simpa using c), wrap_id (by omega)]
    exact k
  · rw [if_neg c] at k
    rw [ltI_eq, if_neg (by simpa using c)]
    exact k
theorem numbers_sp {Q : Option Addr → Nat → Nat → Bool → H → Prop} (hs : Sat h0 A h) (ci : At A i (chipE p C)) (cl : At A j (logE r p)) (ho : C.out = false)
    (k : ∀ q l c h', Sat h0 (slE q l c 1 (ints .i64 (numL C)) :: A) h' → Q q l c true h') : F_portcullislaw09_numbers ⟨r, 0, none⟩ C.cfg.slots Q h := by
  unfold F_portcullislaw09_numbers G_portcullislaw09_numbers
  try simp only [add_mk, Nat.zero_add]
  have ok := chip_ok hs ci
  have hsl := ok.may.slots
  intro n5 _ hn; replace hs := Sat.new hs hn; clear hn
  replace hs := (hs.drop).sl_nil 1 (some ⟨n5, 0, none⟩)
  intro J hJ
  obtain ⟨M, hM⟩ : ∃ M, M = (C.cfg.slots + 1).toNat := ⟨_, rfl⟩
  refine loop_st M (fun m (q : Option Addr × Nat) => [.dv (.one (.slice q.1 m q.2)), si m]) (fun m q h => Sat h0 (slE q.1 m q.2 1 (ints .i64 (tab m (numOf C))) :: A) h) ?_ ?_ 0 (some ⟨n5, 0, none⟩, 0) _ (by omega) hs
  · rintro m ⟨o, c⟩ h1 hm hs hk
    dsimp only at hs
    apply hJ
    rw [leI_eq, if_pos (by simp; omega)]
    refine Number_sp hs ci.s cl.s (m : Int) ?_
    intro h2 hs
    have e : numberM C (m : Int) = (numOf C m, 0) := by
      unfold numberM
      rw [if_neg (by simp [ho]), if_neg (fun y => y ⟨by omega, by omega⟩), Int.toNat_natCast]
    rw [e, if_neg (by simp)]
    intro n17 _ hn; replace hs := Sat.new hs hn; clear hn
    have hr := hs.bv (i := 0) (l := 1) (sz := 1) .z rfl (by intro v hv; simp at hv; rw [hv]; rfl)
    refine ⟨_, hr, ?_⟩
    refine Sat.app hs (i := 1) (vs := [.int .i64 (numOf C m)]) (.s .z) rfl rfl (by intro v hv; simp at hv; rw [hv]; rfl) (by omega) ?_
    intro p' c' h4 hs
    rw [put_succ, put_zero] at hs
    rw [wrap_succ (by omega)]
    have ea : ints .i64 (tab m (numOf C)) ++ [.int .i64 (numOf C m)] = ints .i64 (tab (m + 1) (numOf C)) := by rw [tab_succ]; simp [ints]
    rw [ea] at hs
    exact hk (p', c') _ hs.drop
  · rintro ⟨o, c⟩ h1 hs
    dsimp only at hs
    apply hJ
    rw [leI_eq, if_neg (by simp; omega)]
    refine k _ _ _ _ ?_
    unfold numL
    rw [← hM]
    exact hs
abbrev fix9A : Cm := freshC ⟨5, 1, 1, 1, 1, 1, 0⟩
abbrev fix9B : Cm := (layL fix9A 0 5).1
abbrev fix9C : Cm := (layL fix9B 0 5).1
def fix9ok : Bool := (layL fix9A 0 5).2 == 0 && (numberM fix9B 0).2 == 0 && (numberM fix9B 0).1 == 5 && (layL fix9B 0 5).2 == 11 && presT fix9C == 0 && genT fix9C == 1 && IntKind.i64.wrap (freeT fix9C) == 3 && fix9C.acts == 2
theorem fix9 : fix9ok = true := by decide +kernel
theorem fixed9_sp {Q : Bool → H → Prop} (hs : Sat h0 A h) (k : ∀ h', Sat h0 A h' → Q true h') : F_portcullislaw09_fixed Q h := by
  unfold F_portcullislaw09_fixed G_portcullislaw09_fixed
  try simp only [add_mk, Nat.zero_add, List.append_nil]
  have hf := fix9
  unfold fix9ok at hf
  simp only [Bool.and_eq_true, beq_iff_eq] at hf
  obtain ⟨⟨⟨⟨⟨⟨⟨f1, f2⟩, f3⟩, f4⟩, f5⟩, f6⟩, f7⟩, f8⟩ := hf
  refine New_sp ⟨5, 1, 1, 1, 1, 1, 0⟩ hs (fun nm => absurd (show Cfg.may ⟨5, 1, 1, 1, 1, 1, 0⟩ by decide) nm) ?_
  intro _ p h1 hs J hJ
  rw [if_neg (by simp), if_neg (by simp)]
  apply hJ
  clear hJ J
  refine ⟨_, rfl, ?_⟩
  refine Mount_sp hs (i := 0) .z (fun y => absurd y (by decide)) ?_
  intro _ l h2 hs J hJ
  rw [if_neg (by simp), if_neg (by simp)]
  apply hJ
  clear hJ J
  refine ⟨_, rfl, ?_⟩
  refine Lay9_sp hs (i := 1) (j := 0) (.s .z) .z (by decide) 0 5 ?_
  intro h3 hs
  replace hs : Sat h0 (logE l p :: chipE p fix9B :: A) h3 := hs
  refine ⟨_, rfl, ?_⟩
  refine Number_sp hs (i := 1) (j := 0) (.s .z) .z 0 ?_
  intro h4 hs
  refine ⟨_, rfl, ?_⟩
  refine Lay9_sp hs (i := 1) (j := 0) (.s .z) .z (by decide) 0 5 ?_
  intro h5 hs
  replace hs : Sat h0 (logE l p :: chipE p fix9C :: A) h5 := hs
  rw [f1, f2, f3, f4, if_pos (by simp), if_pos (by simp), if_pos (by simp), if_pos (by simp)]
  refine ⟨_, rfl, ?_⟩
  refine Present_sp hs (i := 1) (j := 0) (.s .z) .z ?_
  intro h6 hs
  rw [f5, if_pos (by simp)]
  refine ⟨_, rfl, ?_⟩
  refine Generation_sp hs (i := 1) (j := 0) (.s .z) .z ?_
  intro h7 hs
  rw [f6, if_pos (by simp)]
  refine ⟨_, rfl, ?_⟩
  refine Free_sp hs (i := 1) (j := 0) (.s .z) .z ?_
  intro h8 hs
  rw [f7, if_pos (by simp)]
  refine ⟨_, rfl, ?_⟩
  refine Acts_sp hs (i := 1) (.s .z) ?_
  rw [f8]
  exact k _ hs.drop.drop
end

/-- A lay of a script. -/
structure LyE where
  slot : Int
  over : Int
  at_ : Int
  mask : List Int
structure LyE.ok (s : LyE) : Prop where
  at_ : s.at_ < 2 ^ 63
  mb : bytesOk s.mask
  ml : s.mask.length + 4096 ≤ 2 ^ 47
structure ScriptL (h : H) (p : Option Addr) (l : Nat) (sc : List LyE) : Prop where
  len : sc.length = l
  lt : l < 2 ^ 57
  at_ : ∀ i (hi : i < sc.length), ∃ q mp ml mc, p = some q ∧ hc h (q.add (i * 4)) = some (.int .i64 sc[i].slot) ∧ hc h ((q.add (i * 4)).add 1) = some (.int .i64 sc[i].over) ∧ hc h ((q.add (i * 4)).add 2) = some (.int .i64 sc[i].at_) ∧
    hc h ((q.add (i * 4)).add 3) = some (.slice mp ml mc) ∧ hsv h mp 1 ml (ints .u8 sc[i].mask) ∧ sc[i].ok
/-- Behind a lay: power is there again, no cut is awaited. -/
def againM (D : Cm) : Cm := cutM { D with out := false } (-1) []
theorem cut_ok {C : Cm} (ok : C.ok) {n : Int} (hn : n < 2 ^ 63) {m : List Int} (hb : bytesOk m) (hl : m.length ≤ 2 ^ 47) : (cutM C n m).ok :=
  ⟨ok.may, ok.fits, ok.typed, by unfold cutM; dsimp only; split <;> omega, by unfold cutM; dsimp only; split <;> omega, hb, ok.acts, hl⟩
end Go.Proofs.Yteabcbpimjjdpaa
end

/- How scripts of lays came in. Own work. -/
section
set_option maxRecDepth 100000
set_option linter.unusedVariables false
namespace Go.Proofs.Yteabcbpimjjdpaa
open Go Go.Vc Go.ChangeShapes Go.WideShapes Go.ChangeAt Go.RowKit

theorem xLayE : xsh PP 8 36 = some [.int .i64, .int .i64, .int .i64, .slc 5] := by kernel_rfl
theorem scriptL_of {D : Type} {enc : TypeId × Value → D} {W : World} {p : Option Addr} {l c : Nat} (h : Sli enc PP W 36 p l c) : ∃ sc : List LyE, ScriptL W.heap p l sc := by
  have hb : Try.prog.bytesOf 36 = 48 := by kernel_rfl
  have hc : Try.prog.cellsOf 36 = 4 := by kernel_rfl
  obtain ⟨ess, h1, h2, _, h4⟩ := h.els xLayE
  have hlc := h.1
  have hr := h.2.1
  rw [hb] at hr
  unfold reachBytes at hr
  have key : ∀ es, es ∈ ess → ∃ (s : LyE) (mp : Option Addr) (ml mc : Nat), s.ok ∧ es = [.int .i64 s.slot, .int .i64 s.over, .int .i64 s.at_, .slice mp ml mc] ∧ hsv W.heap mp 1 ml (ints .u8 s.mask) := by
    intro es hes
    obtain ⟨k, _, rfl, _, a, _, rfl, ha, b, _, rfl, hb, mp, ml, mc, _, rfl, hm, hr⟩ := (h2 es hes).2
    simp only [XM] at hr
    subst hr
    obtain ⟨ms, m1, m2, m3⟩ := bytes_of hm
    exact ⟨⟨k, a, b, ms⟩, mp, ml, mc, ⟨(has_i64 hb).2, m2, m3⟩, rfl, m1⟩
  have key2 : ∀ ess : List (List Value), (∀ es, es ∈ ess → ∃ (s : LyE) (mp : Option Addr) (ml mc : Nat), s.ok ∧ es = [.int .i64 s.slot, .int .i64 s.over, .int .i64 s.at_, .slice mp ml mc] ∧ hsv W.heap mp 1 ml (ints .u8 s.mask)) →
      ∃ sc : List LyE, sc.length = ess.length ∧ ∀ i (hi : i < sc.length) (hi2 : i < ess.length), ∃ (mp : Option Addr) (ml mc : Nat), sc[i].ok ∧ ess[i] = [.int .i64 sc[i].slot, .int .i64 sc[i].over, .int .i64 sc[i].at_, .slice mp ml mc] ∧ hsv W.heap mp 1 ml (ints .u8 sc[i].mask) := by
    intro ess
    induction ess with
    | nil => intro _; exact ⟨[], rfl, fun i hi => by simp at hi⟩
    | cons y r ih =>
      intro h
      obtain ⟨sc, e1, e2⟩ := ih fun es hes => h es (by simp [hes])
      obtain ⟨s, hs⟩ := h y (by simp)
      refine ⟨s :: sc, by simp [e1], ?_⟩
      intro i hi hi2
      cases i with
      | zero => exact hs
      | succ i => exact e2 i (by simpa using hi) (by simpa using hi2)
  obtain ⟨sc, e1, e2⟩ := key2 ess key
  refine ⟨sc, by omega, by omega, ?_⟩
  intro i hi
  obtain ⟨mp, ml, mc, ok, e3, e4⟩ := e2 i hi (by omega)
  obtain ⟨q, hq, hc2⟩ := h4 i (by omega)
  rw [hc, e3] at hc2
  refine ⟨q, mp, ml, mc, hq, ?_, hc2 1 _ rfl, hc2 2 _ rfl, hc2 3 _ rfl, e4, ok⟩
  have := hc2 0 _ rfl; simpa [Addr.add] using this
end Go.Proofs.Yteabcbpimjjdpaa
end

/- The log's laws: LogWhole. Own work. -/
section
set_option maxRecDepth 100000
set_option linter.unusedVariables false
namespace Go.Proofs.Yteabcbpimjjdpaa
open Go Go.Vc

section
variable {h0 h : H} {A : List Ent} {i j p r b : Nat} {C : Cm}
theorem numbers_at {Q : Option Addr → Nat → Nat → Bool → H → Prop} (hs : Sat h0 A h) (ci : At A i (chipE p C)) (cl : At A j (logE r p)) (ho : C.out = false) {sl : Int} (e : C.cfg.slots = sl)
    (k : ∀ b c h', Sat h0 (slE (some ⟨b, 0, none⟩) (sl + 1).toNat c 1 (ints .i64 (numL C)) :: A) h' → Q (some ⟨b, 0, none⟩) (sl + 1).toNat c true h') : F_portcullislaw09_numbers ⟨r, 0, none⟩ sl Q h := by
  subst e
  have hm := (chip_ok hs ci).may.slots
  refine numbers_sp hs ci cl ho ?_
  intro q l c h' hs
  have hl := hs.sl_len (i := 0) .z
  unfold numL at hl
  rw [ints_length, tab_length, Nat.mul_one] at hl
  subst hl
  obtain ⟨b, rfl⟩ := hs.sl_some (i := 0) .z (by omega)
  exact k b c h' hs
theorem num_ld (hs : Sat h0 A h) {b l c : Nat} (m : At A i (slE (some ⟨b, 0, none⟩) l c 1 (ints .i64 (numL C)))) {k : Nat} (hk : (k : Int) ≤ C.cfg.slots) : hc h ⟨b, k, none⟩ = some (.int .i64 (numOf C k)) :=
  hs.sld m (numL_at C hk)
theorem Sound_at {Q : Bool → H → Prop} {q : Option Addr} {l c : Nat} {row : List Int} (hs : Sat h0 A h) (rd : hsv h q 32 l (ints .u8 row)) (hl : l < 2 ^ 60) (k : ∀ h', Sat h0 A h' → Q (decide (soundM row l)) h') : F_portcullisref08_Sound q l c Q h :=
  Sound_sp (Sat.init h) (fun h' hs' => hsv_ext hs'.ex rd (fun _ _ y => y)) hl fun h' hs' => k _ (hs.ext hs'.ex)
end
theorem addr_add0 (q : Addr) : q.add 0 = q := by cases q with | mk b o sp => unfold Addr.add; simp
theorem pg_at {C : Cm} {t : Nat} (h : t < C.s.pages.length) : C.s.pages[t] = C.pg t := by unfold Cm.pg; simp [List.getD, List.getElem?_eq_getElem h]
theorem LogWhole_sp {h0 : H} {a b c' : Sl} {Q : Bool → H → Prop} {mp : Option Addr} {ml mc : Nat} (c : Cfg) (s : St) (rd0 : RdS h0 a b c' s) (ty : s.typed) (sc : List LyE) (rd : ScriptL h0 mp ml sc) (k : ∀ h', Ext none_ h0 h' → Q true h') :
    F_portcullislaw09_LogWhole c.cells c.slots c.fuses c.step c.keys c.erases c.area a.1 a.2.1 a.2.2 b.1 b.2.1 b.2.2 c'.1 c'.2.1 c'.2.2 mp ml mc Q h0 := by
  unfold F_portcullislaw09_LogWhole G_portcullislaw09_LogWhole
  have hs := Sat.init h0
  try simp only [add_mk, Nat.zero_add, List.append_nil]
  intro n32 _ hn; replace hs := Sat.new hs hn; clear hn
  intro n35 _ hn; replace hs := Sat.new hs hn; clear hn
  have hl := rd.len
  have hlt := rd.lt
  refine fixed9_sp hs ?_
  intro h1 hs
  (repeat first | refine ⟨_, Sat.ld hs (by (repeat (first | exact At.z | apply At.s))) (by rfl), ?_⟩ | refine ⟨_, _, _, Sat.ld hs (by (repeat (first | exact At.z | apply At.s))) (by rfl), ?_⟩ | (intro _ _ hn; replace hs := Sat.new hs hn; clear hn) | refine ⟨Sat.cs hs (by (repeat (first | exact At.z | apply At.s))) (by rfl), ?_⟩ | (refine ⟨Sat.can hs (by (repeat (first | exact At.z | apply At.s))) (by simp), ?_⟩; intro _ e; replace hs := Sat.wr hs (by (repeat (first | exact At.z | apply At.s))) e; clear e; simp only [put, splice, List.set] at hs))
  refine Lay_sp (a := a) (b := b) (c' := c') (s := s) c hs (fun h' hs' => rd0.ext hs'.ex) ty ?_ ?_ ?_
  · intro nm h2 hs J hJ
    rw [if_neg (by simp), if_pos (by simp), if_pos (by simp)]
    have := k _ hs.ex
    simpa using this
  · intro m nl h2 hs J hJ
    rw [if_neg (by simp), if_pos (by simp), if_pos (by simp)]
    have := k _ hs.ex
    simpa using this
  intro m lay px h2 hs J hJ
  rw [if_neg (by simp), if_neg (by simp), if_neg (by simp)]
  apply hJ
  clear hJ J
  have ok0 := layC_ok m lay ty
  obtain ⟨C0, hC0⟩ : ∃ C0, C0 = layC c s := ⟨_, rfl⟩
  rw [← hC0] at hs ok0
  have cc : C0.cfg = c := by rw [hC0]; rfl
  have cs : C0.s = s := by rw [hC0]; rfl
  have co : C0.out = false := by rw [hC0]; rfl
  have hcells := m.cells
  have hslots := m.slots
  obtain ⟨hp2, _⟩ := ok_pages ok0
  rw [cs] at hp2
  have lp : s.pages.length = a.2.1 := rd0.pg.len
  obtain ⟨q0, x0, hq0, hx0, hrd0⟩ := rd0.pg.at (j := 0) (by omega)
  obtain ⟨q1, x1, hq1, hx1, hrd1⟩ := rd0.pg.at (j := 1) (by omega)
  have hq : q0 = q1 := by rw [hq0] at hq1; injection hq1
  subst hq
  have pg0 : s.pages[0] = C0.pg 0 := by rw [← pg_at (C := C0) (by rw [cs]; omega)]; simp [cs]
  have pg1 : s.pages[1] = C0.pg 1 := by rw [← pg_at (C := C0) (by rw [cs]; omega)]; simp [cs]
  have len0 : (s.pages[0].length : Int) = 32 * c.cells := by have := ok0.fits.cells s.pages[0] (by rw [cs]; exact List.getElem_mem _); rw [cc] at this; exact this
  have len1 : (s.pages[1].length : Int) = 32 * c.cells := by have := ok0.fits.cells s.pages[1] (by rw [cs]; exact List.getElem_mem _); rw [cc] at this; exact this
  have xl0 : x0.2.1 = C0.cfg.cells.toNat := by have := hrd0.1; rw [ints_length] at this; rw [cc]; omega
  have xl1 : x1.2.1 = C0.cfg.cells.toNat := by have := hrd1.1; rw [ints_length] at this; rw [cc]; omega
  rw [pg0] at hrd0
  rw [pg1] at hrd1
  have lo : C0.cfg.cells.toNat < 2 ^ 60 := by rw [cc]; omega
  rw [Nat.zero_mul, addr_add0] at hx0
  rw [Nat.one_mul] at hx1
  refine ⟨_, _, _, hs.ld (i := 1) (.s .z) rfl, q0, hq0, by decide, by omega, _, _, _, hc_ext hs.ex hx0 (fun y => y), ?_⟩
  rw [xl0] at hrd0 ⊢
  refine Sound_at hs (hsv_ext hs.ex hrd0 (fun _ _ y => y)) lo ?_
  intro h3 hs
  refine ⟨_, _, _, hs.ld (i := 1) (.s .z) rfl, q0, hq0, by decide, by omega, _, _, _, hc_ext hs.ex hx1 (fun y => y), ?_⟩
  rw [xl1] at hrd1 ⊢
  refine Sound_at hs (hsv_ext hs.ex hrd1 (fun _ _ y => y)) lo ?_
  intro h4 hs J hJ
  by_cases s0 : soundM (C0.pg 0) C0.cfg.cells.toNat
  case neg =>
    rw [if_pos (by simpa using s0)]
    exact k _ hs.ex
  rw [if_neg (by simpa using s0)]
  by_cases s1 : soundM (C0.pg 1) C0.cfg.cells.toNat
  case neg =>
    rw [if_pos (by simpa using s1)]
    exact k _ hs.ex
  rw [if_neg (by simpa using s1)]
  apply hJ
  clear hJ J
  have snd0 : sndM C0 := by
    intro x hx
    have : x = 0 ∨ x = 1 := by omega
    rcases this with rfl | rfl
    · exact s0
    · exact s1
  refine ⟨_, rfl, ?_⟩
  refine Mount_sp hs (i := 0) .z (fun y => absurd (co.symm.trans y) (by decide)) ?_
  intro _ lp h5 hs J hJ
  rw [if_neg (by simp), if_neg (by simp)]
  apply hJ
  clear hJ J
  refine ⟨_, hs.ld (i := 3) (.s (.s (.s .z))) rfl, _, rfl, ?_⟩
  refine numbers_at hs (i := 1) (j := 0) (.s .z) .z co (by rw [cc]) ?_
  intro hb hc h6 hs J hJ
  refine loop_st ml (fun i (x : Nat × Nat × Nat) => [.dv (.one (.pointer (some ⟨x.1, 0, none⟩))), .dv (.one (.slice (some ⟨x.2.1, 0, none⟩) (c.slots + 1).toNat x.2.2)), si i])
    (fun i x h => ∃ C : Cm, C.cfg = c ∧ C.out = false ∧ sndM C ∧ Sat h0 [slE (some ⟨x.2.1, 0, none⟩) (c.slots + 1).toNat x.2.2 1 (ints .i64 (numL C)), logE x.1 px, chipE px C, blk n35 [a.v, b.v, c'.v], blk n32 [.int .i64 c.cells, .int .i64 c.slots, .int .i64 c.fuses, .int .i64 c.step, .int .i64 c.keys, .int .i64 c.erases, .int .i64 c.area]] h) ?_ ?_ 0 (lp, hb, hc) _ (by omega) ⟨C0, cc, co, snd0, hs⟩
  · rintro i ⟨lp, hb, hc⟩ h7 hi ⟨C, ec, eo, snd, hs⟩ hk
    dsimp only at hs ⊢
    apply hJ
    rw [ltI_eq, if_pos (by simp; omega), if_neg (by simp)]
    have ok := chip_ok hs (i := 2) (.s (.s .z))
    obtain ⟨q2, mp2, ml2, mc2, hq2, e0, e1, e2, e3, hrd, hok⟩ := rd.at_ i (by omega)
    obtain ⟨X, hX⟩ : ∃ X, X = sc[i] := ⟨_, rfl⟩
    rw [← hX] at e0 e1 e2 hrd hok
    refine ⟨_, hq2, by omega, by omega, ?_⟩
    simp only [Int.toNat_natCast]
    refine ⟨_, hc_ext hs.ex e0 (fun y => y), _, hs.ld (i := 4) (.s (.s (.s (.s .z)))) rfl, ?_⟩
    rw [wrap_id (by omega)]
    refine round_sp _ (by omega) (by omega) ?_
    obtain ⟨r0, r1⟩ := rnd_in X.slot (n := c.slots + 1) (by omega)
    obtain ⟨sl, hsl⟩ := Int.eq_ofNat_of_zero_le r0
    rw [hsl]
    have hsl2 : (sl : Int) ≤ C.cfg.slots := by rw [ec]; omega
    have hld : Go.Vc.hc h7 ⟨hb, sl, none⟩ = some (.int .i64 (numOf C sl)) := num_ld hs (i := 0) .z hsl2
    have hbd := (infoM_ok ok).nums sl
    have hmv := most_val
    refine ⟨_, rfl, by omega, by omega, ?_⟩
    simp only [Int.toNat_natCast, Nat.mul_one, add_mk, Nat.zero_add]
    refine ⟨_, hld, ?_⟩
    intro i108 hi108
    subst hi108
    rw [leI_eq]
    by_cases gm : most ≤ numOf C sl
    · rw [if_pos (by rw [decide_eq_true_iff]; exact gm)]
      rw [wrap_succ (by omega)]
      exact hk (lp, hb, hc) _ ⟨C, ec, eo, snd, hs⟩
    rw [if_neg (by rw [decide_eq_true_iff]; exact gm)]
    refine ⟨_, rfl, by omega, by omega, ?_⟩
    simp only [Int.toNat_natCast, Nat.mul_one, add_mk, Nat.zero_add]
    refine ⟨_, hld, _, hq2, by omega, by omega, _, hc_ext hs.ex e1 (fun y => y), _, rfl, by omega, by omega, ?_⟩
    simp only [Int.toNat_natCast, Nat.mul_one, add_mk, Nat.zero_add]
    refine ⟨_, hld, ?_⟩
    intro i116 hi116
    subst hi116
    refine round_sp _ (by decide) (by decide) ?_
    refine ⟨hcs_one hld, hcs_one hld, _, rfl, ?_⟩
    refine Acts_sp hs (i := 2) (.s (.s .z)) ?_
    refine ⟨_, hq2, by omega, by omega, _, hc_ext hs.ex e2 (fun y => y), _, hq2, by omega, by omega, _, _, _, hc_ext hs.ex e3 (fun y => y), _, rfl, ?_⟩
    have hml : X.mask.length = ml2 := by have := hrd.1; simpa using this
    have hmm := hok.ml
    refine Cut_sp hs (i := 2) (.s (.s .z)) X.at_ hok.at_ (hsv_ext hs.ex hrd (fun _ _ y => y)) hok.mb (by omega) ?_
    intro h8 hs
    simp only [put_succ, put_zero] at hs
    refine ⟨_, rfl, ?_⟩
    obtain ⟨o0, o1⟩ := rnd_in X.over (n := 1000) (by decide)
    have hnn : numOf C sl < IntKind.i64.wrap (IntKind.i64.wrap (numOf C sl + 1) + if IntKind.i64.wrap (4611686018427387903 - numOf C sl) < rndM X.over 1000 then IntKind.i64.wrap (4611686018427387903 - numOf C sl) else rndM X.over 1000) ∧
        IntKind.i64.wrap (IntKind.i64.wrap (numOf C sl + 1) + if IntKind.i64.wrap (4611686018427387903 - numOf C sl) < rndM X.over 1000 then IntKind.i64.wrap (4611686018427387903 - numOf C sl) else rndM X.over 1000) ≤ most := by
      unfold numOf at gm ⊢
      rw [wrap_id (n := 4611686018427387903 - _) (by omega), wrap_id (n := _ + 1) (by omega)]
      split
      · rw [wrap_id (by omega)]; omega
      · rw [wrap_id (by omega)]; omega
    generalize IntKind.i64.wrap (IntKind.i64.wrap (numOf C sl + 1) + if IntKind.i64.wrap (4611686018427387903 - numOf C sl) < rndM X.over 1000 then IntKind.i64.wrap (4611686018427387903 - numOf C sl) else rndM X.over 1000) = n at *
    obtain ⟨n0, n1⟩ := hnn
    obtain ⟨D, e, hL, L⟩ := lay_law (C := cutM C X.at_ X.mask) (cut_ok ok hok.at_ hok.mb (by omega)) eo snd (slot := sl) (n := n) hsl2 (by unfold numOf at n0; omega) n1 n0
    refine Lay9_sp hs (i := 2) (j := 1) (.s (.s .z)) (.s .z) (by decide) (sl : Int) n ?_
    intro h9 hs
    rw [hL] at hs ⊢
    simp only [put_succ, put_zero] at hs
    dsimp only at hs ⊢
    have cD : D.cfg = c := L.cfg.trans ec
    have okD := L.ok
    have oth : ∀ k : Nat, (k : Int) ≤ c.slots → k ≠ sl → numOf D k = numOf C k := fun k h1 h2 => L.other k (by show (k : Int) ≤ C.cfg.slots; rw [ec]; exact h1) h2
    have me : numOf D sl = numOf C sl ∨ numOf D sl = n := L.me
    have done_ := L.done
    have e9 : e = 9 → numOf D sl = numOf C sl := fun y => by rw [L.e9 y]; rfl
    intro J134 hJ134
    have way : ∀ h10, Sat h0 [slE (some ⟨hb, 0, none⟩) (c.slots + 1).toNat hc 1 (ints .i64 (numL C)), logE lp px, chipE px D, blk n35 [a.v, b.v, c'.v], blk n32 [.int .i64 c.cells, .int .i64 c.slots, .int .i64 c.fuses, .int .i64 c.step, .int .i64 c.keys, .int .i64 c.erases, .int .i64 c.area]] h10 → J134 [] h10 := by
      intro h10 hs
      apply hJ134
      clear hJ134 J134
      refine ⟨_, rfl, ?_⟩
      refine Restore_sp hs (i := 2) (.s (.s .z)) ?_
      intro h11 hs
      simp only [put_succ, put_zero] at hs
      refine ⟨_, rfl, ?_⟩
      refine Cut_sp (bs := []) hs (i := 2) (.s (.s .z)) (-1) (by decide) ⟨rfl, fun v hv => absurd hv List.not_mem_nil, Or.inl rfl⟩ (by intro x hx; simp at hx) (by decide) ?_
      intro h12 hs
      simp only [put_succ, put_zero] at hs
      obtain ⟨E, hE⟩ : ∃ E, E = againM D := ⟨_, rfl⟩
      replace hs : Sat h0 [slE (some ⟨hb, 0, none⟩) (c.slots + 1).toNat hc 1 (ints .i64 (numL C)), logE lp px, chipE px E, blk n35 [a.v, b.v, c'.v], blk n32 [.int .i64 c.cells, .int .i64 c.slots, .int .i64 c.fuses, .int .i64 c.step, .int .i64 c.keys, .int .i64 c.erases, .int .i64 c.area]] h12 := by rw [hE]; exact hs
      have eE : E.cfg = c := by rw [hE]; exact cD
      have eO : E.out = false := by rw [hE]; rfl
      have eS : sndM E := by rw [hE]; exact L.snd
      have eN : ∀ k, numOf E k = numOf D k := by intro k; rw [hE]; rfl
      refine ⟨_, rfl, ?_⟩
      refine Mount_sp hs (i := 2) (.s (.s .z)) (fun y => absurd (eO.symm.trans y) (by decide)) ?_
      intro _ lp2 h13 hs J hJ2
      rw [if_neg (by simp), if_neg (by simp)]
      apply hJ2
      clear hJ2 J
      refine ⟨_, hs.ld (i := 5) (.s (.s (.s (.s (.s .z))))) rfl, _, rfl, ?_⟩
      refine numbers_at hs (i := 3) (j := 0) (.s (.s (.s .z))) .z eO (by rw [eE]) ?_
      intro nb nc h14 hs
      refine ⟨_, hs.ld (i := 6) (.s (.s (.s (.s (.s (.s .z)))))) rfl, _, rfl, ?_⟩
      refine numbers_at hs (i := 4) (j := 1) (.s (.s (.s (.s .z)))) (.s .z) eO (by rw [eE]) ?_
      intro ab ac h15 hs J hJ2
      rw [if_neg (by simp), if_neg (by simp)]
      apply hJ2
      clear hJ2 J
      intro J hJ2
      refine loop_up (c.slots + 1).toNat (fun _ h => h = h15) ?_ ?_ 0 _ (by omega) rfl
      · rintro x h16 hx rfl hk2
        apply hJ2
        rw [ltI_eq, if_pos (by simp; omega)]
        have hx2 : (x : Int) ≤ c.slots := by omega
        have gA := num_ld hs (i := 0) .z (k := x) (by rw [eE]; exact hx2)
        have gN := num_ld hs (i := 1) (.s .z) (k := x) (by rw [eE]; exact hx2)
        have gH := num_ld hs (i := 3) (.s (.s (.s .z))) (k := x) (by rw [ec]; exact hx2)
        rw [eN] at gA gN
        rw [wrap_succ (by omega)]
        refine ⟨_, rfl, by omega, by omega, ?_⟩
        simp only [Int.toNat_natCast, Nat.mul_one, add_mk, Nat.zero_add]
        refine ⟨_, gA, _, rfl, by omega, by omega, ?_⟩
        simp only [Int.toNat_natCast, Nat.mul_one, add_mk, Nat.zero_add]
        refine ⟨_, gN, ?_⟩
        rw [if_neg (by simp)]
        by_cases ex : x = sl
        · subst ex
          rw [if_neg (by simp), if_pos (by simp)]
          refine ⟨_, rfl, by omega, by omega, ?_⟩
          simp only [Int.toNat_natCast, Nat.mul_one, add_mk, Nat.zero_add]
          refine ⟨_, gN, ?_⟩
          by_cases en : numOf D x = n
          · rw [if_neg (by simpa using en)]
            by_cases e9' : e = 9
            · rw [if_pos (by simpa using e9')]
              refine ⟨_, rfl, by omega, by omega, ?_⟩
              simp only [Int.toNat_natCast, Nat.mul_one, add_mk, Nat.zero_add]
              refine ⟨_, gN, _, rfl, by omega, by omega, ?_⟩
              simp only [Int.toNat_natCast, Nat.mul_one, add_mk, Nat.zero_add]
              refine ⟨_, gH, ?_⟩
              rw [if_neg (by simpa using e9 e9')]
              exact hk2 _ rfl
            · rw [if_neg (by simpa using e9')]
              exact hk2 _ rfl
          · have eh : numOf D x = numOf C x := by
              rcases me with y | y
              · exact y
              · exact absurd y en
            rw [if_pos (by simpa using en)]
            refine ⟨_, rfl, by omega, by omega, ?_⟩
            simp only [Int.toNat_natCast, Nat.mul_one, add_mk, Nat.zero_add]
            refine ⟨_, gN, _, rfl, by omega, by omega, ?_⟩
            simp only [Int.toNat_natCast, Nat.mul_one, add_mk, Nat.zero_add]
            refine ⟨_, gH, ?_⟩
            rw [if_neg (by simpa using eh), if_neg (by simpa using fun y => en (done_ y))]
            by_cases e9' : e = 9
            · rw [if_pos (by simpa using e9')]
              refine ⟨_, rfl, by omega, by omega, ?_⟩
              simp only [Int.toNat_natCast, Nat.mul_one, add_mk, Nat.zero_add]
              refine ⟨_, gN, _, rfl, by omega, by omega, ?_⟩
              simp only [Int.toNat_natCast, Nat.mul_one, add_mk, Nat.zero_add]
              refine ⟨_, gH, ?_⟩
              rw [if_neg (by simpa using eh)]
              exact hk2 _ rfl
            · rw [if_neg (by simpa using e9')]
              exact hk2 _ rfl
        · have eh := oth x hx2 ex
          have exi : ¬ ((x : Int) = (sl : Int)) := by omega
          rw [if_pos (by simpa using exi)]
          refine ⟨_, rfl, by omega, by omega, ?_⟩
          simp only [Int.toNat_natCast, Nat.mul_one, add_mk, Nat.zero_add]
          refine ⟨_, gN, _, rfl, by omega, by omega, ?_⟩
          simp only [Int.toNat_natCast, Nat.mul_one, add_mk, Nat.zero_add]
          refine ⟨_, gH, ?_⟩
          rw [if_neg (by simpa using eh), if_neg (by simpa using exi)]
          by_cases e9' : e = 9
          · rw [if_pos (by simpa using e9')]
            refine ⟨_, rfl, by omega, by omega, ?_⟩
            simp only [Int.toNat_natCast, Nat.mul_one, add_mk, Nat.zero_add]
            refine ⟨_, gN, _, rfl, by omega, by omega, ?_⟩
            simp only [Int.toNat_natCast, Nat.mul_one, add_mk, Nat.zero_add]
            refine ⟨_, gH, ?_⟩
            rw [if_neg (by simpa using eh)]
            exact hk2 _ rfl
          · rw [if_neg (by simpa using e9')]
            exact hk2 _ rfl
      · rintro h16 rfl
        apply hJ2
        rw [ltI_eq, if_neg (by simp)]
        rw [wrap_succ (by omega)]
        exact hk (lp2, nb, nc) _ ⟨E, eE, eO, eS, hs.sub (by (repeat (first | exact List.Sublist.refl _ | apply List.Sublist.cons_cons | apply List.Sublist.cons)))⟩
    by_cases c0 : e = 0
    · rw [if_neg (by simpa using c0), if_neg (by rw [c0]; decide)]
      exact way _ hs
    rw [if_pos (by simpa using c0)]
    by_cases c8 : e = 8
    · rw [if_neg (by simpa using c8), if_neg (by rw [c8]; decide)]
      exact way _ hs
    have c9 : e = 9 := by have := L.ec; omega
    rw [if_pos (by simpa using c8), if_neg (by simpa using c9), if_pos (by simpa using c9)]
    refine ⟨_, rfl, ?_⟩
    refine Acts_sp hs (i := 2) (.s (.s .z)) ?_
    have ea : D.acts = C.acts := by rw [L.e9 c9]; rfl
    rw [if_neg (by simpa using ea)]
    exact way _ hs
  · rintro ⟨lp, hb, hc⟩ h7 ⟨C, ec, eo, snd, hs⟩
    dsimp only at hs ⊢
    apply hJ
    rw [ltI_eq, if_neg (by simp)]
    have ok := chip_ok hs (i := 2) (.s (.s .z))
    obtain ⟨hp3, _⟩ := ok_pages ok
    refine ⟨_, rfl, ?_⟩
    refine State_sp hs (i := 2) (.s (.s .z)) ?_
    intro a2 b2 c2 h8 hs
    intro n237 _ hn; replace hs := Sat.new hs hn; clear hn
    refine ⟨Sat.can hs (i := 0) .z (by decide), ?_⟩
    intro h9 e9
    replace hs := Sat.wra hs (i := 0) .z e9 rfl
    clear e9
    simp only [put] at hs
    have rdm := hs.rdM (i := 1) (.s .z)
    have lm := rdm.len
    obtain ⟨q, x, hq, hx, hrd⟩ := rdm.at (j := 0) (by omega)
    rw [Nat.zero_mul, addr_add0] at hx
    have len0 := ok.fits.cells C.s.pages[0] (List.getElem_mem _)
    have hmay := ok.may.cells
    have xl : x.2.1 = C.cfg.cells.toNat := by have := hrd.1; rw [ints_length] at this; omega
    have lo2 : C.cfg.cells.toNat < 2 ^ 60 := by omega
    refine ⟨_, _, _, hs.ld (i := 0) .z rfl, q, hq, by decide, by omega, _, _, _, hx, ?_⟩
    rw [xl] at hrd ⊢
    rw [pg_at] at hrd
    refine Sound_at hs hrd lo2 ?_
    intro h10 hs
    have rdm := hs.rdM (i := 1) (.s .z)
    obtain ⟨q, x, hq, hx, hrd⟩ := rdm.at (j := 1) (by omega)
    rw [Nat.one_mul] at hx
    have len1 := ok.fits.cells C.s.pages[1] (List.getElem_mem _)
    have xl : x.2.1 = C.cfg.cells.toNat := by have := hrd.1; rw [ints_length] at this; omega
    refine ⟨_, _, _, hs.ld (i := 0) .z rfl, q, hq, by decide, by omega, _, _, _, hx, ?_⟩
    rw [xl] at hrd ⊢
    rw [pg_at] at hrd
    refine Sound_at hs hrd lo2 ?_
    intro h11 hs
    rw [decide_eq_true (snd 0 (by decide)), decide_eq_true (snd 1 (by decide)), if_pos rfl]
    exact k _ hs.ex
end Go.Proofs.Yteabcbpimjjdpaa
end

/- LogWhole: over a chip of which the pages are sound, lays at any of which the power goes leave each number as it was or as it is to be; for every input. -/
section
set_option maxRecDepth 100000
set_option linter.unusedVariables false
namespace Go.Proofs.Yteabcbpimjjdpaa
open Go Go.Vc Go.ChangeShapes Go.WideShapes Go.ChangeAt Go.RowKit

theorem LogWhole_calls {D : Type} {enc : TypeId × Value → D} {W : World} {base : Nat} (vs : List Value) (h : ArgsOk enc PP W base [23, 49, 24] vs) : CallsTrue PP 4 vs W := by
  obtain ⟨hl, h⟩ := h
  match vs, hl with
  | [v0, v1, v2], _ =>
  obtain ⟨r0, w0⟩ := h 0 _ v0 rfl rfl
  obtain ⟨r1, w1⟩ := h 1 _ v1 rfl rfl
  obtain ⟨r2, w2⟩ := h 2 _ v2 rfl rfl
  obtain ⟨c, rfl⟩ := cfg_of r0 w0
  obtain ⟨a, b, c', s, rfl, rd, ty, sm⟩ := chip_of r1 w1
  obtain ⟨p, l, cc, rfl, hsl⟩ := slice_of (e := 36) (by kernel_rfl) r2 w2
  obtain ⟨sc, hsc⟩ := scriptL_of hsl
  have := R_portcullislaw09_LogWhole [.agg (c.vals.map .c), .agg [.c a.v, .c b.v, .c c'.v], .one (.slice p l cc)] (fun rs h' => rs = [DV.one (.bool true)] ∧ Ext none_ W.heap h') W.heap (by
    intro x hx
    simp only [List.mem_cons, List.not_mem_nil, or_false] at hx
    rcases hx with rfl | rfl | rfl
    · exact ok_cfg c
    · exact ok_chip a b c'
    · rfl) (by
    show F_portcullislaw09_LogWhole c.cells c.slots c.fuses c.step c.keys c.erases c.area a.1 a.2.1 a.2.2 b.1 b.2.1 b.2.2 c'.1 c'.2.1 c'.2.2 p l cc (fun b h' => [DV.one (.bool b)] = [DV.one (.bool true)] ∧ Ext none_ W.heap h') W.heap
    exact LogWhole_sp c s rd ty sc hsc fun h' x => ⟨rfl, x⟩)
  exact this
theorem LogWhole_lifted (os : Os) (started : os.Started) (D : Type) (enc : TypeId × Value → D) :
    ReturnsInHanded {} Try.checked os 4 .any (Rows.logWholeSpec.pre6 enc Try.prog Try.f4 Rows.logWholeRow.domain false) (Rows.logWholeSpec.post enc Try.prog Try.f4 false true false false) := by
  refine returnsInHanded_of_change_sized (C := Try.checked) Try.own started (by kernel_rfl) Try.func4
    (ChangeSpec.witness6 (enc := enc) (C := Try.checked) false ⟨#[], #[.agg #[.int .i64 0, .int .i64 0, .int .i64 0, .int .i64 0, .int .i64 0, .int .i64 0, .int .i64 0], .agg #[.slice none 0 0, .slice none 0 0, .slice none 0 0], .slice none 0 0], []⟩ 8 (by kernel_rfl) (by kernel_rfl) (by kernel_rfl) (by kernel_rfl)) ?_
  intro W base args ds gs before hval hW hcnd hsz _
  exact law_go (P := Try.prog) (fn := Try.f4) (s := Rows.logWholeSpec) [23, 49, 24] (by kernel_rfl) Try.laidOut rfl (by kernel_rfl) (by kernel_rfl) Try.ubool
    (fun ds hl => match ds, hl with | [d1, d2, d3], _ => rfl) hval hW hsz LogWhole_calls

theorem LogWhole_holds : Rows.LogWholeSaid :=
  OpenClaim.holds_of_wide 4 Try.f4 rfl rfl rfl rfl rfl rfl rfl ⟨rfl, rfl, rfl, rfl, rfl⟩ rfl rfl rfl rfl rfl (by kernel_rfl) Try.func4 (by kernel_rfl)
    (of_decide_eq_true (by kernel_rfl)) (by unfold Func.isWrapper; first | (rw [if_pos (by decide +kernel)]; kernel_rfl) | (rw [if_neg (by decide +kernel)]; exact ⟨rfl, rfl⟩))
    (fun os started H enc _ => LogWhole_lifted os started H enc)

end Go.Proofs.Yteabcbpimjjdpaa
end
