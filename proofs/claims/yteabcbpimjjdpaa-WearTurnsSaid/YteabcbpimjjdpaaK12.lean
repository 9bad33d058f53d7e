/- WearTurns: what is proved and its parts, laid together by a program of ours: Lw3 Lw4 Lw5 Lx1 Mp Wr1 Wr2 Wr3 St1 St5 St6 Wl1 Wl2 Wr4 Ly4 Wl3 RwWearTurns -/
import Derived.Test.YteabcbpimjjdpaaK11
set_option autoImplicit false
set_option linter.all false
/- The log's laws, plain: what a lay leaves of the numbers. Own work. -/
section
set_option maxRecDepth 100000
set_option linter.unusedVariables false
namespace Go.Proofs.Yteabcbpimjjdpaa
open Go Go.Vc
section
variable {u : Bool}

theorem pI_eq {C D : Cm} (hc : D.cfg = C.cfg) {y : Nat} (h : D.pg y = C.pg y) : pI D y = pI C y := by unfold pI; rw [hc, h]
theorem tgt_cases (C : Cm) : (tgtM C = 1 ∧ presM C = 0) ∨ (tgtM C = 0 ∧ presM C = 1) ∨ (tgtM C = 0 ∧ presM C = -1) := by
  unfold tgtM
  rcases presM_cases C with h | h | h <;> simp [h]
theorem same_info {C D : Cm} (hc : D.cfg = C.cfg) (hp : ∀ y, y ≠ tgtM C → D.pg y = C.pg y) (hh : (pI D (tgtM C)).head = 0 ∨ (pI D (tgtM C)).head = (pI C (tgtM C)).head) (h0 : 0 ≤ (pI C 0).head) (h1 : 0 ≤ (pI C 1).head) :
    presM D = presM C ∧ infoM D = infoM C := by
  have key : presM D = presM C := by
    rcases tgt_cases C with ⟨t, p⟩ | ⟨t, p⟩ | ⟨t, p⟩
    · rw [t] at hp hh
      have e := pI_eq hc (hp 0 (by omega))
      rw [p]
      unfold presM presH at p ⊢
      rw [e]
      generalize (pI D 1).head = x at *
      generalize (pI C 1).head = y at *
      generalize (pI C 0).head = z at *
      split at p
      · rw [if_pos (by omega)]
      · split at p <;> exact absurd p (by decide)
    · rw [t] at hp hh
      have e := pI_eq hc (hp 1 (by omega))
      rw [p]
      unfold presM presH at p ⊢
      rw [e]
      generalize (pI D 0).head = x at *
      generalize (pI C 1).head = y at *
      generalize (pI C 0).head = z at *
      split at p
      · exact absurd p (by decide)
      · split at p
        · rw [if_neg (by omega), if_pos (by omega)]
        · exact absurd p (by decide)
    · rw [t] at hp hh
      have e := pI_eq hc (hp 1 (by omega))
      rw [p]
      unfold presM presH at p ⊢
      rw [e]
      generalize (pI D 0).head = x at *
      generalize (pI C 1).head = y at *
      generalize (pI C 0).head = z at *
      split at p
      · exact absurd p (by decide)
      · split at p
        · exact absurd p (by decide)
        · rw [if_neg (by omega), if_neg (by omega)]
  refine ⟨key, ?_⟩
  unfold infoM
  rw [key]
  rcases tgt_cases C with ⟨t, p⟩ | ⟨t, p⟩ | ⟨t, p⟩
  · rw [p, if_neg (by decide), if_neg (by decide)]
    exact pI_eq hc (hp 0 (by omega))
  · rw [p, if_neg (by decide), if_neg (by decide)]
    exact pI_eq hc (hp 1 (by omega))
  · rw [p, if_pos (by decide), if_pos (by decide)]
theorem turned_info {C D : Cm} (hc : D.cfg = C.cfg) (hp : ∀ y, y ≠ tgtM C → D.pg y = C.pg y) (hh : (pI D (tgtM C)).head = (infoM C).head + 1) (h0 : 0 ≤ (pI C 0).head) (h1 : 0 ≤ (pI C 1).head) (h2 : 0 ≤ (infoM C).head) :
    presM D = (tgtM C : Int) ∧ infoM D = pI D (tgtM C) := by
  have key : presM D = (tgtM C : Int) := by
    rcases tgt_cases C with ⟨t, p⟩ | ⟨t, p⟩ | ⟨t, p⟩
    · rw [t] at hp hh ⊢
      have e := pI_eq hc (hp 0 (by omega))
      have ei : infoM C = pI C 0 := by unfold infoM; rw [p]; rfl
      rw [ei] at hh h2
      unfold presM presH
      rw [e, if_neg (by omega), if_pos (by omega)]; rfl
    · rw [t] at hp hh ⊢
      have e := pI_eq hc (hp 1 (by omega))
      have ei : infoM C = pI C 1 := by unfold infoM; rw [p]; rfl
      rw [ei] at hh h2
      unfold presM presH
      rw [e, if_pos (by omega)]; rfl
    · rw [t] at hp hh ⊢
      have e := pI_eq hc (hp 1 (by omega))
      unfold presM presH at p ⊢
      rw [e]
      split at p
      · exact absurd p (by decide)
      · split at p
        · exact absurd p (by decide)
        · rw [if_pos (by omega)]; rfl
  refine ⟨key, ?_⟩
  unfold infoM
  rw [key, if_neg (by omega), Int.toNat_natCast]
theorem head_eq (C : Cm) (t : Nat) : (pI C t).head = (ofM (C.pg t) (lOf C)).head := rfl
/-- What a lay leaves. -/
structure Laid (u : Bool) (C D : Cm) (slot : Nat) (n e : Int) : Prop where
  ok : D.ok
  cfg : D.cfg = C.cfg
  snd : sndU u D
  ec : e = 0 ∨ e = 8 ∨ e = 9
  e9 : e = 9 → D = C
  out0 : e = 0 → D.out = false
  other : ∀ k : Nat, (k : Int) ≤ C.cfg.slots → k ≠ slot → numOf D k = numOf C k
  me : numOf D slot = numOf C slot ∨ numOf D slot = n
  done : e = 0 → numOf D slot = n
theorem place_law {C : Cm} {slot : Nat} {n : Int} (ok : C.ok) (ho : C.out = false) (snd : sndU u C) (hs : (slot : Int) ≤ C.cfg.slots) (hn1 : 1 ≤ n) (hn2 : n ≤ most) (hv : numOf C slot < n) (hp : 0 ≤ presM C) (hx : (infoM C).next < C.cfg.cells) :
    ∃ D e, programM C (presM C) (infoM C).next (valueM (slot : Int) n).1 = (D, e) ∧ Laid u C D slot n e ∧ Part u C D (presM C).toNat 1 e ∧ (∀ x, D.er x = C.er x) ∧ (0 ≤ C.acts → C.acts < 2 ^ 60 → D.acts = C.acts + 1) ∧ presM D = presM C ∧
      (∀ k : Nat, (infoM C).next + 1 ≤ (k : Int) → k < lOf C → (rk (D.pg (presM C).toNat) k).1 = 0) ∧ (infoM D).head = (infoM C).head ∧ (∀ k : Nat, (k : Int) = (infoM C).next → e = 0 → (rk (D.pg (presM C).toNat) k).1 ≠ 0) := by
  have hms := ok.may.slots
  have hcells := ok.may.cells
  obtain ⟨t, ht⟩ : ∃ t : Nat, presM C = (t : Int) := Int.eq_ofNat_of_zero_le hp
  have ht2 : t < 2 := by have := presM_cases C; omega
  have ei : infoM C = pI C t := by unfold infoM; rw [if_neg (by omega), ht, Int.toNat_natCast]
  have iok := pI_ok ok t
  have hh : 0 < (pI C t).head := by
    have : presM C = t := ht
    unfold presM presH at this
    have h2 : t = 0 ∨ t = 1 := by omega
    rcases h2 with rfl | rfl
    · split at this
      · omega
      · split at this <;> exact absurd this (by decide)
    · split at this
      · exact absurd this (by decide)
      · split at this
        · omega
        · exact absurd this (by decide)
  have hnx1 : 1 ≤ (pI C t).next := by
    have hb := ofM_blank (C.pg t) (lOf C) (by show C.cfg.cells.toNat < _; omega)
    rcases Int.lt_or_le 0 (pI C t).next with h | h
    · omega
    · have := iok.next.1
      have e : (ofM (C.pg t) (lOf C)).next = 0 := by show (pI C t).next = 0; omega
      have : ofM (C.pg t) (lOf C) = inf0 := hb.1 e
      rw [head_eq, this] at hh
      exact absurd hh (by decide)
  rw [ei, ht]
  rw [ei] at hx
  obtain ⟨q, hq⟩ : ∃ q : Nat, (pI C t).next = (q : Int) := Int.eq_ofNat_of_zero_le (by omega)
  rw [hq] at hx hnx1 ⊢
  have hql : q < lOf C := by show q < C.cfg.cells.toNat; omega
  have hbl : ∀ k : Nat, q ≤ k → k < lOf C → (rk (C.pg t) k).1 = 0 := fun k k1 k2 => ofM_next (r := C.pg t) (n := lOf C) (by show C.cfg.cells.toNat < _; omega) k (by show (pI C t).next ≤ _; omega) k2
  rw [value_laid (by omega) hn1 hn2, Int.toNat_natCast]
  obtain ⟨D, e, p1, p2, p3, p4, p5, p6, p7⟩ := prog_part ok ho ht2 hql (kind := 2) (slot := (slot : Int)) (n := n) ⟨by decide, by decide⟩ snd (hbl q (by omega) hql)
  have hlo : lOf D = lOf C := by show D.cfg.cells.toNat = _; rw [p2.cfg]
  have hv' : (ofM (C.pg t) (lOf C)).nums.getD slot 0 < n := by
    have : numOf C slot = (ofM (C.pg t) (lOf C)).nums.getD slot 0 := by show (infoM C).nums.getD slot 0 = _; rw [ei]; rfl
    omega
  obtain ⟨q1, q2, q3⟩ := put_nums (r := C.pg t) (z := D.pg t) hql (by omega) p4 hbl (x := slot) (by omega) hn1 hn2 hv' p5
  have hhd : (pI D t).head = (pI C t).head := by rw [head_eq, head_eq, hlo]; exact q3
  have hpr : presM D = presM C := by
    unfold presM
    have h2 : t = 0 ∨ t = 1 := by omega
    rcases h2 with rfl | rfl
    · rw [hhd, pI_eq p2.cfg (p2.pgs 1 (by omega))]
    · rw [hhd, pI_eq p2.cfg (p2.pgs 0 (by omega))]
  have eiD : infoM D = pI D t := by unfold infoM; rw [hpr, if_neg (by omega), ht, Int.toNat_natCast]
  have nC : ∀ k, numOf C k = (ofM (C.pg t) (lOf C)).nums.getD k 0 := fun k => by show (infoM C).nums.getD k 0 = _; rw [ei]; rfl
  have nD : ∀ k, numOf D k = (ofM (D.pg t) (lOf C)).nums.getD k 0 := fun k => by show (infoM D).nums.getD k 0 = _; rw [eiD, ← hlo]; rfl
  have hset : ∀ k, ((ofM (C.pg t) (lOf C)).nums.set slot n).getD k 0 = if slot = k ∧ k < 9 then n else (ofM (C.pg t) (lOf C)).nums.getD k 0 := fun k => by rw [set_getD, ofM_len]
  refine ⟨D, e, p1, ⟨p2.ok, p2.cfg, p2.snd, ?_, ?_, p2.out0, ?_, ?_, ?_⟩, p2, p3, p7, hpr.trans ht, ?_, by rw [eiD]; exact hhd, ?_⟩
  · rcases p2.ec with h | h
    · exact Or.inl h
    · exact Or.inr (Or.inl h)
  · intro h
    have := p2.ec
    omega
  · intro k hk hne
    rw [nC, nD]
    rcases q1 with h | h
    · rw [h]
    · rw [h, hset, if_neg (fun y => hne y.1.symm)]
  · rw [nC, nD]
    rcases q1 with h | h
    · left; rw [h]
    · right; rw [h, hset, if_pos ⟨rfl, by omega⟩]
  · intro h
    rw [nD, q2 (p6 h), hset, if_pos ⟨rfl, by omega⟩]
  · intro k k1 k2
    rw [p4 k k2 (by omega)]
    exact hbl k (by omega) k2
  · intro k k1 he
    have : k = q := by omega
    rw [this, p6 he, rec_value (by omega) (by omega) hn1 hn2]
    exact fun y => absurd (show (2 : Int) = 0 from y) (by decide)
theorem lay_law {C : Cm} {slot : Nat} {n : Int} (ok : C.ok) (ho : C.out = false) (snd : sndU u C) (hs : (slot : Int) ≤ C.cfg.slots) (hn1 : 1 ≤ n) (hn2 : n ≤ most) (hv : numOf C slot < n) :
    ∃ D e, layL C (slot : Int) n = (D, e) ∧ Laid u C D slot n e := by
  unfold layL
  rw [if_neg (by simp [ho]), if_neg (fun y => y ⟨by omega, hs, hn1, hn2⟩), Int.toNat_natCast, if_neg (by unfold numOf at hv; omega)]
  by_cases g : 0 ≤ presM C ∧ (infoM C).next < C.cfg.cells
  · rw [if_pos g]
    obtain ⟨D, e, d1, d2, _⟩ := place_law ok ho snd hs hn1 hn2 hv g.1 g.2
    exact ⟨D, e, d1, d2⟩
  rw [if_neg g]
  by_cases gw : wornF C = true
  · rw [if_pos gw]
    exact ⟨C, 9, rfl, ok, rfl, snd, Or.inr (Or.inr rfl), fun _ => rfl, fun y => absurd y (by decide), fun _ _ _ => rfl, Or.inl rfl, fun y => absurd y (by decide)⟩
  rw [if_neg gw]
  obtain ⟨D, e, d1, d2⟩ := turn_law ok ho snd hs hn1 hn2 (by simpa using gw)
  have hms := ok.may.slots
  have h0 := (pI_ok ok 0).head.1
  have h1 := (pI_ok ok 1).head.1
  have h2 := (infoM_ok ok).head.1
  have ilen := infoM_len C
  have set9 : ∀ k, ((infoM C).nums.set slot n).getD k 0 = if slot = k ∧ k < 9 then n else numOf C k := fun k => by rw [set_getD, ilen]
  have turned : ((pI D (tgtM C)).head = (infoM C).head + 1 ∧ ∀ k : Nat, (k : Int) ≤ C.cfg.slots → nof D (tgtM C) k = ((infoM C).nums.set slot n).getD k 0) → (∀ k : Nat, (k : Int) ≤ C.cfg.slots → k ≠ slot → numOf D k = numOf C k) ∧ numOf D slot = n := by
    rintro ⟨y1, y2⟩
    obtain ⟨_, ei⟩ := turned_info d2.part.cfg d2.part.pgs y1 h0 h1 h2
    have nD : ∀ k, numOf D k = nof D (tgtM C) k := fun k => by show (infoM D).nums.getD k 0 = _; rw [ei]
    refine ⟨fun k hk hne => ?_, ?_⟩
    · rw [nD, y2 k hk, set9, if_neg (fun y => hne y.1.symm)]
    · rw [nD, y2 slot hs, set9, if_pos ⟨rfl, by omega⟩]
  have keep : ((pI D (tgtM C)).head = 0 ∨ (pI D (tgtM C)).head = (pI C (tgtM C)).head) → ∀ k, numOf D k = numOf C k := by
    intro y k
    obtain ⟨_, ei⟩ := same_info d2.part.cfg d2.part.pgs y h0 h1
    show (infoM D).nums.getD k 0 = _
    rw [ei]
  refine ⟨D, e, d1, d2.part.ok, d2.part.cfg, d2.part.snd, ?_, ?_, d2.part.out0, ?_, ?_, fun y => (turned (d2.headf y)).2⟩
  · rcases d2.part.ec with h | h
    · exact Or.inl h
    · exact Or.inr (Or.inl h)
  · intro h
    have := d2.part.ec
    omega
  · intro k hk hne
    rcases d2.head with h | h | h
    · exact keep (Or.inl h) k
    · exact keep (Or.inr h) k
    · exact (turned h).1 k hk hne
  · rcases d2.head with h | h | h
    · exact Or.inl (keep (Or.inl h) slot)
    · exact Or.inl (keep (Or.inr h) slot)
    · exact Or.inr (turned h).2
end
end Go.Proofs.Yteabcbpimjjdpaa
end

/- The log's laws, plain: how lays wear the pages. Own work. -/
section
set_option maxRecDepth 100000
set_option linter.unusedVariables false
namespace Go.Proofs.Yteabcbpimjjdpaa
open Go Go.Vc

def bet (C : Cm) (t : Nat) : Int := if (pI C t).blank = true then 1 else 0
def kap (C : Cm) : Int := if presM C = 0 then 1 else 0
structure Wear (C : Cm) (cuts : Int) : Prop where
  inv : ∃ x y : Int, 0 ≤ x ∧ 0 ≤ y ∧ x + y ≤ cuts ∧ C.er 0 - C.er 1 = kap C + (bet C 0 - bet C 1) + (x - y)
  e0 : 0 ≤ C.er 0 ∧ C.er 0 ≤ C.cfg.erases
  e1 : 0 ≤ C.er 1 ∧ C.er 1 ≤ C.cfg.erases
theorem bet_cases (C : Cm) (t : Nat) : (bet C t = 0 ∧ (pI C t).blank = false) ∨ (bet C t = 1 ∧ (pI C t).blank = true) := by
  unfold bet
  by_cases g : (pI C t).blank = true
  · rw [if_pos g]; exact Or.inr ⟨rfl, g⟩
  · rw [if_neg g]; exact Or.inl ⟨rfl, by simpa using g⟩
theorem bet_head {C : Cm} (ok : C.ok) {t : Nat} (h : 0 < (pI C t).head) : bet C t = 0 := by
  have hm := ok.may.cells
  rcases bet_cases C t with g | ⟨_, g⟩
  · exact g.1
  · have : decide ((ofM (C.pg t) (lOf C)).next = 0) = true := g
    have e := (ofM_blank (C.pg t) (lOf C) (by show C.cfg.cells.toNat < _; omega)).1 (of_decide_eq_true this)
    rw [head_eq, e] at h
    exact absurd h (by decide)
theorem bet_eq {C D : Cm} (hc : D.cfg = C.cfg) {y : Nat} (h : D.pg y = C.pg y) : bet D y = bet C y := by unfold bet; rw [pI_eq hc h]
theorem pres_head {C : Cm} {t : Nat} (h : presM C = (t : Int)) : 0 < (pI C t).head := by
  have h2 : t = 0 ∨ t = 1 := by have := presM_cases C; omega
  unfold presM presH at h
  rcases h2 with rfl | rfl
  · split at h
    · omega
    · split at h <;> exact absurd h (by decide)
  · split at h
    · exact absurd h (by decide)
    · split at h
      · omega
      · exact absurd h (by decide)
theorem lay_wear {u : Bool} {C : Cm} {slot : Nat} {n cuts : Int} (ok : C.ok) (ho : C.out = false) (snd : sndU u C) (hs : (slot : Int) ≤ C.cfg.slots) (hn1 : 1 ≤ n) (hn2 : n ≤ most) (hv : numOf C slot < n) (w : Wear C cuts) (a0 : 0 ≤ C.acts) (a1 : C.acts < 2 ^ 59) :
    ∃ D e, layL C (slot : Int) n = (D, e) ∧ Laid u C D slot n e ∧ Wear D (if e = 8 then cuts + 1 else cuts) ∧ (0 < freeT C → D.acts = C.acts + 1 ∧ e ≠ 9) ∧ C.acts ≤ D.acts ∧ D.acts ≤ C.acts + C.cfg.slots + 3 := by
  obtain ⟨D, e, hL, L⟩ := lay_law ok ho snd hs hn1 hn2 hv
  have hms := ok.may.slots
  obtain ⟨⟨x, y, x0, y0, xy, eq⟩, w0, w1⟩ := w
  refine ⟨D, e, hL, L, ?_⟩
  unfold layL at hL
  rw [if_neg (by simp [ho]), if_neg (fun y => y ⟨by omega, hs, hn1, hn2⟩), Int.toNat_natCast, if_neg (by unfold numOf at hv; omega)] at hL
  by_cases g : 0 ≤ presM C ∧ (infoM C).next < C.cfg.cells
  · rw [if_pos g] at hL
    obtain ⟨D', e', d1, d2, d3, d4, d5, d6, _⟩ := place_law ok ho snd hs hn1 hn2 hv g.1 g.2
    rw [d1] at hL
    injection hL with hD he
    subst hD he
    have ha := d5 a0 (by omega)
    have e9 : e' ≠ 9 := by have := d3.ec; omega
    refine ⟨⟨⟨x, y, x0, y0, by split <;> omega, ?_⟩, by rw [d4, d2.cfg]; exact w0, by rw [d4, d2.cfg]; exact w1⟩, fun _ => ⟨ha, e9⟩, by omega, by omega⟩
    rw [d4, d4, eq]
    have ek : kap D' = kap C := by unfold kap; rw [d6]
    rw [ek]
    obtain ⟨t, ht⟩ : ∃ t : Nat, presM C = (t : Int) := Int.eq_ofNat_of_zero_le g.1
    have ht2 : t = 0 ∨ t = 1 := by have := presM_cases C; omega
    have b1 := bet_head ok (pres_head ht)
    have b2 := bet_head d2.ok (pres_head (d6.trans ht))
    rw [ht, Int.toNat_natCast] at d3
    rcases ht2 with rfl | rfl
    · rw [b1, b2, bet_eq d2.cfg (d3.pgs 1 (by omega))]
    · rw [b1, b2, bet_eq d2.cfg (d3.pgs 0 (by omega))]
  rw [if_neg g] at hL
  have hf : ¬ 0 < freeT C := by
    unfold freeT
    rw [if_neg (by simp [ho])]
    split
    · omega
    · intro z; exact g ⟨by omega, by omega⟩
  by_cases gw : wornF C = true
  · rw [if_pos gw] at hL
    injection hL with hD he
    subst hD he
    exact ⟨⟨⟨x, y, x0, y0, by rw [if_neg (by decide)]; exact xy, eq⟩, w0, w1⟩, fun z => absurd z hf, by omega, by omega⟩
  rw [if_neg gw] at hL
  obtain ⟨D', e', d1, d2⟩ := turn_law ok ho snd hs hn1 hn2 (by simpa using gw)
  rw [d1] at hL
  injection hL with hD he
  subst hD he
  have h0 := (pI_ok ok 0).head.1
  have h1 := (pI_ok ok 1).head.1
  have h2 := (infoM_ok ok).head.1
  have ha := d2.part.acts a0 (by omega)
  have hec := d2.part.ec
  have cuts' : cuts ≤ (if e' = 8 then cuts + 1 else cuts) := by split <;> omega
  -- a turn that went on to its end, or to its head
  have flip : (pI D' (tgtM C)).head = (infoM C).head + 1 → Wear D' (if e' = 8 then cuts + 1 else cuts) := by
    intro hh
    obtain ⟨ep, _⟩ := turned_info d2.part.cfg d2.part.pgs hh h0 h1 h2
    have bt := bet_head d2.part.ok (t := tgtM C) (by omega)
    have er1 := d2.ert
    have erb := d2.erb
    have ern := d2.ern
    have ero := d2.ero
    have pgs := d2.part.pgs
    have cfg := d2.part.cfg
    rcases tgt_cases C with ⟨t, pc⟩ | ⟨t, pc⟩ | ⟨t, pc⟩
    · rw [t] at ep bt er1 erb ern ero pgs
      have k1 : kap D' = 0 := by unfold kap; rw [ep]; rfl
      have k2 : kap C = 1 := by unfold kap; rw [pc]; rfl
      have b0 := bet_eq cfg (pgs 0 (by decide))
      have e0 := ero 0 (by decide)
      refine ⟨⟨x, y, x0, y0, by omega, ?_⟩, by rw [e0, cfg]; exact w0, by rw [cfg]; omega⟩
      rw [e0, b0, k1, bt]
      rcases bet_cases C 1 with ⟨c1, c2⟩ | ⟨c1, c2⟩
      · rw [ern c2]; omega
      · rw [erb c2]; omega
    · rw [t] at ep bt er1 erb ern ero pgs
      have k1 : kap D' = 1 := by unfold kap; rw [ep]; rfl
      have k2 : kap C = 0 := by unfold kap; rw [pc]; rfl
      have b0 := bet_eq cfg (pgs 1 (by decide))
      have e0 := ero 1 (by decide)
      refine ⟨⟨x, y, x0, y0, by omega, ?_⟩, by rw [cfg]; omega, by rw [e0, cfg]; exact w1⟩
      rw [e0, b0, k1, bt]
      rcases bet_cases C 0 with ⟨c1, c2⟩ | ⟨c1, c2⟩
      · rw [ern c2]; omega
      · rw [erb c2]; omega
    · rw [t] at ep bt er1 erb ern ero pgs
      have k1 : kap D' = 1 := by unfold kap; rw [ep]; rfl
      have k2 : kap C = 0 := by unfold kap; rw [pc]; rfl
      have b0 := bet_eq cfg (pgs 1 (by decide))
      have e0 := ero 1 (by decide)
      refine ⟨⟨x, y, x0, y0, by omega, ?_⟩, by rw [cfg]; omega, by rw [e0, cfg]; exact w1⟩
      rw [e0, b0, k1, bt]
      rcases bet_cases C 0 with ⟨c1, c2⟩ | ⟨c1, c2⟩
      · rw [ern c2]; omega
      · rw [erb c2]; omega
  have stay : e' = 8 → ((pI D' (tgtM C)).head = 0 ∨ (pI D' (tgtM C)).head = (pI C (tgtM C)).head) → Wear D' (if e' = 8 then cuts + 1 else cuts) := by
    intro h8 hh
    rw [if_pos h8]
    obtain ⟨ep, _⟩ := same_info d2.part.cfg d2.part.pgs hh h0 h1
    have ek : kap D' = kap C := by unfold kap; rw [ep]
    have er1 := d2.ert
    have erb := d2.erb
    have ern := d2.ern
    have ero := d2.ero
    have pgs := d2.part.pgs
    have cfg := d2.part.cfg
    have t2 : tgtM C = 0 ∨ tgtM C = 1 := by have := tgt_lt C; omega
    rcases t2 with t | t
    · rw [t] at er1 erb ern ero pgs
      have b0 := bet_eq cfg (pgs 1 (by decide))
      have e0 := ero 1 (by decide)
      have bD : bet D' 0 = 0 ∨ bet D' 0 = 1 := by rcases bet_cases D' 0 with z | z; exact Or.inl z.1; exact Or.inr z.1
      refine ⟨⟨x + 1 - bet D' 0, y, by omega, y0, by omega, ?_⟩, by rw [cfg]; omega, by rw [e0, cfg]; exact w1⟩
      rw [e0, b0, ek]
      rcases bet_cases C 0 with ⟨c1, c2⟩ | ⟨c1, c2⟩
      · rw [ern c2]; omega
      · rw [erb c2]; omega
    · rw [t] at er1 erb ern ero pgs
      have b0 := bet_eq cfg (pgs 0 (by decide))
      have e0 := ero 0 (by decide)
      have bD : bet D' 1 = 0 ∨ bet D' 1 = 1 := by rcases bet_cases D' 1 with z | z; exact Or.inl z.1; exact Or.inr z.1
      refine ⟨⟨x, y + 1 - bet D' 1, x0, by omega, by omega, ?_⟩, by rw [e0, cfg]; exact w0, by rw [cfg]; omega⟩
      rw [e0, b0, ek]
      rcases bet_cases C 1 with ⟨c1, c2⟩ | ⟨c1, c2⟩
      · rw [ern c2]; omega
      · rw [erb c2]; omega
  refine ⟨?_, fun z => absurd z hf, ha.1, by omega⟩
  rcases d2.head with hh | hh | hh
  · refine stay ?_ (Or.inl hh)
    rcases hec with z | z
    · have := (d2.headf z).1; omega
    · exact z
  · rcases hec with z | z
    · exact flip (d2.headf z).1
    · exact stay z (Or.inr hh)
  · exact flip hh.1
end Go.Proofs.Yteabcbpimjjdpaa
end

/- The log's laws, plain: what a lay costs of what a chip may bear. Own work. -/
section
set_option maxRecDepth 100000
set_option linter.unusedVariables false
namespace Go.Proofs.Yteabcbpimjjdpaa
open Go Go.Vc
section
variable {u : Bool}
def lpt (c : Cfg) : Int := c.cells - c.slots - 1
def rest (E e : Int) : Int := if 0 < E - e then E - e else 0
def avl (C : Cm) (t : Nat) : Int := rest C.cfg.erases (C.er t) + bet C t
def trnI (a b : Int) : Int := if b < a then 2 * b + 1 else 2 * a
def trn (C : Cm) : Int := trnI (avl C (tgtM C)) (avl C (1 - tgtM C))
def frn (C : Cm) : Int := if presM C < 0 then 0 else C.cfg.cells - (infoM C).next
theorem rest_nn (E e : Int) : 0 ≤ rest E e := by unfold rest; split <;> omega
theorem rest_succ {E e : Int} (h : e < E) : rest E (e + 1) = rest E e - 1 := by unfold rest; (repeat' split) <;> omega
theorem rest_zero {E e : Int} (h : E ≤ e) : rest E e = 0 := by unfold rest; rw [if_neg (by omega)]
theorem bet_nn (C : Cm) (t : Nat) : 0 ≤ bet C t ∧ bet C t ≤ 1 := by unfold bet; split <;> omega
theorem avl_nn (C : Cm) (t : Nat) : 0 ≤ avl C t := by have := rest_nn C.cfg.erases (C.er t); have := bet_nn C t; unfold avl; omega
theorem trnI_flip {a b : Int} (h : 1 ≤ a) : trnI b (a - 1) = trnI a b - 1 := by unfold trnI; (repeat' split) <;> omega
theorem trnI_stay {a c b : Int} (h : a - 1 ≤ c) : trnI a b ≤ trnI c b + 2 := by unfold trnI; (repeat' split) <;> omega
theorem trnI_nn {a b : Int} (h1 : 0 ≤ a) (h2 : 0 ≤ b) : 0 ≤ trnI a b := by unfold trnI; split <;> omega
theorem trn_nn (C : Cm) : 0 ≤ trn C := trnI_nn (avl_nn C _) (avl_nn C _)
theorem frn_nn {C : Cm} (ok : C.ok) : 0 ≤ frn C := by
  have := (infoM_ok ok).next
  have := ok.may.cells
  have := ok.may.slots
  unfold frn; split <;> omega
theorem next_le {r : List Int} {m n : Nat} (hn : n < 2 ^ 60) (h : m ≤ n) (hz : ∀ k, m ≤ k → k < n → (rk r k).1 = 0) : (ofM r n).next ≤ m := by
  rw [ofM_tail h hz]
  exact (ofM_ok r m (by omega)).next.2
structure Cost (u : Bool) (C D : Cm) (e : Int) : Prop where
  e9 : e = 9 → frn C = 0 ∧ (trn C = 0 ∨ most ≤ (infoM C).head)
  put : e = 0 → 0 < frn C → frn D = frn C - 1 ∧ trn D = trn C ∧ (infoM D).head = (infoM C).head
  turn : e = 0 → frn C = 0 → trn D = trn C - 1 ∧ lpt C.cfg - 1 ≤ frn D ∧ frn D ≤ C.cfg.cells - 1 ∧ (infoM D).head = (infoM C).head + 1
  cut : e = 8 → (frn C ≤ frn D + 1 ∧ trn D = trn C ∧ 0 < frn C) ∨ (frn C = 0 ∧ trn C ≤ trn D + 2)
  gen : (infoM D).head = (infoM C).head ∨ (infoM D).head = (infoM C).head + 1
  far : ∀ x, 2 ≤ x → D.er x = C.er x
  out8 : e = 8 → D.out = true
  un : u = true → e ≠ 8
  w9 : e = 9 → wornF C = true
  acts : 0 ≤ C.acts → C.acts < 2 ^ 59 → C.acts ≤ D.acts ∧ D.acts ≤ C.acts + C.cfg.slots + 3
  up : ∀ x, C.er x ≤ D.er x
theorem lay_cost {C D : Cm} {slot : Nat} {n e : Int} (ok : C.ok) (ho : C.out = false) (snd : sndU u C) (hs : (slot : Int) ≤ C.cfg.slots) (hn1 : 1 ≤ n) (hn2 : n ≤ most) (hv : numOf C slot < n) (hL : layL C (slot : Int) n = (D, e)) :
    Cost u C D e := by
  have hms := ok.may.slots
  have hmc := ok.may.cells
  have hnx := (infoM_ok ok).next
  unfold layL at hL
  rw [if_neg (by simp [ho]), if_neg (fun y => y ⟨by omega, hs, hn1, hn2⟩), Int.toNat_natCast, if_neg (by unfold numOf at hv; omega)] at hL
  by_cases g : 0 ≤ presM C ∧ (infoM C).next < C.cfg.cells
  · rw [if_pos g] at hL
    obtain ⟨D', e', d1, d2, d3, d4, d5, d6, d7, d8, d9⟩ := place_law ok ho snd hs hn1 hn2 hv g.1 g.2
    rw [d1] at hL
    injection hL with hD he
    subst hD he
    have ec := d3.ec
    obtain ⟨t, ht⟩ : ∃ t : Nat, presM C = (t : Int) := Int.eq_ofNat_of_zero_le g.1
    have ht2 : t = 0 ∨ t = 1 := by have := presM_cases C; omega
    have eiD : infoM D' = pI D' t := by unfold infoM; rw [d6, if_neg (by omega), ht, Int.toNat_natCast]
    have b1 := bet_head ok (pres_head ht)
    have b2 := bet_head d2.ok (pres_head (d6.trans ht))
    have fC : frn C = C.cfg.cells - (infoM C).next := by unfold frn; rw [if_neg (by omega)]
    have fD : frn D' = C.cfg.cells - (infoM D').next := by unfold frn; rw [d6, if_neg (by omega), d2.cfg]
    have et : tgtM D' = tgtM C := by unfold tgtM; rw [d6]
    have eb : ∀ x, x < 2 → bet D' x = bet C x := by
      intro x hx
      by_cases c : x = t
      · rw [c, b1, b2]
      · rw [ht, Int.toNat_natCast] at d3
        exact bet_eq d2.cfg (d3.pgs x c)
    have ea : ∀ x, x < 2 → avl D' x = avl C x := by
      intro x hx
      unfold avl
      rw [eb x hx, d4, d2.cfg]
    have etr : trn D' = trn C := by
      unfold trn
      rw [et, ea _ (tgt_lt C), ea _ (by have := tgt_lt C; omega)]
    rw [ht, Int.toNat_natCast] at d7 d9
    have hlo : lOf D' = lOf C := by show D'.cfg.cells.toNat = _; rw [d2.cfg]
    have hlc : (lOf C : Int) = C.cfg.cells := by show (C.cfg.cells.toNat : Int) = _; omega
    obtain ⟨q, hq⟩ : ∃ q : Nat, (infoM C).next = (q : Int) := Int.eq_ofNat_of_zero_le (by omega)
    rw [hq] at d7 d9 fC g hnx
    have n1 : (infoM D').next ≤ ((q + 1 : Nat) : Int) := by
      rw [eiD]
      show (ofM (D'.pg t) (lOf D')).next ≤ _
      rw [hlo]
      exact next_le (by omega) (by omega) fun k k1 k2 => d7 k (by omega) k2
    have n2 : e' = 0 → (q : Int) < (infoM D').next := by
      intro h
      have := d9 q rfl h
      rcases Int.lt_or_le (q : Int) (infoM D').next with y | y
      · exact y
      · rw [eiD] at y
        have y' : (ofM (D'.pg t) (lOf D')).next ≤ (q : Int) := y
        rw [hlo] at y'
        exact absurd (ofM_next (by omega) q y' (by omega)) this
    push_cast at n1
    refine ⟨fun h => by omega, fun h _ => ⟨by have := n2 h; omega, etr, d8⟩, fun _ h => by omega, fun _ => Or.inl ⟨by omega, etr, by omega⟩, Or.inl d8, fun x _ => d4 x, d3.out8, fun h => by have := d3.un h; omega, fun h => by omega, fun h1 h2 => by have := d5 h1 (by omega); omega, fun x => Int.le_of_eq (d4 x).symm⟩
  rw [if_neg g] at hL
  have hf : frn C = 0 := by
    unfold frn
    split
    · rfl
    · have : ¬ (infoM C).next < C.cfg.cells := fun z => g ⟨by omega, z⟩
      omega
  by_cases gw : wornF C = true
  · rw [if_pos gw] at hL
    injection hL with hD he
    subst hD he
    refine ⟨fun _ => ⟨hf, ?_⟩, fun h => absurd h (by decide), fun h => absurd h (by decide), fun h => absurd h (by decide), Or.inl rfl, fun _ _ => rfl, fun h => absurd h (by decide), fun _ h => absurd h (by decide), fun _ => gw, fun h1 h2 => by omega, fun x => Int.le_refl _⟩
    unfold wornF at gw
    rw [Bool.or_eq_true, Bool.and_eq_true, decide_eq_true_iff, decide_eq_true_iff] at gw
    rcases gw with ⟨g1, g2⟩ | g1
    · left
      have : avl C (tgtM C) = 0 := by
        unfold avl
        rw [rest_zero g2]
        rcases bet_cases C (tgtM C) with ⟨z, _⟩ | ⟨_, z⟩
        · rw [z]; rfl
        · rw [z] at g1; exact absurd g1 (by decide)
      unfold trn
      rw [this]
      have := avl_nn C (1 - tgtM C)
      unfold trnI
      rw [if_neg (by omega)]; rfl
    · exact Or.inr g1
  rw [if_neg gw] at hL
  obtain ⟨D', e', d1, d2⟩ := turn_law ok ho snd hs hn1 hn2 (by simpa using gw)
  rw [d1] at hL
  injection hL with hD he
  subst hD he
  have h0 := (pI_ok ok 0).head.1
  have h1 := (pI_ok ok 1).head.1
  have h2 := (infoM_ok ok).head.1
  have hec := d2.part.ec
  have cfg := d2.part.cfg
  have htl := tgt_lt C
  have far : ∀ x, 2 ≤ x → D'.er x = C.er x := fun x hx => d2.ero x (by omega)
  have hother : avl D' (1 - tgtM C) = avl C (1 - tgtM C) := by
    unfold avl
    rw [cfg, d2.ero _ (by omega), bet_eq cfg (d2.part.pgs _ (by omega))]
  have havl : avl D' (tgtM C) = avl C (tgtM C) - 1 + bet D' (tgtM C) ∧ 1 ≤ avl C (tgtM C) := by
    unfold avl
    rw [cfg]
    rcases bet_cases C (tgtM C) with ⟨c1, c2⟩ | ⟨c1, c2⟩
    · have e1 := d2.ern c2
      have e2 : C.er (tgtM C) < C.cfg.erases := by
        rcases d2.ert with y | y
        · omega
        · exact y.2
      have := rest_succ e2
      have := rest_nn C.cfg.erases (C.er (tgtM C) + 1)
      rw [e1, c1]; omega
    · have := rest_nn C.cfg.erases (C.er (tgtM C))
      rw [d2.erb c2, c1]; omega
  have flip : (pI D' (tgtM C)).head = (infoM C).head + 1 → trn D' = trn C - 1 ∧ presM D' = (tgtM C : Int) ∧ infoM D' = pI D' (tgtM C) := by
    intro hh
    obtain ⟨ep, ei⟩ := turned_info cfg d2.part.pgs hh h0 h1 h2
    have bt := bet_head d2.part.ok (t := tgtM C) (by omega)
    refine ⟨?_, ep, ei⟩
    have et : tgtM D' = 1 - tgtM C := by
      unfold tgtM at ep ⊢
      rw [ep]
      split <;> rfl
    unfold trn
    have e1 : 1 - (1 - tgtM C) = tgtM C := by omega
    rw [et, e1, hother, havl.1, bt]
    rw [show avl C (tgtM C) - 1 + 0 = avl C (tgtM C) - 1 by omega]
    exact trnI_flip havl.2
  have stay : ((pI D' (tgtM C)).head = 0 ∨ (pI D' (tgtM C)).head = (pI C (tgtM C)).head) → trn C ≤ trn D' + 2 ∧ (infoM D').head = (infoM C).head := by
    intro hh
    obtain ⟨ep, ei⟩ := same_info cfg d2.part.pgs hh h0 h1
    have et : tgtM D' = tgtM C := by unfold tgtM; rw [ep]
    refine ⟨?_, by rw [ei]⟩
    unfold trn
    rw [et, hother]
    exact trnI_stay (by have := bet_nn D' (tgtM C); omega)
  refine ⟨fun h => by omega, fun _ h => by omega, ?_, ?_, ?_, far, d2.part.out8, fun h => by have := d2.part.un h; omega, fun h => by omega, fun h1 h2 => by have := d2.part.acts h1 (by omega); omega, fun x => ?_⟩
  · intro h _
    obtain ⟨hh, _⟩ := d2.headf h
    obtain ⟨f1, f2, f3⟩ := flip hh
    have hlo : lOf D' = lOf C := by show D'.cfg.cells.toNat = _; rw [cfg]
    have hlc : (lOf C : Int) = C.cfg.cells := by show (C.cfg.cells.toNat : Int) = _; omega
    have fD : frn D' = C.cfg.cells - (infoM D').next := by unfold frn; rw [f2, if_neg (by omega), cfg]
    have n1 : (infoM D').next ≤ ((C.cfg.slots.toNat + 2 : Nat) : Int) := by
      rw [f3]
      show (ofM (D'.pg (tgtM C)) (lOf D')).next ≤ _
      rw [hlo]
      exact next_le (by omega) (by omega) fun k k1 k2 => d2.free h k k1 k2
    have n2 : 1 ≤ (infoM D').next := by
      have bt := bet_head d2.part.ok (t := tgtM C) (by omega)
      have := (pI_ok d2.part.ok (tgtM C)).next.1
      rw [f3]
      rcases bet_cases D' (tgtM C) with ⟨_, z⟩ | ⟨z, _⟩
      · have z' : decide ((ofM (D'.pg (tgtM C)) (lOf D')).next = 0) = false := z
        have z2 : ¬ (pI D' (tgtM C)).next = 0 := of_decide_eq_false z'
        omega
      · omega
    refine ⟨f1, by unfold lpt; omega, by omega, by rw [f3]; exact hh⟩
  · intro h
    refine Or.inr ⟨hf, ?_⟩
    rcases d2.head with y | y | y
    · exact (stay (Or.inl y)).1
    · exact (stay (Or.inr y)).1
    · have := (flip y.1).1; omega
  · rcases d2.head with y | y | y
    · exact Or.inl (stay (Or.inl y)).2
    · exact Or.inl (stay (Or.inr y)).2
    · right; rw [(flip y.1).2.2]; exact y.1
  · by_cases c : x = tgtM C
    · subst c
      rcases d2.ert with y | y <;> omega
    · rw [d2.ero x c]; exact Int.le_refl _
def phi (C : Cm) : Int := frn C + trn C * lpt C.cfg
theorem lay_phi {C D : Cm} {e : Int} (ok : C.ok) (okD : D.ok) (hc : D.cfg = C.cfg) (c : Cost u C D e) : (e = 0 → phi C ≤ phi D + 1) ∧ (e = 8 → phi C ≤ phi D + 2 * lpt C.cfg) ∧ (e = 9 → (infoM C).head < most → phi C = 0) := by
  have hl : 2 ≤ lpt C.cfg := by have := ok.may.cells; unfold lpt; omega
  have f0 := frn_nn ok
  have f1 := frn_nn okD
  unfold phi
  rw [hc]
  refine ⟨fun h => ?_, fun h => ?_, fun h hm => ?_⟩
  · by_cases g : 0 < frn C
    · obtain ⟨a, b, _⟩ := c.put h g
      rw [b]; omega
    · obtain ⟨a, b, _⟩ := c.turn h (by omega)
      rw [a, Int.sub_mul, Int.one_mul]; omega
  · rcases c.cut h with ⟨a, b, _⟩ | ⟨a, b⟩
    · rw [b]; omega
    · have := Int.mul_le_mul_of_nonneg_right b (show 0 ≤ lpt C.cfg by omega)
      rw [Int.add_mul] at this; omega
  · obtain ⟨a, b⟩ := c.e9 h
    have : trn C = 0 := by omega
    rw [this, Int.zero_mul]; omega
end
end Go.Proofs.Yteabcbpimjjdpaa
end

/- The log's laws: round, numbers, fixed; LogWhole. Own work. -/
section
set_option maxRecDepth 100000
set_option linter.unusedVariables false
namespace Go.Proofs.Yteabcbpimjjdpaa
open Go Go.Vc

def rndM (c n : Int) : Int := if c.tmod n < 0 then c.tmod n + n else c.tmod n
theorem rnd_in (c : Int) {n : Int} (hn : 1 ≤ n) : 0 ≤ rndM c n ∧ rndM c n < n := by
  have h2 := Int.tmod_lt_of_pos c (show 0 < n by omega)
  have h3 : -n < c.tmod n := by
    have := Int.tmod_lt_of_pos (-c) (show 0 < n by omega)
    rw [Int.neg_tmod] at this
    omega
  unfold rndM
  split <;> omega
section
variable {h0 h : H} {A : List Ent} {i j p r b : Nat} {C : Cm}
end

/-- A lay of a script. -/
structure LyE where
  slot : Int
  over : Int
  at_ : Int
  mask : List Int
structure LyE.ok (s : LyE) : Prop where
  at_ : s.at_ < 2 ^ 63
  mb : bytesOk s.mask
  ml : s.mask.length + 4096 ≤ 2 ^ 47
structure ScriptL (h : H) (p : Option Addr) (l : Nat) (sc : List LyE) : Prop where
  len : sc.length = l
  lt : l < 2 ^ 50
  at_ : ∀ i (hi : i < sc.length), ∃ q mp ml mc, p = some q ∧ hc h (q.add (i * 4)) = some (.int .i64 sc[i].slot) ∧ hc h ((q.add (i * 4)).add 1) = some (.int .i64 sc[i].over) ∧ hc h ((q.add (i * 4)).add 2) = some (.int .i64 sc[i].at_) ∧
    hc h ((q.add (i * 4)).add 3) = some (.slice mp ml mc) ∧ hsv h mp 1 ml (ints .u8 sc[i].mask) ∧ sc[i].ok
end Go.Proofs.Yteabcbpimjjdpaa
end

/- Maps as owned things. Own work; generic over any program. -/
section
set_option linter.unusedVariables false
namespace Go.Vc

@[irreducible] def mapP (r : Nat) (es : List (Value × DV)) (h : H) (f : Nat → Prop) : Prop := hmap h r es ∧ ∀ x, f x ↔ x = r
theorem hmap_lt {h : H} {r : Nat} {es : List (Value × DV)} (m : hmap h r es) : r < h.size := by
  obtain ⟨a, cl, e, _⟩ := m
  exact (Array.getElem?_eq_some_iff.1 e).1
def mapE (r : Nat) (es : List (Value × DV)) : Ent where
  tag := .of r
  P := mapP r es
  st := by unfold mapP; rintro h h' f ⟨⟨a, cl, k, ke⟩, e⟩ hs; exact ⟨⟨a, cl, by rw [hs r ((e r).2 rfl)]; exact k, ke⟩, e⟩
  lt := by unfold mapP; rintro h f x ⟨k, e⟩ hx; rw [(e x).1 hx]; exact hmap_lt k
theorem mapE_P {r : Nat} {es : List (Value × DV)} {h : H} {f : Nat → Prop} : (mapE r es).P h f ↔ hmap h r es ∧ ∀ x, f x ↔ x = r := by
  show mapP r es h f ↔ _; unfold mapP; rfl
theorem Sat.mapNew {h0 h h' : H} {A : List Ent} (s : Sat h0 A h) {b : Nat} (n : hmnew h b h') : Sat h0 (mapE b [] :: A) h' := by
  obtain ⟨rfl, rfl⟩ := n
  refine s.add ⟨by simp, fun x hx _ => by rw [Array.getElem?_push, if_neg (by omega)]⟩ (f := fun x => x = h.size) (mapE_P.2 ⟨⟨#[], 0, by simp, rfl, fun e he => by cases he⟩, fun _ => Iff.rfl⟩) fun x hx => by rw [hx]; exact Nat.le_refl _
theorem Sat.mapAt {h0 h : H} {A : List Ent} (s : Sat h0 A h) {i r : Nat} {es : List (Value × DV)} (a : At A i (mapE r es)) : hmap h r es := by
  obtain ⟨f, hp, _⟩ := s.take a
  exact (mapE_P.1 hp).1
theorem Sat.mapSet {h0 h h' : H} {A : List Ent} (s : Sat h0 A h) {i r : Nat} {es es' : List (Value × DV)} (a : At A i (mapE r es)) (e : hmset h r es' h') : Sat h0 (Vc.put A i (mapE r es')) h' := by
  refine s.upd a fun f hp => ?_
  obtain ⟨k, hf⟩ := mapE_P.1 hp
  have hlt := hmap_lt k
  obtain ⟨m, cl, rfl, hent⟩ := e
  refine ⟨f, mapE_P.2 ⟨⟨m, cl, by rw [Array.getElem?_setIfInBounds_self_of_lt hlt], hent⟩, hf⟩, fun _ => Or.inl, ⟨by simp, fun x _ hx => ?_⟩⟩
  rw [Array.getElem?_setIfInBounds_ne]
  intro y; exact hx ((hf x).2 y.symm)
/-- The same entries, told otherwise. -/
theorem hmap_as {h : H} {r : Nat} {es es' : List (Value × DV)} (m : hmap h r es) (e : es.map (fun e => (e.1, e.2.flat)) = es'.map (fun e => (e.1, e.2.flat))) (ok : ∀ x, x ∈ es' → x.2.ok) : hmap h r es' := by
  obtain ⟨a, cl, h1, h2, h3⟩ := m
  exact ⟨a, cl, h1, h2.trans e, ok⟩
theorem take_snoc (l : List Int) (n : Nat) (h : n < l.length) : l.take n ++ [l.getD n 0] = l.take (n + 1) := by
  rw [List.take_succ]; simp [List.getD, List.getElem?_eq_getElem h]
theorem Sat.eqL {h0 h : H} {A B : List Ent} (s : Sat h0 A h) (e : B = A) : Sat h0 B h := e ▸ s
/-- A function value, of whatever is bound, is called. -/
theorem callFn_dv {P : Program} {f : FuncId} {run : Run} (hr : RunOk P f run) {xs ys args : List DV} {Q : List DV → H → Prop} {h : H} (hx : ∀ x, x ∈ xs ++ args ++ ys → x.ok) (hrun : run (xs ++ args ++ ys) Q h) :
    callFn P (.func (.func f) (xs.map DV.flat).toArray (ys.map DV.flat).toArray) args Q h := by
  refine ⟨f, _, _, rfl, ?_⟩
  have := hr _ _ _ hx hrun
  simpa using this
end Go.Vc
end

/- Wear: budgets, acts, how a chip stands. Own work. -/
section
set_option maxRecDepth 100000
set_option linter.unusedVariables false
namespace Go.Proofs.Yteabcbpimjjdpaa
open Go Go.Vc

section
variable {h0 h : H} {A : List Ent} {i j p r l b : Nat} {C : Cm}
def wRaiseM (c : Cfg) : Int := IntKind.i64.wrap (IntKind.i64.wrap (c.slots + 3) + c.fuses)
def wStageM (c : Cfg) : Int := IntKind.i64.wrap (IntKind.i64.wrap (IntKind.i64.wrap (c.slots + 3) + c.area) + IntKind.i64.wrap (c.area * c.cells))
def wLaysM (c : Cfg) : Int := IntKind.i64.wrap (IntKind.i64.wrap (c.cells - c.slots) - 1)
theorem raise_sp (c : Cfg) {Q : Int → H → Prop} (hs : Sat h0 A h) (k : ∀ h', Sat h0 A h' → Q (wRaiseM c) h') : F_wear_config_raise c.cells c.slots c.fuses c.step c.keys c.erases c.area Q h := by
  unfold F_wear_config_raise G_wear_config_raise
  simp only [add_mk, Nat.zero_add]
  (repeat first | refine ⟨_, Sat.ld hs (by (repeat (first | exact At.z | apply At.s))) (by rfl), ?_⟩ | refine ⟨_, _, _, Sat.ld hs (by (repeat (first | exact At.z | apply At.s))) (by rfl), ?_⟩ | (intro _ _ hn; replace hs := Sat.new hs hn; clear hn) | refine ⟨Sat.cs hs (by (repeat (first | exact At.z | apply At.s))) (by rfl), ?_⟩ | (refine ⟨Sat.can hs (by (repeat (first | exact At.z | apply At.s))) (by simp), ?_⟩; intro _ e; replace hs := Sat.wr hs (by (repeat (first | exact At.z | apply At.s))) e; clear e; simp only [put, splice, List.set] at hs) | refine ⟨_, rfl, ?_⟩)
  exact k _ hs.drop
theorem revoke_sp (c : Cfg) {Q : Int → H → Prop} (hs : Sat h0 A h) (k : ∀ h', Sat h0 A h' → Q 1 h') : F_wear_config_revoke c.cells c.slots c.fuses c.step c.keys c.erases c.area Q h := by
  unfold F_wear_config_revoke G_wear_config_revoke
  (repeat first | refine ⟨_, Sat.ld hs (by (repeat (first | exact At.z | apply At.s))) (by rfl), ?_⟩ | refine ⟨_, _, _, Sat.ld hs (by (repeat (first | exact At.z | apply At.s))) (by rfl), ?_⟩ | (intro _ _ hn; replace hs := Sat.new hs hn; clear hn) | refine ⟨Sat.cs hs (by (repeat (first | exact At.z | apply At.s))) (by rfl), ?_⟩ | (refine ⟨Sat.can hs (by (repeat (first | exact At.z | apply At.s))) (by simp), ?_⟩; intro _ e; replace hs := Sat.wr hs (by (repeat (first | exact At.z | apply At.s))) e; clear e; simp only [put, splice, List.set] at hs) | refine ⟨_, rfl, ?_⟩)
  exact k _ hs.drop
theorem stage_sp (c : Cfg) {Q : Int → H → Prop} (hs : Sat h0 A h) (k : ∀ h', Sat h0 A h' → Q (wStageM c) h') : F_wear_config_stage c.cells c.slots c.fuses c.step c.keys c.erases c.area Q h := by
  unfold F_wear_config_stage G_wear_config_stage
  simp only [add_mk, Nat.zero_add]
  (repeat first | refine ⟨_, Sat.ld hs (by (repeat (first | exact At.z | apply At.s))) (by rfl), ?_⟩ | refine ⟨_, _, _, Sat.ld hs (by (repeat (first | exact At.z | apply At.s))) (by rfl), ?_⟩ | (intro _ _ hn; replace hs := Sat.new hs hn; clear hn) | refine ⟨Sat.cs hs (by (repeat (first | exact At.z | apply At.s))) (by rfl), ?_⟩ | (refine ⟨Sat.can hs (by (repeat (first | exact At.z | apply At.s))) (by simp), ?_⟩; intro _ e; replace hs := Sat.wr hs (by (repeat (first | exact At.z | apply At.s))) e; clear e; simp only [put, splice, List.set] at hs) | refine ⟨_, rfl, ?_⟩)
  exact k _ hs.drop
theorem lays_sp (c : Cfg) {Q : Int → H → Prop} (hs : Sat h0 A h) (k : ∀ h', Sat h0 A h' → Q (wLaysM c) h') : F_wear_config_lays c.cells c.slots c.fuses c.step c.keys c.erases c.area Q h := by
  unfold F_wear_config_lays G_wear_config_lays
  simp only [add_mk, Nat.zero_add]
  (repeat first | refine ⟨_, Sat.ld hs (by (repeat (first | exact At.z | apply At.s))) (by rfl), ?_⟩ | refine ⟨_, _, _, Sat.ld hs (by (repeat (first | exact At.z | apply At.s))) (by rfl), ?_⟩ | (intro _ _ hn; replace hs := Sat.new hs hn; clear hn) | refine ⟨Sat.cs hs (by (repeat (first | exact At.z | apply At.s))) (by rfl), ?_⟩ | (refine ⟨Sat.can hs (by (repeat (first | exact At.z | apply At.s))) (by simp), ?_⟩; intro _ e; replace hs := Sat.wr hs (by (repeat (first | exact At.z | apply At.s))) e; clear e; simp only [put, splice, List.set] at hs) | refine ⟨_, rfl, ?_⟩)
  exact k _ hs.drop
abbrev cfgA (c : Cfg) : Value := .agg #[.int .i64 c.cells, .int .i64 c.slots, .int .i64 c.fuses, .int .i64 c.step, .int .i64 c.keys, .int .i64 c.erases, .int .i64 c.area]
abbrev fnA (f : Nat) (c : Cfg) : Value := .func (.func f) #[cfgA c] #[]
def actsE (c : Cfg) : List (Value × DV) := [(.int .i64 2, .one (fnA id_wear_config_raise c)), (.int .i64 3, .one (fnA id_wear_config_raise c)), (.int .i64 7, .one (fnA id_wear_config_raise c)), (.int .i64 4, .one (fnA id_wear_config_revoke c)), (.int .i64 8, .one (fnA id_wear_config_stage c))]
theorem acts_sp (c : Cfg) {Q : Option Nat → H → Prop} (hs : Sat h0 A h) (k : ∀ m h', Sat h0 (mapE m (actsE c) :: A) h' → Q (some m) h') : F_wear_config_acts c.cells c.slots c.fuses c.step c.keys c.erases c.area Q h := by
  unfold F_wear_config_acts G_wear_config_acts
  simp only [add_mk, Nat.zero_add]
  intro n9 _ hn; replace hs := Sat.new hs hn; clear hn
  intro m _ hn; replace hs := Sat.mapNew hs hn; clear hn
  (repeat refine ⟨_, Sat.ld hs (by (repeat (first | exact At.z | apply At.s))) (by rfl), ?_⟩)
  refine ⟨_, _, _, rfl, hs.mapAt .z, rfl, ?_⟩
  intro _ e; replace hs := hs.mapSet .z e; clear e
  (repeat refine ⟨_, Sat.ld hs (by (repeat (first | exact At.z | apply At.s))) (by rfl), ?_⟩)
  refine ⟨_, _, _, rfl, hs.mapAt .z, rfl, ?_⟩
  intro _ e; replace hs := hs.mapSet .z e; clear e
  (repeat refine ⟨_, Sat.ld hs (by (repeat (first | exact At.z | apply At.s))) (by rfl), ?_⟩)
  refine ⟨_, _, _, rfl, hs.mapAt .z, rfl, ?_⟩
  intro _ e; replace hs := hs.mapSet .z e; clear e
  (repeat refine ⟨_, Sat.ld hs (by (repeat (first | exact At.z | apply At.s))) (by rfl), ?_⟩)
  refine ⟨_, _, _, rfl, hs.mapAt .z, rfl, ?_⟩
  intro _ e; replace hs := hs.mapSet .z e; clear e
  (repeat refine ⟨_, Sat.ld hs (by (repeat (first | exact At.z | apply At.s))) (by rfl), ?_⟩)
  refine ⟨_, _, _, rfl, hs.mapAt .z, rfl, ?_⟩
  intro _ e; replace hs := hs.mapSet .z e; clear e
  refine k m _ ?_
  exact hs.sub (by (repeat (first | exact List.Sublist.refl _ | apply List.Sublist.cons_cons | apply List.Sublist.cons)))
def actsM (c : Cfg) (kind : Int) : Int := if c.may then (if kind = 2 ∨ kind = 3 ∨ kind = 7 then wRaiseM c else if kind = 4 then 1 else if kind = 8 then wStageM c else 0) else 0
def actsF (c : Cfg) : List (Value × DV) := [(.int .i64 2, .fnv (fnA id_wear_config_raise c)), (.int .i64 3, .fnv (fnA id_wear_config_raise c)), (.int .i64 7, .fnv (fnA id_wear_config_raise c)), (.int .i64 4, .fnv (fnA id_wear_config_revoke c)), (.int .i64 8, .fnv (fnA id_wear_config_stage c))]
theorem ok_cfgA (c : Cfg) : ∀ x, x ∈ [DV.agg (c.vals.map .c)] ++ [] ++ [] → x.ok := by
  intro x hx
  simp at hx
  subst hx
  intro y hy
  simp only [List.mem_map] at hy
  obtain ⟨v, hv, rfl⟩ := hy
  simp only [Cfg.vals, List.mem_cons, List.not_mem_nil, or_false] at hv
  rcases hv with rfl | rfl | rfl | rfl | rfl | rfl | rfl <;> rfl
theorem Acts20_sp (c : Cfg) (kind : Int) {Q : Int → H → Prop} (hs : Sat h0 A h) (k : ∀ h', Sat h0 A h' → Q (actsM c kind) h') : F_wear_Acts c.cells c.slots c.fuses c.step c.keys c.erases c.area kind Q h := by
  unfold F_wear_Acts G_wear_Acts
  simp only [add_mk, Nat.zero_add]
  intro n9 _ hn; replace hs := Sat.new hs hn; clear hn
  (repeat first | refine ⟨_, Sat.ld hs (by (repeat (first | exact At.z | apply At.s))) (by rfl), ?_⟩ | refine ⟨_, _, _, Sat.ld hs (by (repeat (first | exact At.z | apply At.s))) (by rfl), ?_⟩ | (intro _ _ hn; replace hs := Sat.new hs hn; clear hn) | refine ⟨Sat.cs hs (by (repeat (first | exact At.z | apply At.s))) (by rfl), ?_⟩ | (refine ⟨Sat.can hs (by (repeat (first | exact At.z | apply At.s))) (by simp), ?_⟩; intro _ e; replace hs := Sat.wr hs (by (repeat (first | exact At.z | apply At.s))) e; clear e; simp only [put, splice, List.set] at hs) | refine ⟨_, rfl, ?_⟩)
  refine May_sp c hs ?_
  intro h1 hs
  unfold actsM at k
  by_cases m : c.may
  case neg =>
    rw [if_neg m] at k
    have e : c.may? = 1 := by unfold Cfg.may?; rw [if_neg m]
    rw [e, if_pos (by simp)]
    exact k _ hs.drop
  rw [if_pos m] at k
  have e : c.may? = 0 := by unfold Cfg.may?; rw [if_pos m]
  rw [e, if_neg (by simp)]
  (repeat first | refine ⟨_, Sat.ld hs (by (repeat (first | exact At.z | apply At.s))) (by rfl), ?_⟩ | refine ⟨_, _, _, Sat.ld hs (by (repeat (first | exact At.z | apply At.s))) (by rfl), ?_⟩ | (intro _ _ hn; replace hs := Sat.new hs hn; clear hn) | refine ⟨Sat.cs hs (by (repeat (first | exact At.z | apply At.s))) (by rfl), ?_⟩ | (refine ⟨Sat.can hs (by (repeat (first | exact At.z | apply At.s))) (by simp), ?_⟩; intro _ e; replace hs := Sat.wr hs (by (repeat (first | exact At.z | apply At.s))) e; clear e; simp only [put, splice, List.set] at hs) | refine ⟨_, rfl, ?_⟩)
  refine acts_sp c hs ?_
  intro mm h2 hs
  have hm : hmapO h2 (some mm) (actsF c) := hmap_as (hs.mapAt .z) rfl (by
    intro x hx
    simp only [actsF, List.mem_cons, List.not_mem_nil, or_false] at hx
    rcases hx with rfl | rfl | rfl | rfl | rfl <;> rfl)
  have look : ∀ (v : Value) (b : Bool), mlook (.int .i64 kind) (.fnv .nilFunc) (actsF c) = some (.fnv v, b) → (b = false → ∀ h', Sat h0 A h' → Q 0 h') → (b = true → callFn PP v [] (fun l37 h38 => ∃ x39 l40, l37 = x39 :: l40 ∧ ∃ i41, x39 = DV.one (Value.int IntKind.i64 i41) ∧ l40 = [] ∧ Q i41 h38) h2) →
      ∃ l33 x34 b35, hmapO h2 (some mm) l33 ∧ mlook (.int .i64 kind) (.fnv .nilFunc) l33 = some (x34, b35) ∧ ∃ v36, x34 = DV.fnv v36 ∧ if (!b35) = true then Q 0 h2 else callFn PP v36 [] (fun l37 h38 => ∃ x39 l40, l37 = x39 :: l40 ∧ ∃ i41, x39 = DV.one (Value.int IntKind.i64 i41) ∧ l40 = [] ∧ Q i41 h38) h2 := by
    intro v b e1 e2 e3
    refine ⟨_, _, _, hm, e1, _, rfl, ?_⟩
    cases b with
    | false => exact e2 rfl _ hs.drop.drop
    | true => exact e3 rfl
  by_cases g2 : kind = 2
  · subst g2
    refine look _ true rfl (fun y => by cases y) fun _ => ?_
    refine callFn_dv (R_wear_config_raise) (xs := [.agg (c.vals.map .c)]) (ys := []) (args := []) (ok_cfgA c) ?_
    show F_wear_config_raise c.cells c.slots c.fuses c.step c.keys c.erases c.area _ h2
    refine raise_sp c hs ?_
    intro h3 hs
    exact ⟨_, _, rfl, _, rfl, rfl, k _ hs.drop.drop⟩
  by_cases g3 : kind = 3
  · subst g3
    refine look _ true rfl (fun y => by cases y) fun _ => ?_
    refine callFn_dv (R_wear_config_raise) (xs := [.agg (c.vals.map .c)]) (ys := []) (args := []) (ok_cfgA c) ?_
    show F_wear_config_raise c.cells c.slots c.fuses c.step c.keys c.erases c.area _ h2
    refine raise_sp c hs ?_
    intro h3 hs
    exact ⟨_, _, rfl, _, rfl, rfl, k _ hs.drop.drop⟩
  by_cases g7 : kind = 7
  · subst g7
    refine look _ true rfl (fun y => by cases y) fun _ => ?_
    refine callFn_dv (R_wear_config_raise) (xs := [.agg (c.vals.map .c)]) (ys := []) (args := []) (ok_cfgA c) ?_
    show F_wear_config_raise c.cells c.slots c.fuses c.step c.keys c.erases c.area _ h2
    refine raise_sp c hs ?_
    intro h3 hs
    exact ⟨_, _, rfl, _, rfl, rfl, k _ hs.drop.drop⟩
  rw [if_neg (by omega)] at k
  by_cases g4 : kind = 4
  · subst g4
    refine look _ true rfl (fun y => by cases y) fun _ => ?_
    refine callFn_dv (R_wear_config_revoke) (xs := [.agg (c.vals.map .c)]) (ys := []) (args := []) (ok_cfgA c) ?_
    show F_wear_config_revoke c.cells c.slots c.fuses c.step c.keys c.erases c.area _ h2
    refine revoke_sp c hs ?_
    intro h3 hs
    exact ⟨_, _, rfl, _, rfl, rfl, k _ hs.drop.drop⟩
  rw [if_neg g4] at k
  by_cases g8 : kind = 8
  · subst g8
    refine look _ true rfl (fun y => by cases y) fun _ => ?_
    refine callFn_dv (R_wear_config_stage) (xs := [.agg (c.vals.map .c)]) (ys := []) (args := []) (ok_cfgA c) ?_
    show F_wear_config_stage c.cells c.slots c.fuses c.step c.keys c.erases c.area _ h2
    refine stage_sp c hs ?_
    intro h3 hs
    exact ⟨_, _, rfl, _, rfl, rfl, k _ hs.drop.drop⟩
  rw [if_neg g8] at k
  refine look .nilFunc false ?_ (fun _ => k) (fun y => by cases y)
  have e2 : (kind == 2) = false := by simpa using g2
  have e3 : (kind == 3) = false := by simpa using g3
  have e7 : (kind == 7) = false := by simpa using g7
  have e4 : (kind == 4) = false := by simpa using g4
  have e8 : (kind == 8) = false := by simpa using g8
  simp [mlook, actsF, keyEq, e2, e3, e7, e4, e8]
def budgM (c : Cfg) (cuts : Int) : Int := if c.may ∧ 0 ≤ cuts ∧ cuts ≤ c.erases then IntKind.i64.wrap (IntKind.i64.wrap (IntKind.i64.wrap (2 * IntKind.i64.wrap (c.erases - cuts)) + 2) * wLaysM c) else 0
theorem Budget_sp (c : Cfg) (cuts : Int) {Q : Int → H → Prop} (hs : Sat h0 A h) (k : ∀ h', Sat h0 A h' → Q (budgM c cuts) h') : F_wear_Budget c.cells c.slots c.fuses c.step c.keys c.erases c.area cuts Q h := by
  unfold F_wear_Budget G_wear_Budget
  simp only [add_mk, Nat.zero_add]
  intro n9 _ hn; replace hs := Sat.new hs hn; clear hn
  intro J hJ
  (repeat first | refine ⟨_, Sat.ld hs (by (repeat (first | exact At.z | apply At.s))) (by rfl), ?_⟩ | refine ⟨_, _, _, Sat.ld hs (by (repeat (first | exact At.z | apply At.s))) (by rfl), ?_⟩ | (intro _ _ hn; replace hs := Sat.new hs hn; clear hn) | refine ⟨Sat.cs hs (by (repeat (first | exact At.z | apply At.s))) (by rfl), ?_⟩ | (refine ⟨Sat.can hs (by (repeat (first | exact At.z | apply At.s))) (by simp), ?_⟩; intro _ e; replace hs := Sat.wr hs (by (repeat (first | exact At.z | apply At.s))) e; clear e; simp only [put, splice, List.set] at hs) | refine ⟨_, rfl, ?_⟩)
  refine May_sp c hs ?_
  intro h1 hs
  unfold budgM at k
  by_cases m : c.may
  case neg =>
    rw [if_neg (fun y => m y.1)] at k
    have e : c.may? = 1 := by unfold Cfg.may?; rw [if_neg m]
    rw [e, if_pos (by simp)]
    exact k _ hs.drop
  have e : c.may? = 0 := by unfold Cfg.may?; rw [if_pos m]
  rw [e, if_neg (by simp), ltI_eq]
  by_cases g1 : cuts < 0
  · rw [if_pos (by simpa using g1)]
    rw [if_neg (fun y => by omega)] at k
    exact k _ hs.drop
  rw [if_neg (by simpa using g1)]
  refine ⟨_, Sat.ld hs (by (repeat (first | exact At.z | apply At.s))) (by rfl), ?_⟩
  rw [ltI_eq]
  by_cases g2 : c.erases < cuts
  · rw [if_pos (by simpa using g2)]
    rw [if_neg (fun y => by omega)] at k
    exact k _ hs.drop
  rw [if_neg (by simpa using g2)]
  rw [if_pos ⟨m, by omega, by omega⟩] at k
  apply hJ
  (repeat first | refine ⟨_, Sat.ld hs (by (repeat (first | exact At.z | apply At.s))) (by rfl), ?_⟩ | refine ⟨_, _, _, Sat.ld hs (by (repeat (first | exact At.z | apply At.s))) (by rfl), ?_⟩ | (intro _ _ hn; replace hs := Sat.new hs hn; clear hn) | refine ⟨Sat.cs hs (by (repeat (first | exact At.z | apply At.s))) (by rfl), ?_⟩ | (refine ⟨Sat.can hs (by (repeat (first | exact At.z | apply At.s))) (by simp), ?_⟩; intro _ e; replace hs := Sat.wr hs (by (repeat (first | exact At.z | apply At.s))) e; clear e; simp only [put, splice, List.set] at hs) | refine ⟨_, rfl, ?_⟩)
  refine lays_sp c hs ?_
  intro h2 hs
  refine ⟨Sat.cs hs (by (repeat (first | exact At.z | apply At.s))) (by rfl), ?_⟩
  exact k _ hs.drop
end
end Go.Proofs.Yteabcbpimjjdpaa
end

/- Wear: how a chip stands. Own work. -/
section
set_option maxRecDepth 100000
set_option linter.unusedVariables false
namespace Go.Proofs.Yteabcbpimjjdpaa
open Go Go.Vc

section
variable {h0 h : H} {A : List Ent} {i j p r l b : Nat} {C : Cm}
/-- How often a page may be made blank yet. -/
def leftM (C : Cm) (k : Nat) (e : Int) : Int :=
  if (pI C k).blank = true then IntKind.i64.wrap ((if IntKind.i64.wrap (C.cfg.erases - e) > 0 then IntKind.i64.wrap (C.cfg.erases - e) else 0) + 1) else (if IntKind.i64.wrap (C.cfg.erases - e) > 0 then IntKind.i64.wrap (C.cfg.erases - e) else 0)
theorem left_sp {Q : Int → Int → H → Prop} (hs : Sat h0 A h) (ci : At A i (chipE p C)) (ho : C.out = false) {k : Nat} (hk : k < 2) (e : Int) (kk : ∀ h', Sat h0 A h' → Q (leftM C k e) 0 h') : F_wear_left ⟨p, 0, none⟩ (k : Int) e Q h := by
  unfold F_wear_left G_wear_left
  simp only [add_mk, Nat.zero_add]
  have ok := chip_ok hs ci
  refine Look_sp hs ci (k : Int) ?_
  intro h1 hs
  rw [look_pg ho ok hk]
  have hpl := pI_len C k
  intro n14 _ hn; replace hs := Sat.new hs hn; clear hn
  refine ⟨Sat.can hs (i := 0) .z (by decide), ?_⟩
  intro h4 e4
  replace hs := Sat.wra hs (i := 0) .z e4 ((inf_len hpl).trans rfl)
  clear e4
  replace hs : Sat h0 (blk n14 (infI (pI C k)) :: A) _ := hs
  rw [if_neg (by simp)]
  refine Config_sp hs ci.s ?_
  intro h5 hs
  obtain ⟨L0, L1, L10, L11, L12⟩ := hs.infAt .z hpl
  refine ⟨_, L11, ?_⟩
  unfold leftM at kk
  split
  · rename_i g; rw [if_pos g] at kk; exact kk _ hs.drop
  · rename_i g; rw [if_neg g] at kk; exact kk _ hs.drop
def apartM (C : Cm) : Int := IntKind.i64.wrap ((if C.er 1 > C.er 0 then C.er 1 else C.er 0) - (if C.er 1 < C.er 0 then C.er 1 else C.er 0))
def turnsM (C : Cm) : Int := if leftM C (1 - tgtM C) (C.er (1 - tgtM C)) < leftM C (tgtM C) (C.er (tgtM C)) then IntKind.i64.wrap (IntKind.i64.wrap (2 * leftM C (1 - tgtM C) (C.er (1 - tgtM C))) + 1) else IntKind.i64.wrap (2 * leftM C (tgtM C) (C.er (tgtM C)))
def wlaysM (C : Cm) : Int := IntKind.i64.wrap (freeT C + IntKind.i64.wrap (turnsM C * wLaysM C.cfg))
theorem wOf_sp {Q : Option Addr → Nat → Nat → Int → Int → Int → Int → Int → H → Prop} (hs : Sat h0 A h) (ci : At A i (chipE p C))
    (k1 : C.out = true → ∀ h', Sat h0 A h' → Q none 0 0 0 0 0 0 8 h')
    (k2 : C.out = false → ∀ (x : Sl) h', Sat h0 (sE x 1 (ints .i64 C.s.erases) :: A) h' → Q x.1 x.2.1 x.2.2 (apartM C) (freeT C) (turnsM C) (wlaysM C) 0 h') : F_wear_Of ⟨p, 0, none⟩ Q h := by
  unfold F_wear_Of G_wear_Of
  simp only [add_mk, Nat.zero_add]
  have ok := chip_ok hs ci
  obtain ⟨hp2, he2⟩ := ok_pages ok
  have hnp : C.cfg.np = 2 + 2 * C.cfg.area := rfl
  have hfe := ok.fits.erases
  have hfp := ok.fits.pages
  have har := ok.may.area
  intro n10 _ hn; replace hs := Sat.new hs hn; clear hn
  refine Mount_sp hs ci.s ?_ ?_
  · intro ho
    rw [if_pos (by simp)]
    (repeat first | refine ⟨_, Sat.ld hs (by (repeat (first | exact At.z | apply At.s))) (by rfl), ?_⟩ | refine ⟨_, _, _, Sat.ld hs (by (repeat (first | exact At.z | apply At.s))) (by rfl), ?_⟩ | (intro _ _ hn; replace hs := Sat.new hs hn; clear hn) | refine ⟨Sat.cs hs (by (repeat (first | exact At.z | apply At.s))) (by rfl), ?_⟩ | (refine ⟨Sat.can hs (by (repeat (first | exact At.z | apply At.s))) (by simp), ?_⟩; intro _ e; replace hs := Sat.wr hs (by (repeat (first | exact At.z | apply At.s))) e; clear e; simp only [put, splice, List.set] at hs) | refine ⟨_, rfl, ?_⟩)
    exact k1 ho _ hs.drop
  intro ho lg h1 hs
  rw [if_neg (by simp)]
  replace k2 := k2 ho
  clear k1
  refine ⟨_, rfl, ?_⟩
  refine Free_sp hs ci.s.s .z ?_
  intro h2 hs
  have hfr := freeT_range ok
  rw [wrap_id (by omega)]
  intro n28 _ hn; replace hs := Sat.new hs hn; clear hn
  (refine ⟨Sat.can hs (by (repeat (first | exact At.z | apply At.s))) (by simp), ?_⟩; intro _ e; replace hs := Sat.wr hs (by (repeat (first | exact At.z | apply At.s))) e; clear e; simp only [put, splice, List.set] at hs)
  refine Config_sp hs ci.s.s.s ?_
  intro h3 hs
  intro J hJ
  have en : IntKind.i64.wrap (2 + IntKind.i64.wrap (2 * C.cfg.area)) = (C.s.erases.length : Int) := by
    rw [wrap_id (n := 2 * C.cfg.area) (by omega), wrap_id (by omega)]; omega
  obtain ⟨fr, hfr2⟩ : ∃ fr, fr = freeT C := ⟨_, rfl⟩
  rw [← hfr2] at hs k2
  rw [en] at hJ
  have hs1 : ∃ x : Sl, x.2.1 = 0 ∧ Sat h0 (sE x 1 (ints .i64 (C.s.erases.take 0)) :: blk n28 [x.v, .int .i64 0, .int .i64 fr, .int .i64 0, .int .i64 0] :: logE lg p :: blk n10 [.slice none 0 0, .int .i64 0, .int .i64 0, .int .i64 0, .int .i64 0] :: A) h3 := by
    refine ⟨(none, 0, 0), rfl, ?_⟩
    exact hs.sl_nil 1 none
  clear hs
  refine loop_up C.s.erases.length (fun n h => ∃ x : Sl, x.2.1 = n ∧ Sat h0 (sE x 1 (ints .i64 (C.s.erases.take n)) :: blk n28 [x.v, .int .i64 0, .int .i64 fr, .int .i64 0, .int .i64 0] :: logE lg p :: blk n10 [.slice none 0 0, .int .i64 0, .int .i64 0, .int .i64 0, .int .i64 0] :: A) h) ?_ ?_ 0 _ (by omega) hs1
  · rintro n h4 hn ⟨x, hx, hs⟩ hk
    apply hJ
    rw [ltI_eq, if_pos (by simp; omega)]
    refine Erases_sp hs ci.s.s.s.s (n : Int) ?_
    have ee : erasesM C (n : Int) = (C.s.erases.getD n 0, 0) := by unfold erasesM; rw [askedM_in ho (by omega) (by omega), if_neg (by simp), Int.toNat_natCast]
    rw [ee, if_neg (by simp)]
    refine ⟨_, _, _, Sat.ld hs (by (repeat (first | exact At.z | apply At.s))) (by rfl), ?_⟩
    intro n59 _ hn59; replace hs := Sat.new hs hn59; clear hn59
    refine ⟨_, Sat.bv hs .z (l := 1) rfl (ints_one .i64 [C.s.erases.getD n 0]), ?_⟩
    obtain ⟨xp, xl, xc⟩ := x
    dsimp only at hx hs ⊢
    subst hx
    refine Sat.app hs (i := 1) (vs := ints .i64 [C.s.erases.getD xl 0]) (.s .z) (by simp) rfl (ints_one _ _) (by dsimp only; omega) ?_
    intro p' c' h5 hs
    simp only [put] at hs
    (refine ⟨Sat.can hs (by (repeat (first | exact At.z | apply At.s))) (by simp), ?_⟩; intro _ e; replace hs := Sat.wr hs (by (repeat (first | exact At.z | apply At.s))) e; clear e; simp only [put, splice, List.set] at hs)
    rw [wrap_succ (by omega)]
    refine hk _ ⟨(p', xl + 1, c'), rfl, ?_⟩
    have e : ints .i64 (C.s.erases.take xl) ++ ints .i64 [C.s.erases.getD xl 0] = ints .i64 (C.s.erases.take (xl + 1)) := by
      rw [← take_snoc _ _ hn]; simp [ints]
    rw [e] at hs
    exact hs.drop
  rintro h4 ⟨x, hx, hs⟩
  rw [List.take_length] at hs
  apply hJ
  rw [ltI_eq, if_neg (by simp)]
  clear hJ J hs1
  have hx2 : 2 ≤ x.2.1 := by omega
  have ld : ∀ k : Nat, k < 2 → ∀ {A' : List Ent} {h' : H} {i : Nat}, Sat h0 A' h' → At A' i (sE x 1 (ints .i64 C.s.erases)) → ∃ q, x.1 = some q ∧ hc h' (q.add k) = some (.int .i64 (C.er k)) := by
    intro k hk A' h' i hs' hi
    exact hsv_int (hs'.sv hi) (x := k) (by omega)
  obtain ⟨q, hq, e0⟩ := ld 0 (by decide) hs .z
  obtain ⟨q1, hq1, e1⟩ := ld 1 (by decide) hs .z
  rw [hq] at hq1
  injection hq1 with hq1
  subst hq1
  rw [add_zero] at e0
  have bnd0 : (0 : Int) ≤ 0 ∧ (0 : Int) < (x.2.1 : Int) := by omega
  refine ⟨_, _, _, hs.ld (i := 1) (.s .z) rfl, _, hq, by omega, by omega, _, e0, _, _, _, hs.ld (i := 1) (.s .z) rfl, _, hq, by omega, by omega, _, e1, _, _, _, hs.ld (i := 1) (.s .z) rfl, _, hq, by omega, by omega, _, e0, _, _, _, hs.ld (i := 1) (.s .z) rfl, _, hq, by omega, by omega, _, e1, ?_⟩
  (refine ⟨Sat.can hs (by (repeat (first | exact At.z | apply At.s))) (by simp), ?_⟩; intro _ e; replace hs := Sat.wr hs (by (repeat (first | exact At.z | apply At.s))) e; clear e; simp only [put, splice, List.set] at hs)
  intro J hJ
  refine ⟨_, rfl, ?_⟩
  refine Present_sp hs ci.s.s.s.s (j := 2) (.s (.s .z)) ?_
  intro h5 hs
  have way : ∀ t : Nat, t = tgtM C → ∀ h', Sat h0 (sE x 1 (ints .i64 C.s.erases) :: blk n28 [x.v, .int .i64 (apartM C), .int .i64 fr, .int .i64 0, .int .i64 0] :: logE lg p :: blk n10 [.slice none 0 0, .int .i64 0, .int .i64 0, .int .i64 0, .int .i64 0] :: A) h' → J [.dv (.one (.int .i64 (t : Int)))] h' := by
    intro t ht h6 hs
    apply hJ
    have ht2 : t < 2 := by rw [ht]; unfold tgtM; split <;> omega
    obtain ⟨q, hq, e0⟩ := ld t ht2 hs .z
    refine ⟨_, _, _, hs.ld (i := 1) (.s .z) rfl, _, hq, by omega, by omega, _, by rw [Int.toNat_natCast, Nat.mul_one]; exact e0, ?_⟩
    refine left_sp hs ci.s.s.s.s ho ht2 (C.er t) ?_
    intro h7 hs
    rw [if_neg (by simp)]
    have ew : IntKind.i64.wrap (1 - (t : Int)) = ((1 - t : Nat) : Int) := by rw [wrap_id (by omega)]; omega
    rw [ew]
    obtain ⟨q, hq, e0⟩ := ld (1 - t) (by omega) hs .z
    refine ⟨_, _, _, hs.ld (i := 1) (.s .z) rfl, _, hq, by omega, by omega, _, by rw [Int.toNat_natCast, Nat.mul_one]; exact e0, ?_⟩
    refine left_sp hs ci.s.s.s.s ho (by omega) (C.er (1 - t)) ?_
    intro h8 hs
    rw [if_neg (by simp)]
    (refine ⟨Sat.can hs (by (repeat (first | exact At.z | apply At.s))) (by simp), ?_⟩; intro _ e; replace hs := Sat.wr hs (by (repeat (first | exact At.z | apply At.s))) e; clear e; simp only [put, splice, List.set] at hs)
    have hT : turnsM C = if leftM C (1 - t) (C.er (1 - t)) < leftM C t (C.er t) then IntKind.i64.wrap (IntKind.i64.wrap (2 * leftM C (1 - t) (C.er (1 - t))) + 1) else IntKind.i64.wrap (2 * leftM C t (C.er t)) := by rw [ht]; rfl
    have hL : wlaysM C = IntKind.i64.wrap (fr + IntKind.i64.wrap (turnsM C * wLaysM C.cfg)) := by rw [hfr2]; rfl
    rw [ltI_eq]
    by_cases g : leftM C (1 - t) (C.er (1 - t)) < leftM C t (C.er t)
    · rw [if_pos g] at hT
      rw [if_pos (by simpa using g)]
      (refine ⟨Sat.can hs (by (repeat (first | exact At.z | apply At.s))) (by simp), ?_⟩; intro _ e; replace hs := Sat.wr hs (by (repeat (first | exact At.z | apply At.s))) e; clear e; simp only [put, splice, List.set] at hs)
      rw [← hT] at hs
      (repeat first | refine ⟨_, Sat.ld hs (by (repeat (first | exact At.z | apply At.s))) (by rfl), ?_⟩ | refine ⟨_, _, _, Sat.ld hs (by (repeat (first | exact At.z | apply At.s))) (by rfl), ?_⟩ | (intro _ _ hn; replace hs := Sat.new hs hn; clear hn) | refine ⟨Sat.cs hs (by (repeat (first | exact At.z | apply At.s))) (by rfl), ?_⟩ | (refine ⟨Sat.can hs (by (repeat (first | exact At.z | apply At.s))) (by simp), ?_⟩; intro _ e; replace hs := Sat.wr hs (by (repeat (first | exact At.z | apply At.s))) e; clear e; simp only [put, splice, List.set] at hs) | refine ⟨_, rfl, ?_⟩)
      refine Config_sp hs ci.s.s.s.s ?_
      intro h9 hs
      (repeat first | refine ⟨_, Sat.ld hs (by (repeat (first | exact At.z | apply At.s))) (by rfl), ?_⟩ | refine ⟨_, _, _, Sat.ld hs (by (repeat (first | exact At.z | apply At.s))) (by rfl), ?_⟩ | (intro _ _ hn; replace hs := Sat.new hs hn; clear hn) | refine ⟨Sat.cs hs (by (repeat (first | exact At.z | apply At.s))) (by rfl), ?_⟩ | (refine ⟨Sat.can hs (by (repeat (first | exact At.z | apply At.s))) (by simp), ?_⟩; intro _ e; replace hs := Sat.wr hs (by (repeat (first | exact At.z | apply At.s))) e; clear e; simp only [put, splice, List.set] at hs) | refine ⟨_, rfl, ?_⟩)
      refine lays_sp C.cfg hs ?_
      intro h10 hs
      (repeat first | refine ⟨_, Sat.ld hs (by (repeat (first | exact At.z | apply At.s))) (by rfl), ?_⟩ | refine ⟨_, _, _, Sat.ld hs (by (repeat (first | exact At.z | apply At.s))) (by rfl), ?_⟩ | (intro _ _ hn; replace hs := Sat.new hs hn; clear hn) | refine ⟨Sat.cs hs (by (repeat (first | exact At.z | apply At.s))) (by rfl), ?_⟩ | (refine ⟨Sat.can hs (by (repeat (first | exact At.z | apply At.s))) (by simp), ?_⟩; intro _ e; replace hs := Sat.wr hs (by (repeat (first | exact At.z | apply At.s))) e; clear e; simp only [put, splice, List.set] at hs) | refine ⟨_, rfl, ?_⟩)
      rw [← hL] at hs ⊢
      refine k2 x _ ?_
      exact hs.sub (by (repeat (first | exact List.Sublist.refl _ | apply List.Sublist.cons_cons | apply List.Sublist.cons)))
    · rw [if_neg g] at hT
      rw [if_neg (by simpa using g)]
      rw [← hT] at hs
      (repeat first | refine ⟨_, Sat.ld hs (by (repeat (first | exact At.z | apply At.s))) (by rfl), ?_⟩ | refine ⟨_, _, _, Sat.ld hs (by (repeat (first | exact At.z | apply At.s))) (by rfl), ?_⟩ | (intro _ _ hn; replace hs := Sat.new hs hn; clear hn) | refine ⟨Sat.cs hs (by (repeat (first | exact At.z | apply At.s))) (by rfl), ?_⟩ | (refine ⟨Sat.can hs (by (repeat (first | exact At.z | apply At.s))) (by simp), ?_⟩; intro _ e; replace hs := Sat.wr hs (by (repeat (first | exact At.z | apply At.s))) e; clear e; simp only [put, splice, List.set] at hs) | refine ⟨_, rfl, ?_⟩)
      refine Config_sp hs ci.s.s.s.s ?_
      intro h9 hs
      (repeat first | refine ⟨_, Sat.ld hs (by (repeat (first | exact At.z | apply At.s))) (by rfl), ?_⟩ | refine ⟨_, _, _, Sat.ld hs (by (repeat (first | exact At.z | apply At.s))) (by rfl), ?_⟩ | (intro _ _ hn; replace hs := Sat.new hs hn; clear hn) | refine ⟨Sat.cs hs (by (repeat (first | exact At.z | apply At.s))) (by rfl), ?_⟩ | (refine ⟨Sat.can hs (by (repeat (first | exact At.z | apply At.s))) (by simp), ?_⟩; intro _ e; replace hs := Sat.wr hs (by (repeat (first | exact At.z | apply At.s))) e; clear e; simp only [put, splice, List.set] at hs) | refine ⟨_, rfl, ?_⟩)
      refine lays_sp C.cfg hs ?_
      intro h10 hs
      (repeat first | refine ⟨_, Sat.ld hs (by (repeat (first | exact At.z | apply At.s))) (by rfl), ?_⟩ | refine ⟨_, _, _, Sat.ld hs (by (repeat (first | exact At.z | apply At.s))) (by rfl), ?_⟩ | (intro _ _ hn; replace hs := Sat.new hs hn; clear hn) | refine ⟨Sat.cs hs (by (repeat (first | exact At.z | apply At.s))) (by rfl), ?_⟩ | (refine ⟨Sat.can hs (by (repeat (first | exact At.z | apply At.s))) (by simp), ?_⟩; intro _ e; replace hs := Sat.wr hs (by (repeat (first | exact At.z | apply At.s))) e; clear e; simp only [put, splice, List.set] at hs) | refine ⟨_, rfl, ?_⟩)
      rw [← hL] at hs ⊢
      refine k2 x _ ?_
      exact hs.sub (by (repeat (first | exact List.Sublist.refl _ | apply List.Sublist.cons_cons | apply List.Sublist.cons)))
  have hp : presT C = presM C := by unfold presT; rw [if_neg (by simp [ho])]
  rw [hp]
  by_cases g : presM C = 0
  · rw [if_pos (by simpa using g)]
    exact way 1 (by unfold tgtM; rw [if_pos g]) _ hs
  · rw [if_neg (by simpa using g)]
    exact way 0 (by unfold tgtM; rw [if_neg g]) _ hs
end
end Go.Proofs.Yteabcbpimjjdpaa
end

/- Wear: the document's report; the statements of layer 20. Own work. -/
section
set_option maxRecDepth 100000
set_option linter.unusedVariables false
namespace Go.Proofs.Yteabcbpimjjdpaa
open Go Go.Vc

section
variable {h0 h : H} {A : List Ent} {i j p r l b : Nat} {C : Cm}
def posE (C : Cm) : Prop := ∀ k, 0 ≤ C.er k ∧ C.er k < 2 ^ 63
theorem small20_sp {Q : Int → Int → Int → Int → Int → Int → Int → H → Prop} (hs : Sat h0 A h) (k : ∀ h', Sat h0 A h' → Q 6 2 4 10 1 3 1 h') : F_portcullislaw20_small Q h := by
  unfold F_portcullislaw20_small G_portcullislaw20_small
  simp only [add_mk, Nat.zero_add]
  (repeat first | refine ⟨_, Sat.ld hs (by (repeat (first | exact At.z | apply At.s))) (by rfl), ?_⟩ | refine ⟨_, _, _, Sat.ld hs (by (repeat (first | exact At.z | apply At.s))) (by rfl), ?_⟩ | (intro _ _ hn; replace hs := Sat.new hs hn; clear hn) | refine ⟨Sat.cs hs (by (repeat (first | exact At.z | apply At.s))) (by rfl), ?_⟩ | (refine ⟨Sat.can hs (by (repeat (first | exact At.z | apply At.s))) (by simp), ?_⟩; intro _ e; replace hs := Sat.wr hs (by (repeat (first | exact At.z | apply At.s))) e; clear e; simp only [put, splice, List.set] at hs) | refine ⟨_, rfl, ?_⟩)
  exact k _ hs.drop
abbrev cfg20 : Cfg := ⟨6, 2, 4, 10, 1, 3, 1⟩
theorem fix20 : turnsM (freshC cfg20) = 8 ∧ wlaysM (freshC cfg20) = 24 ∧ (freshC cfg20).s.erases.length = 4 ∧ budgM cfg20 1 = 18 ∧ actsM cfg20 2 = 9 := by decide +kernel
theorem fixed20_sp {Q : Bool → H → Prop} (hs : Sat h0 A h) (k : ∀ h', Sat h0 A h' → Q true h') : F_portcullislaw20_fixed Q h := by
  unfold F_portcullislaw20_fixed G_portcullislaw20_fixed
  simp only [add_mk, Nat.zero_add]
  obtain ⟨f1, f2, f3, f4, f5⟩ := fix20
  refine small20_sp hs ?_
  intro h1 hs
  refine New_sp cfg20 hs (fun nm => absurd (show cfg20.may by decide) nm) ?_
  intro _ p h2 hs
  intro J hJ
  rw [if_neg (by simp), if_neg (by simp)]
  apply hJ
  have ho : (freshC cfg20).out = false := rfl
  generalize freshC cfg20 = C at *
  refine ⟨_, rfl, ?_⟩
  refine wOf_sp hs .z (fun y => by rw [ho] at y; cases y) ?_
  intro _ x h3 hs
  have lx := (hs.sv .z).1
  rw [ints_length, f3] at lx
  have lx2 : x.2.1 = 4 := by omega
  rw [f1, f2]
  intro n30 _ hn; replace hs := Sat.new hs hn; clear hn
  (refine ⟨Sat.can hs (by (repeat (first | exact At.z | apply At.s))) (by simp), ?_⟩; intro _ e; replace hs := Sat.wr hs (by (repeat (first | exact At.z | apply At.s))) e; clear e; simp only [put, splice, List.set] at hs)
  rw [if_pos (by decide)]
  refine ⟨_, Sat.ld hs (by (repeat (first | exact At.z | apply At.s))) (by rfl), ?_⟩
  rw [if_pos (by decide)]
  refine ⟨_, Sat.ld hs (by (repeat (first | exact At.z | apply At.s))) (by rfl), ?_⟩
  rw [if_pos (by decide)]
  refine ⟨_, _, _, Sat.ld hs (by (repeat (first | exact At.z | apply At.s))) (by rfl), ?_⟩
  rw [if_pos (by simp [lx2])]
  refine small20_sp hs ?_
  intro h4 hs
  refine Budget_sp cfg20 1 hs ?_
  intro h5 hs
  rw [f4, if_pos (by decide)]
  refine small20_sp hs ?_
  intro h6 hs
  refine Acts20_sp cfg20 2 hs ?_
  intro h7 hs
  rw [f5]
  exact k _ hs.drop.drop.drop
end
end Go.Proofs.Yteabcbpimjjdpaa
end

/- The store: contracts of the program's. Own work. -/
section
set_option maxRecDepth 100000
set_option linter.unusedVariables false
namespace Go.Proofs.Yteabcbpimjjdpaa
open Go Go.Vc

abbrev storeE (s p r : Nat) : Ent := blk s [.pointer (some ⟨p, 0, none⟩), .pointer (some ⟨r, 0, none⟩)]
section
variable {h0 h : H} {A : List Ent} {i j p r b s m : Nat} {C : Cm}
end
end Go.Proofs.Yteabcbpimjjdpaa
end

/- StoreDoes: the world and its steps. Own work. -/
section
set_option maxRecDepth 100000
set_option linter.unusedVariables false
namespace Go.Proofs.Yteabcbpimjjdpaa
open Go Go.Vc

abbrev wld (w px pr : Nat) (x : Value) : Ent := blk w [.pointer (some ⟨px, 0, none⟩), x, .pointer (some ⟨pr, 0, none⟩)]
abbrev wld2 (w px pr s l : Nat) (C : Cm) (B : List Ent) : List Ent := wld w px pr (.pointer (some ⟨s, 0, none⟩)) :: storeE s px l :: logE l px :: chipE px C :: refE pr C :: B
def Wst (h0 : H) (w px pr : Nat) (C : Cm) (B : List Ent) (h : H) : Prop :=
  Sat h0 (wld w px pr (.pointer none) :: chipE px C :: refE pr C :: B) h ∨ ∃ s l, Sat h0 (wld2 w px pr s l C B) h
/-- A call of a script. -/
structure OpE where
  kind : Int
  n : Int
  v : Int
  mask : List Int
structure OpE.ok (s : OpE) : Prop where
  n : s.n < 2 ^ 63
  mb : bytesOk s.mask
  ml : s.mask.length + 4096 ≤ 2 ^ 47
section
variable {h0 h : H} {A B : List Ent} {i j p r b w px pr s m : Nat} {C : Cm}
theorem Wst.any (W : Wst h0 w px pr C B h) : ∃ x, Sat h0 (wld w px pr x :: chipE px C :: refE pr C :: B) h := by
  rcases W with hs | ⟨s, l, hs⟩
  · exact ⟨_, hs⟩
  · exact ⟨_, hs.sub (by (repeat (first | exact List.Sublist.refl _ | apply List.Sublist.cons_cons | apply List.Sublist.cons)))⟩
end
end Go.Proofs.Yteabcbpimjjdpaa
end

/- StoreDoes: how it begins; scripts. Own work. -/
section
set_option maxRecDepth 100000
set_option linter.unusedVariables false
namespace Go.Proofs.Yteabcbpimjjdpaa
open Go Go.Vc

section
variable {h0 h : H} {A : List Ent}
end
structure ScriptO (h : H) (p : Option Addr) (l : Nat) (sc : List OpE) : Prop where
  len : sc.length = l
  lt : l < 2 ^ 50
  at_ : ∀ i (hi : i < sc.length), ∃ q mp ml mc, p = some q ∧ hc h (q.add (i * 4)) = some (.int .i64 sc[i].kind) ∧ hc h ((q.add (i * 4)).add 1) = some (.int .i64 sc[i].n) ∧ hc h ((q.add (i * 4)).add 2) = some (.int .i64 sc[i].v) ∧
    hc h ((q.add (i * 4)).add 3) = some (.slice mp ml mc) ∧ hsv h mp 1 ml (ints .u8 sc[i].mask) ∧ sc[i].ok
end Go.Proofs.Yteabcbpimjjdpaa
end

/- Wear: the game of law 20 (a log on a chip), and WearLasts. Own work. -/
section
set_option maxRecDepth 100000
set_option linter.unusedVariables false
namespace Go.Proofs.Yteabcbpimjjdpaa
open Go Go.Vc

abbrev gmE (g px lp : Nat) (oks cuts : Int) : Ent := blk g [.pointer (some ⟨px, 0, none⟩), .pointer (some ⟨lp, 0, none⟩), .int .i64 oks, .int .i64 cuts]
def absR (b : Int) : Int := if b.tmod 1000 < 0 then 0 - b.tmod 1000 else b.tmod 1000
theorem absR_in (b : Int) : 0 ≤ absR b ∧ absR b < 1000 := by
  have h2 := Int.tmod_lt_of_pos b (show (0 : Int) < 1000 by decide)
  have h3 := Int.tmod_lt_of_pos (-b) (show (0 : Int) < 1000 by decide)
  rw [Int.neg_tmod] at h3
  unfold absR; split <;> omega
abbrev gslot (C : Cm) (n : Int) : Int := rndM n (C.cfg.slots + 1)
section
variable {h0 h : H} {A B : List Ent} {i j a g px lp : Nat} {C : Cm} {oks cuts : Int}
theorem glay_sp {Q : Int → Bool → H → Prop} {kind n by_ : Int} {mp : Option Addr} {ml mc : Nat} (hs : Sat h0 (gmE g px lp oks cuts :: logE lp px :: chipE px C :: B) h) (hk : 0 ≤ oks ∧ oks < 2 ^ 60) (ha : 0 ≤ C.acts ∧ C.acts < 2 ^ 60)
    (k1 : C.out = true → ∀ h', Sat h0 (gmE g px lp oks cuts :: logE lp px :: chipE px C :: B) h' → Q 8 true h')
    (k2 : C.out = false → ∀ (sl : Nat) (D : Cm) (e : Int) h', gslot C n = (sl : Int) → (sl : Int) ≤ C.cfg.slots → layL C (sl : Int) (IntKind.i64.wrap (IntKind.i64.wrap (numOf C sl + 1) + absR by_)) = (D, e) →
      Sat h0 (gmE g px lp (if e = 0 then oks + 1 else oks) cuts :: logE lp px :: chipE px D :: B) h' → Q e (leI (IntKind.i64.wrap (D.acts - C.acts)) (IntKind.i64.wrap (C.cfg.slots + 3))) h') :
    F_portcullislaw20_game_lay ⟨g, 0, none⟩ kind n by_ mp ml mc Q h := by
  unfold F_portcullislaw20_game_lay G_portcullislaw20_game_lay
  try simp only [add_mk, Nat.zero_add, List.append_nil]
  have ok := chip_ok hs (i := 2) (by (repeat (first | exact At.z | apply At.s)))
  have hms := ok.may.slots
  intro on _ hn; replace hs := Sat.new hs hn; clear hn
  refine ⟨_, hs.ld (i := 1) (.s .z) rfl, _, rfl, ?_⟩
  refine Config_sp hs (i := 3) (by (repeat (first | exact At.z | apply At.s))) ?_
  intro h1 hs
  rw [wrap_id (n := C.cfg.slots + 1) (by omega)]
  refine ⟨_, hs.ld (i := 0) .z rfl, by omega, ?_⟩
  obtain ⟨r0, r1⟩ := rnd_in n (n := C.cfg.slots + 1) (by omega)
  obtain ⟨sl, hsl⟩ := Int.eq_ofNat_of_zero_le r0
  have hsl2 : (sl : Int) ≤ C.cfg.slots := by omega
  intro J hJ
  have way : J [.dv (.one (.int .i64 (sl : Int)))] h1 := by
    apply hJ
    clear hJ J
    refine ⟨_, hs.ld (i := 1) (.s .z) rfl, _, rfl, ?_⟩
    refine Number_sp hs (i := 3) (j := 2) (by (repeat (first | exact At.z | apply At.s))) (by (repeat (first | exact At.z | apply At.s))) (sl : Int) ?_
    intro h2 hs
    by_cases ho : C.out = true
    · have en : numberM C (sl : Int) = (0, 8) := by unfold numberM; rw [if_pos ho]
      rw [en, if_pos (by simp)]
      exact k1 ho _ hs.drop
    have ho' : C.out = false := by simpa using ho
    have en : numberM C (sl : Int) = (numOf C sl, 0) := by
      unfold numberM
      rw [if_neg ho, if_neg (fun y => y ⟨by omega, by omega⟩), Int.toNat_natCast]
    rw [en, if_neg (by simp)]
    refine ⟨_, hs.ld (i := 0) .z rfl, by decide, ?_⟩
    intro J36 hJ36
    have way2 : J36 [.dv (.one (.int .i64 (absR by_)))] h2 := by
      apply hJ36
      clear hJ36 J36
      refine ⟨_, hs.ld (i := 1) (.s .z) rfl, _, rfl, ?_⟩
      refine Acts_sp hs (i := 3) (by (repeat (first | exact At.z | apply At.s))) ?_
      refine ⟨_, hs.ld (i := 1) (.s .z) rfl, _, rfl, ?_⟩
      refine Lay9_sp hs (i := 3) (j := 2) (by (repeat (first | exact At.z | apply At.s))) (by (repeat (first | exact At.z | apply At.s))) (by decide) (sl : Int) _ ?_
      intro h3 hs
      have K := fun D e h' => k2 ho' sl D e h' hsl hsl2
      obtain ⟨D, e, hL⟩ : ∃ D e, layL C (sl : Int) (IntKind.i64.wrap (IntKind.i64.wrap (numOf C sl + 1) + absR by_)) = (D, e) := ⟨_, _, rfl⟩
      replace K := fun h' => K D e h' hL
      replace hL : layL C (sl : Int) (IntKind.i64.wrap (IntKind.i64.wrap ((infoM C).nums.getD sl 0 + 1) + absR by_)) = (D, e) := hL
      rw [hL] at hs ⊢
      simp only [put_succ, put_zero] at hs
      dsimp only at hs ⊢
      by_cases e0 : e = 0
      · rw [if_pos (by simpa using e0)]
        rw [if_pos e0] at K
        refine ⟨_, hs.ld (i := 1) (.s .z) rfl, ?_⟩
        refine ⟨Sat.can hs (i := 1) (.s .z) (by simp), ?_⟩
        intro h4 e4
        replace hs := Sat.wr hs (i := 1) (.s .z) e4
        clear e4
        simp only [put_succ, put_zero] at hs
        rw [wrap_id (n := oks + 1) (by omega)] at hs
        replace hs : Sat h0 (blk on [.int .i64 kind, .int .i64 n, .int .i64 by_, .slice mp ml mc] :: gmE g px lp (oks + 1) cuts :: logE lp px :: chipE px D :: B) h4 := hs
        refine ⟨_, hs.ld (i := 1) (.s .z) rfl, _, rfl, ?_⟩
        refine Acts_sp hs (i := 3) (by (repeat (first | exact At.z | apply At.s))) ?_
        exact K _ hs.drop
      · rw [if_neg (by simpa using e0)]
        rw [if_neg e0] at K
        refine ⟨_, hs.ld (i := 1) (.s .z) rfl, _, rfl, ?_⟩
        refine Acts_sp hs (i := 3) (by (repeat (first | exact At.z | apply At.s))) ?_
        exact K _ hs.drop
    have hb := absR_in by_
    unfold absR at way2 hb
    rw [ltI_eq]
    by_cases c : by_.tmod 1000 < 0
    · rw [if_pos c] at way2 hb
      rw [if_pos (by simpa using c), wrap_id (by omega)]
      exact way2
    · rw [if_neg c] at way2
      rw [if_neg (by simpa using c)]
      exact way2
  unfold rndM at r0 r1 hsl
  rw [ltI_eq]
  by_cases c : n.tmod (C.cfg.slots + 1) < 0
  · rw [if_pos c] at hsl r0 r1
    rw [if_pos (by simpa using c), wrap_id (by omega), hsl]
    exact way
  · rw [if_neg c] at hsl
    rw [if_neg (by simpa using c), hsl]
    exact way
end
end Go.Proofs.Yteabcbpimjjdpaa
end

/- Wear: WearLasts. Own work. -/
section
set_option maxRecDepth 100000
set_option linter.unusedVariables false
namespace Go.Proofs.Yteabcbpimjjdpaa
open Go Go.Vc

theorem wlays_lpt {c : Cfg} (hm : c.may) : wLaysM c = lpt c := by
  have := hm.cells; have := hm.slots
  unfold wLaysM lpt
  rw [wrap_id (n := c.cells - c.slots) (by omega), wrap_id (by omega)]
theorem mul_small {a l : Int} (a0 : 0 ≤ a) (a1 : a ≤ 2 ^ 20) (l0 : 0 ≤ l) (l1 : l ≤ 256) : 0 ≤ a * l ∧ a * l ≤ 2 ^ 28 := by
  refine ⟨Int.mul_nonneg a0 l0, ?_⟩
  have := Int.mul_le_mul a1 l1 l0 (by decide)
  omega
theorem budg_eq {c : Cfg} (hm : c.may) {cuts : Int} (h0 : 0 ≤ cuts) (h1 : cuts ≤ c.erases) : budgM c cuts = (2 * c.erases + 2) * lpt c - cuts * (2 * lpt c) := by
  have h2 := hm.erases
  have h3 := hm.cells
  have h4 := hm.slots
  unfold budgM
  rw [if_pos ⟨hm, h0, h1⟩, wlays_lpt hm, wrap_id (n := c.erases - cuts) (by omega), wrap_id (n := 2 * (c.erases - cuts)) (by omega), wrap_id (n := 2 * (c.erases - cuts) + 2) (by omega)]
  have hl : 0 ≤ lpt c ∧ lpt c ≤ 256 := by unfold lpt; omega
  have := mul_small (a := 2 * (c.erases - cuts) + 2) (l := lpt c) (by omega) (by omega) hl.1 hl.2
  rw [wrap_id (by omega)]
  rw [show 2 * (c.erases - cuts) + 2 = (2 * c.erases + 2) - cuts * 2 by omega, Int.sub_mul, Int.mul_assoc]
structure WlI (c : Cfg) (C : Cm) (i : Nat) (oks cuts : Int) : Prop where
  cfg : C.cfg = c
  snd : sndM C
  wear : Wear C cuts
  far : ∀ x, 2 ≤ x → C.er x = 0
  o : 0 ≤ oks ∧ oks ≤ i
  u : 0 ≤ cuts ∧ cuts ≤ i
  a : 0 ≤ C.acts ∧ C.acts ≤ (i : Int) * 11
  pot : (2 * c.erases + 2) * lpt c ≤ oks + phi C + cuts * (2 * lpt c)
  head : (infoM C).head ≤ i
  num : ∀ k : Nat, (k : Int) ≤ c.slots → numOf C k ≤ 1000 * (i : Int)
theorem WlI.lay {c : Cfg} {C D : Cm} {i : Nat} {oks cuts by_ e : Int} {sl : Nat} (ok : C.ok) (ho : C.out = false) (w : WlI c C i oks cuts) (hi : i < 2 ^ 50) (hsl : (sl : Int) ≤ C.cfg.slots) (hb : 0 ≤ by_ ∧ by_ < 1000)
    (hL : layL C (sl : Int) (IntKind.i64.wrap (IntKind.i64.wrap (numOf C sl + 1) + by_)) = (D, e)) :
    D.ok ∧ (e = 0 ∨ e = 8 ∨ e = 9) ∧ (e = 8 → D.out = true) ∧ (e ≠ 8 → D.out = false) ∧ (C.acts ≤ D.acts ∧ D.acts ≤ C.acts + C.cfg.slots + 3) ∧ (e = 9 → budgM c cuts ≤ oks) ∧ WlI c D (i + 1) (if e = 0 then oks + 1 else oks) (if e = 8 then cuts + 1 else cuts) := by
  have hm := ok.may
  have hn := w.num sl (by rw [← w.cfg]; exact hsl)
  have hn0 := ((infoM_ok ok).nums sl).1
  replace hn0 : 0 ≤ numOf C sl := hn0
  have hmv := most_val
  have ha := w.a
  have hms := hm.slots
  rw [wrap_id (n := numOf C sl + 1) (by omega), wrap_id (by omega)] at hL
  obtain ⟨D', e', d1, L, W, _, la, lb⟩ := lay_wear (u := false) ok ho w.snd (slot := sl) (n := numOf C sl + 1 + by_) hsl (by omega) (by omega) (by omega) w.wear ha.1 (by omega)
  have K := lay_cost (u := false) ok ho w.snd (slot := sl) hsl (by omega) (by omega) (by omega) hL
  rw [hL] at d1
  injection d1 with g1 g2
  subst g1 g2
  have P := lay_phi ok L.ok L.cfg K
  have cfg := w.cfg
  have hh := w.head
  have wo := w.o
  have wu := w.u
  have wp := w.pot
  rw [cfg] at P
  have hl : 0 ≤ lpt c := by rw [← cfg]; unfold lpt; have := hm.cells; omega
  refine ⟨L.ok, L.ec, K.out8, ?_, ⟨la, lb⟩, ?_, ?_⟩
  · intro h
    rcases L.ec with z | z | z
    · exact L.out0 z
    · exact absurd z h
    · rw [L.e9 z]; exact ho
  · intro h
    have := P.2.2 h (by omega)
    by_cases g : cuts ≤ c.erases
    · rw [budg_eq (by rw [← cfg]; exact hm) wu.1 g]; omega
    · unfold budgM
      rw [if_neg (fun y => g y.2.2)]; exact wo.1
  · refine ⟨L.cfg.trans cfg, L.snd, W, fun x hx => by rw [K.far x hx]; exact w.far x hx, ?_, ?_, ?_, ?_, ?_, ?_⟩
    · push_cast; split <;> omega
    · push_cast; split <;> omega
    · push_cast; omega
    · rcases L.ec with z | z | z
      · rw [if_pos z, if_neg (by omega)]
        have := P.1 z; omega
      · rw [if_neg (by omega), if_pos z]
        have z2 := Int.add_mul cuts 1 (2 * lpt c)
        rw [Int.one_mul] at z2
        have := P.2.1 z; omega
      · rw [if_neg (by omega), if_neg (by omega), L.e9 z]; exact wp
    · have := K.gen; push_cast; omega
    · intro k hk
      by_cases e : k = sl
      · subst e
        have := L.me
        push_cast; omega
      · rw [L.other k (by rw [cfg]; exact hk) e]
        have := w.num k hk
        push_cast; omega
abbrev cfgW (n : Nat) (c : Cfg) : Ent := blk n [.int .i64 c.cells, .int .i64 c.slots, .int .i64 c.fuses, .int .i64 c.step, .int .i64 c.keys, .int .i64 c.erases, .int .i64 c.area]
end Go.Proofs.Yteabcbpimjjdpaa
end

/- Wear: the statement about reports. Own work. -/
section
set_option maxRecDepth 100000
set_option linter.unusedVariables false
namespace Go.Proofs.Yteabcbpimjjdpaa
open Go Go.Vc

theorem er_pos {c : Cfg} {s : St} (lay : s.lays c) (ty : s.typed) : posE (layC c s) := by
  intro k
  have : (layC c s).er k = s.erases.getD k 0 := rfl
  rw [this, List.getD_eq_getElem?_getD]
  cases e : s.erases[k]? with
  | none => exact ⟨by decide, by decide⟩
  | some v =>
    have hm := List.mem_iff_getElem?.2 ⟨k, e⟩
    exact ⟨lay.pos v hm, (ty.erases v hm).2⟩
section
variable {h0 h : H} {A : List Ent} {i j p r l b : Nat} {C : Cm}
end
end Go.Proofs.Yteabcbpimjjdpaa
end

/- LogDoes: the pair of logs and its steps. Own work. -/
section
set_option maxRecDepth 100000
set_option linter.unusedVariables false
namespace Go.Proofs.Yteabcbpimjjdpaa
open Go Go.Vc

section
variable {h0 h : H} {A B : List Ent} {i j p r b q px l pr m : Nat} {C : Cm}
theorem Worn9_sp {Q : Bool → H → Prop} (hs : Sat h0 A h) (ci : At A i (chipE p C)) (cl : At A j (logE r p)) (k : ∀ h', Sat h0 A h' → Q (wornT C) h') : F_log_Log_Worn ⟨r, 0, none⟩ Q h := by
  unfold F_log_Log_Worn G_log_Log_Worn
  try simp only [add_mk, Nat.zero_add]
  refine logLook_sp hs ci cl ?_
  intro h1 hs
  obtain ⟨lp, lq⟩ := lookF_len C
  intro n17 _ hn; replace hs := Sat.new hs hn; clear hn
  refine ⟨Sat.can hs (i := 0) .z (by decide), ?_⟩
  intro h2 e
  replace hs := Sat.wra hs (i := 0) .z e (by rw [fnd_len lp lq]; rfl)
  clear e
  replace hs : Sat h0 (blk n17 (fndI (lookF C).1.p (lookF C).1.q (lookF C).1.n) :: A) h2 := hs
  unfold wornT at k
  by_cases ho : C.out = true
  · have e : lookF C = (⟨inf0, inf0, 0⟩, 8) := by unfold lookF; rw [if_pos ho]
    rw [if_pos ho] at k
    rw [e, if_neg (by simp)]
    exact k _ hs.drop
  have e : lookF C = (⟨pI C 0, pI C 1, presM C⟩, 0) := by unfold lookF; rw [if_neg ho]
  rw [if_neg ho] at k
  rw [e] at hs lp lq ⊢
  dsimp only at hs lp lq ⊢
  rw [if_pos (by simp)]
  have L := hs.fnd .z lp lq
  refine ⟨_, L.a0, _, ‹_›, L.a1, _, L.a10, _, L.a11, _, L.a12, _, L.a13, _, ‹_›, L.a14, _, L.a23, _, L.a24, _, L.a25, _, L.a26, ?_⟩
  refine worn9_sp hs ci.s cl.s (by simpa using ho) ?_
  intro h4 hs
  exact k _ hs.drop
end

/-- A step of a script over logs. -/
structure StL where
  kind : Int
  slot : Int
  n : Int
  up : Bool
  mask : List Int
  x : List Int
structure StL.ok (s : StL) : Prop where
  slot : s.slot < 2 ^ 63
  x : s.x.length = 32
  mb : bytesOk s.mask
  ml : s.mask.length + 4096 ≤ 2 ^ 47
section
variable {h0 h : H} {A B : List Ent} {i j p r b q px l pr m : Nat} {C : Cm}
end
end Go.Proofs.Yteabcbpimjjdpaa
end

/- Wear: WearTurns. Own work. -/
section
set_option maxRecDepth 100000
set_option linter.unusedVariables false
namespace Go.Proofs.Yteabcbpimjjdpaa
open Go Go.Vc

theorem er_lt {C : Cm} (ok : C.ok) (x : Nat) : C.er x < 2 ^ 63 := by
  unfold Cm.er
  rw [List.getD_eq_getElem?_getD]
  cases e : C.s.erases[x]? with
  | none => exact (by decide : (0 : Int) < 2 ^ 63)
  | some v => exact (ok.typed.erases v (List.mem_iff_getElem?.2 ⟨x, e⟩)).2
theorem left_avl {C : Cm} (ok : C.ok) (t : Nat) (h : 0 ≤ C.er t) : leftM C t (C.er t) = avl C t := by
  have h1 := er_lt ok t
  have he := ok.may.erases
  have e : IntKind.i64.wrap (C.cfg.erases - C.er t) = C.cfg.erases - C.er t := by rw [IntKind.wrap_i64]; omega
  have r : (if C.cfg.erases - C.er t > 0 then C.cfg.erases - C.er t else 0) = rest C.cfg.erases (C.er t) := rfl
  have r0 := rest_nn C.cfg.erases (C.er t)
  have r1 : rest C.cfg.erases (C.er t) ≤ 65536 := by unfold rest; split <;> omega
  unfold leftM avl bet
  rw [e, r]
  split
  · rw [wrap_id (by omega)]
  · omega
theorem avl_hi {C : Cm} (ok : C.ok) (t : Nat) (h : 0 ≤ C.er t) : avl C t ≤ 65537 := by
  have he := ok.may.erases
  have hb := bet_nn C t
  unfold avl rest; split <;> omega
theorem trn_hi {C : Cm} (ok : C.ok) (h : ∀ x, 0 ≤ C.er x) : trn C ≤ 131075 := by
  have h1 := avl_hi ok (tgtM C) (h _)
  have h2 := avl_hi ok (1 - tgtM C) (h _)
  unfold trn trnI; split <;> omega
theorem turns_trn {C : Cm} (ok : C.ok) (h : ∀ x, 0 ≤ C.er x) : turnsM C = trn C := by
  have h1 := avl_hi ok (tgtM C) (h _)
  have h2 := avl_hi ok (1 - tgtM C) (h _)
  have h3 := avl_nn C (tgtM C)
  have h4 := avl_nn C (1 - tgtM C)
  unfold turnsM trn trnI
  rw [left_avl ok _ (h _), left_avl ok _ (h _)]
  by_cases c : avl C (1 - tgtM C) < avl C (tgtM C)
  · rw [if_pos c, if_pos c, wrap_id (n := 2 * avl C (1 - tgtM C)) (by omega), wrap_id (by omega)]
  · rw [if_neg c, if_neg c, wrap_id (by omega)]
theorem free_frn {C : Cm} (ho : C.out = false) : freeT C = frn C := by
  unfold freeT frn
  rw [if_neg (by simp [ho])]
theorem lays_frn {C : Cm} (ok : C.ok) (ho : C.out = false) (h : ∀ x, 0 ≤ C.er x) : wlaysM C = frn C + trn C * lpt C.cfg ∧ 0 ≤ trn C * lpt C.cfg := by
  have hf := freeT_range ok
  have ht := trn_hi ok h
  have hl : 0 ≤ lpt C.cfg ∧ lpt C.cfg ≤ 256 := by have := ok.may.cells; have := ok.may.slots; unfold lpt; omega
  have := mul_small (trn_nn C) (by omega) hl.1 hl.2
  unfold wlaysM
  rw [turns_trn ok h, wlays_lpt ok.may, free_frn ho] at *
  rw [wrap_id (n := trn C * lpt C.cfg) (by omega), wrap_id (by omega)]
  exact ⟨rfl, this.1⟩
structure WtI (c : Cfg) (T0 F0 H0 : Int) (C : Cm) (i : Nat) : Prop where
  cfg : C.cfg = c
  out : C.out = false
  left : C.left < 0
  pos : ∀ x, 0 ≤ C.er x
  acts : 0 ≤ C.acts ∧ C.acts ≤ (i : Int) * 11
  low : F0 + T0 * lpt c ≤ i + frn C + trn C * lpt c
  up : i + frn C + trn C * c.cells ≤ F0 + T0 * c.cells
  head : (infoM C).head + trn C = H0 + T0
theorem WtI.lay {c : Cfg} {T0 F0 H0 : Int} {C D : Cm} {i sl : Nat} {e : Int} (ok : C.ok) (w : WtI c T0 F0 H0 C i) (hi : i < 2 ^ 50) (hsl : (sl : Int) ≤ C.cfg.slots) (hn : numOf C sl ≤ 2 ^ 61) (hT : H0 < 2 ^ 61 ∧ T0 ≤ 64)
    (hL : layL C (sl : Int) (numOf C sl + 1) = (D, e)) :
    (e = 9 ∧ D = C ∧ trn C = 0 ∧ frn C = 0 ∧ wornF C = true) ∨
    (e = 0 ∧ D.ok ∧ WtI c T0 F0 H0 D (i + 1) ∧ C.acts ≤ D.acts ∧ D.acts ≤ C.acts + C.cfg.slots + 3 ∧ (((infoM D).head = (infoM C).head ∧ trn D = trn C) ∨ ((infoM D).head = (infoM C).head + 1 ∧ trn D = trn C - 1))) := by
  have hmv := most_val
  have hn0 := ((infoM_ok ok).nums sl).1
  replace hn0 : 0 ≤ numOf C sl := hn0
  have snd : sndU true C := w.left
  obtain ⟨D', e', d1, L⟩ := lay_law (u := true) ok w.out snd (slot := sl) (n := numOf C sl + 1) hsl (by omega) (by omega) (by omega)
  have K := lay_cost (u := true) ok w.out snd (slot := sl) hsl (by omega) (by omega) (by omega) hL
  rw [hL] at d1
  injection d1 with g1 g2
  subst g1 g2
  have e8 := K.un rfl
  have wa := w.acts
  have wh := w.head
  have f0 := frn_nn ok
  have t0 := trn_nn C
  have cfg := w.cfg
  have ka := K.acts wa.1 (by omega)
  rcases L.ec with z | z | z
  · refine Or.inr ⟨z, L.ok, ?_, ka.1, ka.2, ?_⟩
    · have hlo := w.low
      have hup := w.up
      have hms := ok.may.slots
      have pos : ∀ x, 0 ≤ D.er x := fun x => Int.le_trans (w.pos x) (K.up x)
      have hl : D.left < 0 := L.snd
      by_cases g : 0 < frn C
      · obtain ⟨a, b, d⟩ := K.put z g
        exact ⟨L.cfg.trans cfg, L.out0 z, hl, pos, ⟨by omega, by push_cast; omega⟩, by rw [b]; push_cast; omega, by rw [b]; push_cast; omega, by omega⟩
      · obtain ⟨a, b, b2, d⟩ := K.turn z (by omega)
        rw [cfg] at b b2
        exact ⟨L.cfg.trans cfg, L.out0 z, hl, pos, ⟨by omega, by push_cast; omega⟩, by rw [a, Int.sub_mul, Int.one_mul]; push_cast; omega, by rw [a, Int.sub_mul, Int.one_mul]; push_cast; omega, by omega⟩
    · by_cases g : 0 < frn C
      · obtain ⟨a, b, d⟩ := K.put z g
        exact Or.inl ⟨d, b⟩
      · obtain ⟨a, b, b2, d⟩ := K.turn z (by omega)
        exact Or.inr ⟨d, a⟩
  · exact absurd z e8
  · obtain ⟨a, b⟩ := K.e9 z
    exact Or.inl ⟨z, L.e9 z, by omega, a, K.w9 z⟩
theorem WearTurns_sp {h0 : H} {a b c' : Sl} {Q : Bool → H → Prop} {sp : Option Addr} {sl sc : Nat} (c : Cfg) (s : St) (rd0 : RdS h0 a b c' s) (ty : s.typed) {ns : List Int} (rdN : hsv h0 sp 1 sl (ints .i64 ns)) (hns : sl < 2 ^ 50) (k : ∀ h', Ext none_ h0 h' → Q true h') :
    F_portcullislaw20_WearTurns c.cells c.slots c.fuses c.step c.keys c.erases c.area a.1 a.2.1 a.2.2 b.1 b.2.1 b.2.2 c'.1 c'.2.1 c'.2.2 sp sl sc Q h0 := by
  unfold F_portcullislaw20_WearTurns G_portcullislaw20_WearTurns
  have hs := Sat.init h0
  simp only [add_mk, Nat.zero_add, List.append_nil]
  intro n30 _ hn; replace hs := Sat.new hs hn; clear hn
  intro n33 _ hn; replace hs := Sat.new hs hn; clear hn
  (repeat first | refine ⟨_, Sat.ld hs (by (repeat (first | exact At.z | apply At.s))) (by rfl), ?_⟩ | refine ⟨_, _, _, Sat.ld hs (by (repeat (first | exact At.z | apply At.s))) (by rfl), ?_⟩ | (intro _ _ hn; replace hs := Sat.new hs hn; clear hn) | refine ⟨Sat.cs hs (by (repeat (first | exact At.z | apply At.s))) (by rfl), ?_⟩ | (refine ⟨Sat.can hs (by (repeat (first | exact At.z | apply At.s))) (by simp), ?_⟩; intro _ e; replace hs := Sat.wr hs (by (repeat (first | exact At.z | apply At.s))) e; clear e; simp only [put, splice, List.set] at hs))
  refine Lay_sp (a := a) (b := b) (c' := c') (s := s) c hs (fun h' hs' => rd0.ext hs'.ex) ty ?_ ?_ ?_
  · intro nm h2 hs J hJ
    rw [if_pos (by simp)]
    (repeat first | refine ⟨_, Sat.ld hs (by (repeat (first | exact At.z | apply At.s))) (by rfl), ?_⟩ | refine ⟨_, _, _, Sat.ld hs (by (repeat (first | exact At.z | apply At.s))) (by rfl), ?_⟩ | (intro _ _ hn; replace hs := Sat.new hs hn; clear hn) | refine ⟨Sat.cs hs (by (repeat (first | exact At.z | apply At.s))) (by rfl), ?_⟩ | (refine ⟨Sat.can hs (by (repeat (first | exact At.z | apply At.s))) (by simp), ?_⟩; intro _ e; replace hs := Sat.wr hs (by (repeat (first | exact At.z | apply At.s))) e; clear e; simp only [put, splice, List.set] at hs))
    refine rLay_sp (a := a) (b := b) (c' := c') (s := s) c hs (fun h' hs' => rd0.ext hs'.ex) ty ?_ (fun m => absurd m nm) (fun m => absurd m nm)
    intro _ h3 hs
    rw [if_pos (by simp), if_pos (by simp)]
    exact fixed20_sp hs fun h' hs => k _ hs.ex
  · intro m nl h2 hs J hJ
    rw [if_pos (by simp)]
    (repeat first | refine ⟨_, Sat.ld hs (by (repeat (first | exact At.z | apply At.s))) (by rfl), ?_⟩ | refine ⟨_, _, _, Sat.ld hs (by (repeat (first | exact At.z | apply At.s))) (by rfl), ?_⟩ | (intro _ _ hn; replace hs := Sat.new hs hn; clear hn) | refine ⟨Sat.cs hs (by (repeat (first | exact At.z | apply At.s))) (by rfl), ?_⟩ | (refine ⟨Sat.can hs (by (repeat (first | exact At.z | apply At.s))) (by simp), ?_⟩; intro _ e; replace hs := Sat.wr hs (by (repeat (first | exact At.z | apply At.s))) e; clear e; simp only [put, splice, List.set] at hs))
    refine rLay_sp (a := a) (b := b) (c' := c') (s := s) c hs (fun h' hs' => rd0.ext hs'.ex) ty (fun nm => absurd m nm) ?_ (fun _ l => absurd l nl)
    intro _ _ h3 hs
    rw [if_pos (by simp), if_pos (by simp)]
    exact fixed20_sp hs fun h' hs => k _ hs.ex
  intro m lay px h2 hs J hJ
  rw [if_neg (by simp), if_neg (by simp)]
  apply hJ
  clear hJ J
  have ok := layC_ok m lay ty
  have hpos : ∀ x, 0 ≤ (layC c s).er x := fun x => (er_pos lay ty x).1
  have co : (layC c s).out = false := rfl
  have ca : (layC c s).acts = 0 := rfl
  have cl : (layC c s).left < 0 := by show (-1 : Int) < 0; decide
  have cc : (layC c s).cfg = c := rfl
  generalize layC c s = C at *
  refine ⟨_, rfl, ?_⟩
  refine Mount_sp hs (i := 0) .z (fun y => by rw [co] at y; cases y) ?_
  intro _ lp h3 hs
  refine ⟨_, rfl, ?_⟩
  refine wOf_sp hs (i := 1) (.s .z) (fun y => by rw [co] at y; cases y) ?_
  intro _ x h4 hs
  intro n71 _ hn; replace hs := Sat.new hs hn; clear hn
  (refine ⟨Sat.can hs (by (repeat (first | exact At.z | apply At.s))) (by simp), ?_⟩; intro _ e; replace hs := Sat.wr hs (by (repeat (first | exact At.z | apply At.s))) e; clear e; simp only [put, splice, List.set] at hs)
  intro J76 hJ76
  have eT := turns_trn ok hpos
  obtain ⟨eL, pL⟩ := lays_frn ok co hpos
  have eF := free_frn co
  have fr := freeT_range ok
  have t0 := trn_nn C
  rw [if_neg (by simp), if_neg (by simp), if_neg (by simp)]
  refine ⟨_, Sat.ld hs (by (repeat (first | exact At.z | apply At.s))) (by rfl), ?_⟩
  rw [ltI_eq, if_neg (by rw [decide_eq_true_iff]; omega)]
  refine ⟨_, Sat.ld hs (by (repeat (first | exact At.z | apply At.s))) (by rfl), ?_⟩
  refine ⟨_, Sat.ld hs (by (repeat (first | exact At.z | apply At.s))) (by rfl), ?_⟩
  rw [ltI_eq, if_neg (by rw [decide_eq_true_iff]; omega)]
  apply hJ76
  clear hJ76 J76
  intro J78 hJ78
  refine ⟨_, rfl, ?_⟩
  refine Generation_sp hs (i := 3) (j := 2) (by (repeat (first | exact At.z | apply At.s))) (by (repeat (first | exact At.z | apply At.s))) ?_
  intro h5 hs
  intro i171 hi171
  subst hi171
  have eg : genT C = (infoM C).head := by unfold genT; rw [if_neg (by simp [co])]
  rw [eg, leI_eq]
  by_cases gg : 2305843009213693952 ≤ (infoM C).head
  · rw [if_pos (by rw [decide_eq_true_iff]; exact gg)]
    exact fixed20_sp hs fun h' hs => k _ hs.ex
  rw [if_neg (by rw [decide_eq_true_iff]; exact gg)]
  refine ⟨_, Sat.ld hs (by (repeat (first | exact At.z | apply At.s))) (by rfl), ?_⟩
  rw [ltI_eq]
  by_cases gt : 64 < turnsM C
  · rw [if_pos (by rw [decide_eq_true_iff]; exact gt)]
    exact fixed20_sp hs fun h' hs => k _ hs.ex
  rw [if_neg (by rw [decide_eq_true_iff]; exact gt)]
  by_cases gl : sl = 0
  · rw [if_pos (by simp [gl])]
    exact fixed20_sp hs fun h' hs => k _ hs.ex
  rw [if_neg (by simp [gl])]
  apply hJ78
  clear hJ78 J78
  intro g _ hn; replace hs := Sat.new hs hn; clear hn
  replace hs : Sat h0 (gmE g px lp 0 0 :: blk n71 [x.v, .int .i64 (apartM C), .int .i64 (freeT C), .int .i64 (turnsM C), .int .i64 (wlaysM C)] :: sE x 1 (ints .i64 C.s.erases) :: logE lp px :: chipE px C :: [blk n33 [a.v, b.v, c'.v], cfgW n30 c]) _ := hs
  replace hs := Sat.front hs (e := chipE px C) (by (repeat (first | exact At.z | apply At.s)))
  replace hs := Sat.front hs (e := logE lp px) (by (repeat (first | exact At.z | apply At.s)))
  replace hs := Sat.front hs (e := gmE g px lp 0 0) (by (repeat (first | exact At.z | apply At.s)))
  simp only [del] at hs
  obtain ⟨L, hL⟩ : ∃ L, L = [blk n71 [x.v, .int .i64 (apartM C), .int .i64 (freeT C), .int .i64 (turnsM C), .int .i64 (wlaysM C)], sE x 1 (ints .i64 C.s.erases), blk n33 [a.v, b.v, c'.v], cfgW n30 c] := ⟨_, rfl⟩
  have tT : At L 0 (blk n71 [x.v, .int .i64 (apartM C), .int .i64 (freeT C), .int .i64 (turnsM C), .int .i64 (wlaysM C)]) := by rw [hL]; exact .z
  have tC : At L 3 (cfgW n30 c) := by rw [hL]; exact .s (.s (.s .z))
  replace hs := Sat.eqL (B := gmE g px lp 0 0 :: logE lp px :: chipE px C :: L) hs (by rw [hL])
  clear hL
  have hms := m.slots
  have hmc := m.cells
  have hml : ns.length = sl := by have := rdN.1; simpa using this
  obtain ⟨T0, hT0⟩ : ∃ T0, T0 = trn C := ⟨_, rfl⟩
  obtain ⟨F0, hF0⟩ : ∃ F0, F0 = frn C := ⟨_, rfl⟩
  obtain ⟨H0, hH0⟩ : ∃ H0, H0 = (infoM C).head := ⟨_, rfl⟩
  have hb := mul_small (a := T0) (l := c.cells) (by omega) (by omega) (by omega) (by omega)
  have hcap : F0 + T0 * c.cells ≤ 16640 := by
    have := Int.mul_le_mul (show T0 ≤ 64 by omega) (show c.cells ≤ 256 by omega) (by omega) (by decide)
    omega
  have w0 : WtI c T0 F0 H0 C 0 := ⟨cc, co, cl, hpos, by rw [ca]; decide, by rw [hF0, hT0]; omega, by rw [hF0, hT0]; omega, by omega⟩
  have z0 : (0 : Int) = T0 - trn C := by omega
  have lays0 : wlaysM C = F0 + T0 * lpt c := by rw [eL, hF0, hT0, cc]
  have pl : 0 ≤ T0 * lpt c := by rw [hT0, ← cc]; exact pL
  rw [← cc] at pl
  rw [eT, lays0] at tT
  rw [← hT0] at tT
  have gt0 : T0 ≤ 64 := by omega
  have gg0 : H0 < 2 ^ 61 := by omega
  rw [cc] at pl
  have hF : 0 ≤ F0 := by omega
  have gT : 0 ≤ T0 := by omega
  clear eL pL eF fr t0 eg gg gt lays0 eT hT0 hF0 hH0
  generalize (apartM C) = apC at tT
  generalize (freeT C) = frC at tT
  intro J hJ
  refine loop_st 16641 (fun i (t : Int) => [.dv (.one (.int .i64 t)), si i])
    (fun i t h => ∃ C, t = T0 - trn C ∧ WtI c T0 F0 H0 C i ∧ Sat h0 (gmE g px lp i 0 :: logE lp px :: chipE px C :: L) h) ?_ ?_ 0 0 _ (by omega) ⟨C, z0, w0, hs⟩
  · rintro i t h6 hi ⟨C, ht, w, hs⟩ hk
    apply hJ
    have ok := chip_ok hs (i := 2) (by (repeat (first | exact At.z | apply At.s)))
    have cc := w.cfg
    have m0 := Int.tmod_nonneg (sl : Int) (show (0 : Int) ≤ (i : Int) by omega)
    have m1 := Int.tmod_lt_of_pos (i : Int) (show (0 : Int) < (sl : Int) by omega)
    obtain ⟨idx, hidx⟩ := Int.eq_ofNat_of_zero_le m0
    rw [hidx] at m1 ⊢
    obtain ⟨q, hq, gq⟩ := hsv_int (hsv_ext hs.ex rdN (fun _ _ y => y)) (x := idx) (by omega)
    refine ⟨by omega, _, hq, by omega, by omega, ?_⟩
    simp only [Int.toNat_natCast, Nat.mul_one]
    refine ⟨_, gq, ?_⟩
    intro on _ hn; replace hs := Sat.new hs hn; clear hn
    refine ⟨Sat.can hs (i := 0) .z (by simp), ?_⟩
    intro h7 e
    replace hs := Sat.wr hs (i := 0) .z e
    clear e
    replace hs : Sat h0 (blk on [.int .i64 0, .int .i64 (ns.getD idx 0), .int .i64 0, .slice none 0 0] :: gmE g px lp i 0 :: logE lp px :: chipE px C :: L) h7 := hs
    have tCs : At (blk on [.int .i64 0, .int .i64 (ns.getD idx 0), .int .i64 0, .slice none 0 0] :: gmE g px lp i 0 :: logE lp px :: chipE px C :: L) 7 (cfgW n30 c) := tC.s.s.s.s
    refine ⟨_, hs.ld (i := 0) .z rfl, _, hs.ld tCs rfl, ?_⟩
    rw [wrap_id (n := c.slots + 1) (by omega)]
    refine ⟨by omega, ?_⟩
    obtain ⟨r0, r1⟩ := rnd_in (ns.getD idx 0) (n := c.slots + 1) (by omega)
    obtain ⟨slot, hslot⟩ := Int.eq_ofNat_of_zero_le r0
    have hsl2 : (slot : Int) ≤ C.cfg.slots := by rw [cc]; omega
    intro J96 hJ96
    have way : J96 [.dv (.one (.int .i64 (slot : Int)))] h7 := by
      apply hJ96
      clear hJ96 J96
      refine ⟨_, rfl, ?_⟩
      refine Number_sp hs (i := 3) (j := 2) (by (repeat (first | exact At.z | apply At.s))) (by (repeat (first | exact At.z | apply At.s))) (slot : Int) ?_
      intro h8 hs
      have en : numberM C (slot : Int) = (numOf C slot, 0) := by
        unfold numberM
        rw [if_neg (by simp [w.out]), if_neg (fun y => y ⟨by omega, by omega⟩), Int.toNat_natCast]
      rw [en, if_neg (by simp)]
      intro i103 hi103
      subst hi103
      rw [ltI_eq]
      by_cases gn : 2305843009213693952 < numOf C slot
      · rw [if_pos (by rw [decide_eq_true_iff]; exact gn)]
        exact fixed20_sp hs fun h' hs => k _ hs.ex
      rw [if_neg (by rw [decide_eq_true_iff]; exact gn)]
      refine ⟨_, rfl, ?_⟩
      refine Generation_sp hs (i := 3) (j := 2) (by (repeat (first | exact At.z | apply At.s))) (by (repeat (first | exact At.z | apply At.s))) ?_
      intro h9 hs
      have eg : genT C = (infoM C).head := by unfold genT; rw [if_neg (by simp [w.out])]
      rw [eg]
      refine ⟨_, hs.ld (i := 0) .z rfl, _, hs.ld (i := 0) .z rfl, _, hs.ld (i := 0) .z rfl, _, _, _, hs.ld (i := 0) .z rfl, ?_⟩
      have wa := w.acts
      refine glay_sp hs.drop (by omega) (by omega) (fun y => by rw [w.out] at y; cases y) ?_
      intro _ sl9 D e h10 hsl9 _ hLay hg
      have hcs := ok.may.slots
      have : sl9 = slot := by
        have h1 : (sl9 : Int) = rndM (ns.getD idx 0) (c.slots + 1) := by rw [← hsl9]; show rndM _ (C.cfg.slots + 1) = _; rw [cc]
        omega
      subst this
      have hn0 := ((infoM_ok ok).nums sl9).1
      replace hn0 : 0 ≤ numOf C sl9 := hn0
      rw [show absR 0 = 0 by decide, wrap_id (n := numOf C sl9 + 1) (by omega), wrap_id (by omega), show numOf C sl9 + 1 + 0 = numOf C sl9 + 1 by omega] at hLay
      have hup := w.up
      rcases w.lay ok (by omega) hsl2 (by omega) ⟨gg0, gt0⟩ hLay with ⟨z, dC, tz, fz, wz⟩ | ⟨z, okD, wD, a1, a2, tr⟩
      · subst z dC
        rw [if_neg (by decide)] at hg
        clear hs
        have hs := hg
        clear hg
        rw [if_pos (by decide)]
        refine ⟨_, rfl, ?_⟩
        refine wOf_sp hs (i := 2) (by (repeat (first | exact At.z | apply At.s))) (fun y => by rw [w.out] at y; cases y) ?_
        intro _ y h11 hs
        intro n129 _ hn; replace hs := Sat.new hs hn; clear hn
        refine ⟨Sat.can hs (i := 0) .z (by simp), ?_⟩
        intro h12 e
        replace hs := Sat.wr hs (i := 0) .z e
        clear e
        replace hs : Sat h0 (blk n129 [y.v, .int .i64 (apartM D), .int .i64 (freeT D), .int .i64 (turnsM D), .int .i64 (wlaysM D)] :: sE y 1 (ints .i64 D.s.erases) :: gmE g px lp i 0 :: logE lp px :: chipE px D :: L) h12 := hs
        refine ⟨_, hs.ld (b := n71) tT.s.s.s.s.s rfl, ?_⟩
        rw [if_pos (by simp; omega)]
        refine ⟨_, hs.ld (i := 2) (by (repeat (first | exact At.z | apply At.s))) rfl, _, hs.ld (b := n71) tT.s.s.s.s.s rfl, ?_⟩
        have hlo := w.low
        rw [fz, tz, Int.zero_mul] at hlo
        rw [leI_eq, if_pos (by rw [decide_eq_true_iff]; omega), if_pos (by decide)]
        refine ⟨_, hs.ld (i := 0) .z rfl, ?_⟩
        rw [turns_trn ok w.pos, tz, if_pos (by decide)]
        refine ⟨_, hs.ld (i := 0) .z rfl, ?_⟩
        rw [free_frn w.out, fz, if_pos (by decide)]
        refine ⟨_, rfl, ?_⟩
        refine Worn9_sp hs (i := 4) (j := 3) (by (repeat (first | exact At.z | apply At.s))) (by (repeat (first | exact At.z | apply At.s))) ?_
        intro h13 hs
        have : wornT D = true := by unfold wornT; rw [if_neg (by simp [w.out])]; exact wz
        rw [this, if_pos rfl]
        exact fixed20_sp hs fun h' hs => k _ hs.ex
      · subst z
        rw [if_pos rfl] at hg
        clear hs
        have hs := hg
        clear hg
        rw [if_neg (by decide)]
        intro J144 hJ144
        rw [if_neg (by decide), wrap_id (n := D.acts - C.acts) (by omega), wrap_id (n := C.cfg.slots + 3) (by rw [cc]; omega), leI_eq, decide_eq_true (by omega), if_neg (by decide)]
        have eD : genT D = (infoM D).head := by unfold genT; rw [if_neg (by simp [wD.out])]
        have hh := w.head
        have hcell := ok.may.cells
        have tn := trn_nn C
        have th := trn_hi ok w.pos
        have wu := wD.up
        have wf := frn_nn okD
        have wt := trn_nn D
        have wm := Int.mul_nonneg wt (show 0 ≤ c.cells by omega)
        have hT0n := w.low
        have way3 : ∀ h', Sat h0 (gmE g px lp ((i : Int) + 1) 0 :: logE lp px :: chipE px D :: L) h' → J144 [] h' := by
          intro h11 hs
          apply hJ144
          clear hJ144 J144
          refine ⟨_, rfl, ?_⟩
          refine Generation_sp hs (i := 2) (j := 1) (by (repeat (first | exact At.z | apply At.s))) (by (repeat (first | exact At.z | apply At.s))) ?_
          intro h12 hs
          rw [eD, wrap_succ (by omega)]
          have hs' : Sat h0 (gmE g px lp ((i + 1 : Nat) : Int) 0 :: logE lp px :: chipE px D :: L) h12 := by push_cast; exact hs
          rcases tr with ⟨t1, t2⟩ | ⟨t1, t2⟩
          · rw [if_neg (by rw [t1]; simp)]
            exact hk t _ ⟨D, by omega, wD, hs'⟩
          · rw [if_pos (by rw [bne_iff_ne]; omega), wrap_id (n := t + 1) (by omega)]
            exact hk (t + 1) _ ⟨D, by omega, wD, hs'⟩
        have tail : ∀ h', Sat h0 (gmE g px lp ((i : Int) + 1) 0 :: logE lp px :: chipE px D :: L) h' → ∃ x : Int, hc h' ⟨g, 2, none⟩ = some (.int .i64 x) ∧ ∃ y : Int, hc h' ⟨n71, 4, none⟩ = some (.int .i64 y) ∧ if ltI (IntKind.i64.wrap (y + 16640)) x = true then Q false h' else J144 [] h' := by
          intro h11 hs
          refine ⟨_, hs.ld (i := 0) .z rfl, _, hs.ld (b := n71) tT.s.s.s rfl, ?_⟩
          have hl : 0 ≤ lpt c ∧ lpt c ≤ 256 := by unfold lpt; omega
          have ms := mul_small (a := T0) (l := lpt c) (by omega) (by omega) hl.1 hl.2
          rw [wrap_id (by omega), ltI_eq, if_neg (by rw [decide_eq_true_iff]; omega)]
          exact way3 _ hs
        refine ⟨_, rfl, ?_⟩
        refine Generation_sp hs (i := 2) (j := 1) (by (repeat (first | exact At.z | apply At.s))) (by (repeat (first | exact At.z | apply At.s))) ?_
        intro h11 hs
        rw [eD]
        rcases tr with ⟨t1, t2⟩ | ⟨t1, t2⟩
        · rw [if_neg (by rw [t1]; simp)]
          exact tail _ hs
        · rw [if_pos (by rw [bne_iff_ne]; omega)]
          refine ⟨_, rfl, ?_⟩
          refine Generation_sp hs (i := 2) (j := 1) (by (repeat (first | exact At.z | apply At.s))) (by (repeat (first | exact At.z | apply At.s))) ?_
          intro h12 hs
          rw [eD, wrap_id (n := (infoM C).head + 1) (by have := (infoM_ok ok).head; omega), if_neg (by rw [bne_iff_ne]; omega)]
          exact tail _ hs
    unfold rndM at r0 r1 hslot
    rw [ltI_eq]
    by_cases cn : (ns.getD idx 0).tmod (c.slots + 1) < 0
    · rw [if_pos cn] at hslot r0 r1
      rw [if_pos (by simpa using cn)]
      refine ⟨_, hs.ld tCs rfl, ?_⟩
      rw [wrap_id (n := c.slots + 1) (by omega), wrap_id (by omega), hslot]
      exact way
    · rw [if_neg cn] at hslot
      rw [if_neg (by simpa using cn), hslot]
      exact way
  · rintro t h6 ⟨C, _, w, hs⟩
    have ok := chip_ok hs (i := 2) (by (repeat (first | exact At.z | apply At.s)))
    have := w.up
    have := frn_nn ok
    have := Int.mul_nonneg (trn_nn C) (show 0 ≤ c.cells by omega)
    omega
end Go.Proofs.Yteabcbpimjjdpaa
end

/- WearTurns: of any chip, without cuts, just so many turns are made and no fewer lays are taken as the report says; for every input. -/
section
set_option maxRecDepth 100000
set_option linter.unusedVariables false
namespace Go.Proofs.Yteabcbpimjjdpaa
open Go Go.Vc Go.ChangeShapes Go.WideShapes Go.ChangeAt Go.RowKit

theorem WearTurns_calls {D : Type} {enc : TypeId × Value → D} {W : World} {base : Nat} (vs : List Value) (h : ArgsOk enc PP W base [23, 49, 46] vs) : CallsTrue PP 7 vs W := by
  obtain ⟨hl, h⟩ := h
  match vs, hl with
  | [v0, v1, v2], _ =>
  obtain ⟨r0, w0⟩ := h 0 _ v0 rfl rfl
  obtain ⟨r1, w1⟩ := h 1 _ v1 rfl rfl
  obtain ⟨r2, w2⟩ := h 2 _ v2 rfl rfl
  obtain ⟨c0, rfl⟩ := cfg_of r0 w0
  obtain ⟨a1, b1, d1, s1, rfl, rd1, ty1, sm1⟩ := chip_of r1 w1
  obtain ⟨p, l, cc, rfl, hsl⟩ := slice_of (e := 3) (by kernel_rfl) r2 w2
  obtain ⟨ns, hns, _, hl2⟩ := ints_of hsl
  have hl3 : ns.length = l := by have := hns.1; simpa using this
  have := R_portcullislaw20_WearTurns [.agg (c0.vals.map .c), .agg [.c a1.v, .c b1.v, .c d1.v], .one (.slice p l cc)] (fun rs h' => rs = [DV.one (.bool true)] ∧ Ext none_ W.heap h') W.heap (by
    intro x hx
    simp only [List.mem_cons, List.not_mem_nil, or_false] at hx
    rcases hx with rfl | rfl | rfl
    · exact ok_cfg c0
    · exact ok_chip a1 b1 d1
    · rfl
    ) (by
    show F_portcullislaw20_WearTurns c0.cells c0.slots c0.fuses c0.step c0.keys c0.erases c0.area a1.1 a1.2.1 a1.2.2 b1.1 b1.2.1 b1.2.2 d1.1 d1.2.1 d1.2.2 p l cc (fun b h' => [DV.one (.bool b)] = [DV.one (.bool true)] ∧ Ext none_ W.heap h') W.heap
    exact WearTurns_sp c0 s1 rd1 ty1 hns (by omega) fun h' x => ⟨rfl, x⟩)
  exact this
theorem WearTurns_lifted (os : Os) (started : os.Started) (D : Type) (enc : TypeId × Value → D) :
    ReturnsInHanded {} Try.checked os 7 .any (Rows.wearTurnsSpec.pre6 enc Try.prog Try.f7 Rows.wearTurnsRow.domain false) (Rows.wearTurnsSpec.post enc Try.prog Try.f7 false true false false) := by
  refine returnsInHanded_of_change_sized (C := Try.checked) Try.own started (by kernel_rfl) Try.func7
    (ChangeSpec.witness6 (enc := enc) (C := Try.checked) false ⟨#[], #[.agg #[.int .i64 0, .int .i64 0, .int .i64 0, .int .i64 0, .int .i64 0, .int .i64 0, .int .i64 0], .agg #[.slice none 0 0, .slice none 0 0, .slice none 0 0], .slice none 0 0], []⟩ 8 (by kernel_rfl) (by kernel_rfl) (by kernel_rfl) (by kernel_rfl)) ?_
  intro W base args ds gs before hval hW hcnd hsz _
  exact law_go (P := Try.prog) (fn := Try.f7) (s := Rows.wearTurnsSpec) [23, 49, 46] (by kernel_rfl) Try.laidOut rfl (by kernel_rfl) (by kernel_rfl) Try.ubool
    (fun ds hl => match ds, hl with | [d1, d2, d3], _ => rfl) hval hW hsz WearTurns_calls

theorem WearTurns_holds : Rows.WearTurnsSaid :=
  OpenClaim.holds_of_wide 7 Try.f7 rfl rfl rfl rfl rfl rfl rfl ⟨rfl, rfl, rfl, rfl, rfl⟩ rfl rfl rfl rfl rfl (by kernel_rfl) Try.func7 (by kernel_rfl)
    (of_decide_eq_true (by kernel_rfl)) (by unfold Func.isWrapper; first | (rw [if_pos (by decide +kernel)]; kernel_rfl) | (rw [if_neg (by decide +kernel)]; exact ⟨rfl, rfl⟩))
    (fun os started H enc _ => WearTurns_lifted os started H enc)

end Go.Proofs.Yteabcbpimjjdpaa
end
