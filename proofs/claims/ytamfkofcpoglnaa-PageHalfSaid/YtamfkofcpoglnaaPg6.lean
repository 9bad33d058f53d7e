/- Contracts of the pages' statements: PageHalf. Own work. -/
import Derived.Test.YtamfkofcpoglnaaFa9
import Derived.Test.YtamfkofcpoglnaaPg5
set_option autoImplicit false
set_option linter.all false
set_option maxRecDepth 100000
set_option linter.unusedVariables false
namespace Go.Proofs.Ytamfkofcpoglnaa
open Go Go.Vc

/-- What two chips are after the act, one cut, one whole. -/
structure Half (c : Cfg) (s : St) (pg : Nat) (row : List Int) (l : Nat) (D E : Cm) : Prop where
  dc : D.cfg = c
  ec : E.cfg = c
  eo : E.out = false
  dp : D.s.pages.length = s.pages.length
  ep : E.s.pages.length = s.pages.length
  ds : soundM (D.s.pages.getD pg []) l
  z : ∃ z, (z = row ∨ z = E.s.pages.getD pg []) ∧ (∀ k, k < l → bytesOk (cellAt z k)) ∧
    ∀ k, k < l → (recM (cellAt (D.s.pages.getD pg []) k)).1 = 0 ∨ (recM (cellAt (D.s.pages.getD pg []) k)).1 = 3 ∨ recM (cellAt (D.s.pages.getD pg []) k) = recM (cellAt z k)
theorem getD_set {α : Type} (l : List α) (j : Nat) (v d : α) (h : j < l.length) : (l.set j v).getD j d = v := by
  simp [List.getD, h]
section
variable {c : Cfg} {s : St} {C0 : Cm} {pg : Int} {row : List Int} {l : Nat}
theorem half_of_erase (ok : C0.ok) (cc : C0.cfg = c) (cs : C0.s = s) (co : C0.out = false) (cl : C0.left = -1) (mask : List Int) (p1 : 0 ≤ pg) (p2 : pg < s.pages.length) (er : s.pages.getD pg.toNat [] = row) (hlen : row.length = l * 32) (hb : bytesOk row) (hs : soundM row l) :
    Half c s pg.toNat row l (eraseM (cutM C0 0 mask) pg).1 (eraseM C0 pg).1 := by
  have hj : pg.toNat < s.pages.length := by omega
  have hz : ∀ k, k < l → bytesOk (cellAt row k) := fun k hk v hv => hb v (cellAt_mem hv)
  have a1 : askedM (cutM C0 0 mask) pg (cutM C0 0 mask).s.pages.length = 0 := askedM_in co p1 (by show pg < C0.s.pages.length; rw [cs]; exact p2)
  have a2 : askedM C0 pg C0.s.pages.length = 0 := askedM_in co p1 (by rw [cs]; exact p2)
  have c1 : (cutM C0 0 mask).cfg = C0.cfg := rfl
  have c2 : (cutM C0 0 mask).s = C0.s := rfl
  unfold eraseM
  have z0 : ¬ ((0 : Int) ≠ 0) := by simp
  rw [a1, a2, if_neg z0, if_neg z0, c1, c2]
  by_cases w : C0.cfg.erases ≤ C0.s.erases.getD pg.toNat 0
  · rw [if_pos w, if_pos w]
    dsimp only
    refine ⟨cc, cc, co, by rw [c2, cs], by rw [cs], ?_, row, Or.inl rfl, hz, ?_⟩
    · rw [c2, cs, er]; exact hs
    · rw [c2, cs, er]; exact fun k _ => Or.inr (Or.inr rfl)
  · rw [if_neg w, if_neg w]
    have e1 : ∀ (f : Nat → Int) (n : Int) (X : Cm), X.s = s → (((X.setErase pg.toNat n).setPage pg.toNat (eraseRow row f)).s.pages.getD pg.toNat []) = eraseRow row f := by
      intro f n X hX
      show (X.s.pages.set pg.toNat (eraseRow row f)).getD pg.toNat [] = _
      rw [hX]
      exact getD_set _ _ _ _ hj
    have e2 : ∀ (f : Nat → Int) (n : Int) (X : Cm), X.s = s → ((X.setErase pg.toNat n).setPage pg.toNat (eraseRow row f)).s.pages.length = s.pages.length := by
      intro f n X hX
      show (X.s.pages.set pg.toNat (eraseRow row f)).length = _
      rw [hX, List.length_set]
    have r1 : rowOf (cutM C0 0 mask) pg = row := by unfold rowOf; rw [c2, cs]; exact er
    have r2 : rowOf C0 pg = row := by unfold rowOf; rw [cs]; exact er
    rw [r1, r2]
    have s1 : (cutM C0 0 mask).act.s = s := by rw [act_s]; exact cs
    have s2 : C0.act.s = s := by rw [act_s]; exact cs
    obtain ⟨h1, h2⟩ := half_erase (maskAt (cutM C0 0 mask)) hlen hb hs
    refine ⟨?_, ?_, ?_, e2 _ _ _ s1, e2 _ _ _ s2, ?_, row, Or.inl rfl, hz, ?_⟩
    · show (cutM C0 0 mask).act.cfg = c
      rw [act_cfg]; exact cc
    · show C0.act.cfg = c
      rw [act_cfg]; exact cc
    · show C0.act.out = false
      exact act_out co (by rw [cl]; decide)
    · dsimp only
      rw [e1 _ _ _ s1]; exact h1
    · dsimp only
      rw [e1 _ _ _ s1]; exact h2
theorem half_of_prog (ok : C0.ok) (cc : C0.cfg = c) (cs : C0.s = s) (co : C0.out = false) (cl : C0.left = -1) (mask : List Int) (p1 : 0 ≤ pg) (p2 : pg < s.pages.length) (er : s.pages.getD pg.toNat [] = row) (hlen : row.length = l * 32) (hb : bytesOk row) (hs : soundM row l)
    {place kind slot n : Int} (hk : isByte kind) (q1 : 0 ≤ place) (q2 : place < c.cells) (hl : (l : Int) = c.cells) (hbl : cellAt row place.toNat = blankCell) :
    Half c s pg.toNat row l (programM (cutM C0 0 mask) pg place (laidM kind slot n)).1 (programM C0 pg place (laidM kind slot n)).1 := by
  have hj : pg.toNat < s.pages.length := by omega
  have c1 : (cutM C0 0 mask).cfg = C0.cfg := rfl
  have c2 : (cutM C0 0 mask).s = C0.s := rfl
  have a1 : asksCellM (cutM C0 0 mask) pg place = 0 := by
    unfold asksCellM
    rw [c1, c2, cs, cc, askedM_in (C := cutM C0 0 mask) co p1 p2, if_neg (by simp), askedM_in (C := cutM C0 0 mask) co q1 q2]
  have a2 : asksCellM C0 pg place = 0 := by
    unfold asksCellM
    rw [cs, cc, askedM_in co p1 p2, if_neg (by simp), askedM_in co q1 q2]
  unfold programM
  have z0 : ¬ ((0 : Int) ≠ 0) := by simp
  rw [a1, a2, if_neg z0, if_neg z0]
  have r1 : rowOf (cutM C0 0 mask) pg = row := by unfold rowOf; rw [c2, cs]; exact er
  have r2 : rowOf C0 pg = row := by unfold rowOf; rw [cs]; exact er
  rw [r1, r2]
  have m0 : maskAt C0 = fun _ => 255 := by funext i; unfold maskAt; rw [if_pos (by rw [cl]; decide)]
  rw [m0]
  have s1 : (cutM C0 0 mask).act.s = s := by rw [act_s]; exact cs
  have s2 : C0.act.s = s := by rw [act_s]; exact cs
  have e1 : ∀ (r : List Int) (X : Cm), X.s = s → (X.setPage pg.toNat r).s.pages.getD pg.toNat [] = r := by
    intro r X hX
    show (X.s.pages.set pg.toNat r).getD pg.toNat [] = _
    rw [hX]
    exact getD_set _ _ _ _ hj
  have e2 : ∀ (r : List Int) (X : Cm), X.s = s → (X.setPage pg.toNat r).s.pages.length = s.pages.length := by
    intro r X hX
    show (X.s.pages.set pg.toNat r).length = _
    rw [hX, List.length_set]
  obtain ⟨h1, h2⟩ := half_prog (slot := slot) (n := n) (maskAt (cutM C0 0 mask)) hk hlen hb hs (place := place.toNat) (by omega) hbl
  refine ⟨?_, ?_, ?_, e2 _ _ s1, e2 _ _ s2, ?_, _, Or.inr rfl, ?_, ?_⟩
  · show (cutM C0 0 mask).act.cfg = c
    rw [act_cfg]; exact cc
  · show C0.act.cfg = c
    rw [act_cfg]; exact cc
  · show C0.act.out = false
    exact act_out co (by rw [cl]; decide)
  · dsimp only
    rw [e1 _ _ s1]; exact h1
  · dsimp only
    rw [e1 _ _ s2]; exact fun k hk => (h2 k hk).1
  · dsimp only
    rw [e1 _ _ s1, e1 _ _ s2]; exact fun k hk => (h2 k hk).2
end
section
variable {h0 h : H} {A : List Ent} {i j p r b : Nat} {C : Cm}
theorem look_in {C : Cm} {c : Cfg} {pg : Int} (hc : C.cfg = c) (ho : C.out = false) (p1 : 0 ≤ pg) (p2 : pg < C.s.pages.length) : lookM C pg = (pageI (C.s.pages.getD pg.toNat []) c.cells.toNat, 0) := by
  unfold lookM; rw [askedM_in ho p1 p2, if_neg (by simp), hc]
theorem PageHalf_sp {a b c' : Sl} {Q : Bool → H → Prop} {xp : Option Addr} {xl xc : Nat} {mask : List Int} (c : Cfg) (s : St) (rd0 : RdS h0 a b c' s) (ty : s.typed) (pg place slot n : Int) (hd er : Bool)
    (rd : hsv h0 xp 1 xl (ints .u8 mask)) (mb : bytesOk mask) (mll : mask.length + 4096 ≤ 2 ^ 47) (k : ∀ h', Ext none_ h0 h' → Q true h') :
    F_portcullislaw08_PageHalf c.cells c.slots c.fuses c.step c.keys c.erases c.area a.1 a.2.1 a.2.2 b.1 b.2.1 b.2.2 c'.1 c'.2.1 c'.2.2 pg place slot n hd er xp xl xc Q h0 := by
  unfold F_portcullislaw08_PageHalf G_portcullislaw08_PageHalf
  have hs := Sat.init h0
  simp only [add_mk, Nat.zero_add, List.append_nil]
  intro n40 _ hn; replace hs := Sat.new hs hn; clear hn
  intro n43 _ hn; replace hs := Sat.new hs hn; clear hn
  have hml : mask.length = xl := by have := rd.1; simpa using this
  refine fixed8_sp hs ?_
  intro h1 hs
  (repeat first | refine ⟨_, Sat.ld hs (by (repeat (first | exact At.z | apply At.s))) (by rfl), ?_⟩ | refine ⟨_, _, _, Sat.ld hs (by (repeat (first | exact At.z | apply At.s))) (by rfl), ?_⟩ | (intro _ _ hn; replace hs := Sat.new hs hn; clear hn) | refine ⟨Sat.cs hs (by (repeat (first | exact At.z | apply At.s))) (by rfl), ?_⟩ | (refine ⟨Sat.can hs (by (repeat (first | exact At.z | apply At.s))) (by simp), ?_⟩; intro _ e; replace hs := Sat.wr hs (by (repeat (first | exact At.z | apply At.s))) e; clear e; simp only [put, splice, List.set] at hs))
  refine Lay_sp (a := a) (b := b) (c' := c') (s := s) c hs (fun h' hs' => rd0.ext hs'.ex) ty ?_ ?_ ?_
  · intro nm h2 hs J hJ
    rw [if_neg (by simp), if_pos (by simp), if_pos (by simp)]
    have := k _ hs.ex
    simpa using this
  · intro m nl h2 hs J hJ
    rw [if_neg (by simp), if_pos (by simp), if_pos (by simp)]
    have := k _ hs.ex
    simpa using this
  intro m lay px h2 hs J hJ
  rw [if_neg (by simp), if_neg (by simp), if_neg (by simp)]
  apply hJ
  clear hJ J
  have ok0 := layC_ok m lay ty
  obtain ⟨C0, hC0⟩ : ∃ C0, C0 = layC c s := ⟨_, rfl⟩
  rw [← hC0] at hs ok0
  have cc : C0.cfg = c := by rw [hC0]; rfl
  have cs : C0.s = s := by rw [hC0]; rfl
  have co : C0.out = false := by rw [hC0]; rfl
  have cl : C0.left = -1 := by rw [hC0]; rfl
  have lp : s.pages.length = a.2.1 := rd0.pg.len
  have hcells := m.cells
  have hslots := m.slots
  refine Value_sp slot n hs ?_
  intro h3 hs
  have hv := valueM_length slot n
  have hh := headM_length n
  intro n72 _ hn; replace hs := Sat.new hs hn; clear hn
  refine ⟨Sat.can hs (by (repeat (first | exact At.z | apply At.s))) (by simp [hv]), ?_⟩
  intro _ e; replace hs := Sat.wra hs (by (repeat (first | exact At.z | apply At.s))) e (by rw [ints_length, ints_length, hv]; rfl); clear e; simp only [put] at hs
  intro J hJ
  -- with the record
  have way : ∀ (X : List Int × Int), X.1.length = 32 → (X.2 = 0 → ∃ kind slot n : Int, isByte kind ∧ X.1 = laidM kind slot n) → ∀ h', Sat h0 [blk n72 (ints .u8 X.1), chipE px C0, blk n43 [a.v, b.v, c'.v], blk n40 [.int .i64 c.cells, .int .i64 c.slots, .int .i64 c.fuses, .int .i64 c.step, .int .i64 c.keys, .int .i64 c.erases, .int .i64 c.area]] h' → J [.dv (.one (.int .i64 X.2))] h' := by
    intro X hX hXk h4 hs
    apply hJ
    clear hJ J
    refine ⟨_, rfl, ?_⟩
    refine Look_sp hs (i := 1) (.s .z) pg ?_
    intro h5 hs
    have hnl := lookM_len C0 pg
    intro n88 _ hn; replace hs := Sat.new hs hn; clear hn
    refine ⟨Sat.can hs (by (repeat (first | exact At.z | apply At.s))) (by decide), ?_⟩
    intro h5b e
    replace hs := Sat.wra hs (by (repeat (first | exact At.z | apply At.s))) e ((inf_len hnl).trans rfl)
    clear e
    simp only [put] at hs
    by_cases ea : askedM C0 pg C0.s.pages.length = 0
    case neg =>
      have el : (lookM C0 pg).2 = askedM C0 pg C0.s.pages.length := by unfold lookM; rw [if_pos (by simpa using ea)]
      rw [el, if_pos (by simpa using ea)]
      by_cases pn : pg < 0
      · rw [ltI_eq, if_pos (by simpa using pn)]
        exact k _ hs.ex
      · rw [ltI_eq, if_neg (by simpa using pn)]
        refine ⟨_, _, _, Sat.ld hs (by (repeat (first | exact At.z | apply At.s))) (by rfl), ?_⟩
        have : a.2.1 ≤ pg := by
          by_cases y : (a.2.1 : Int) ≤ pg
          · exact y
          · exact absurd (askedM_in co (by omega) (by rw [cs]; omega)) ea
        rw [leI_eq, decide_eq_true this]
        exact k _ hs.ex
    obtain ⟨_, p1, p2⟩ := askedM_zero ea
    rw [cs] at p2
    have el := look_in (c := c) cc co p1 (by rw [cs]; exact p2)
    rw [cs] at el
    have hj : pg.toNat < s.pages.length := by omega
    have erow : s.pages.getD pg.toNat [] = s.pages[pg.toNat] := by simp [List.getD, List.getElem?_eq_getElem hj]
    have hrl : (s.pages[pg.toNat].length : Int) = 32 * c.cells := by
      have := ok0.fits.cells s.pages[pg.toNat] (by rw [cs]; exact List.getElem_mem hj)
      rw [cc] at this; exact this
    have hrb : bytesOk s.pages[pg.toNat] := ty.bytes _ (List.getElem_mem hj)
    obtain ⟨q, x, hq, hx, hrd⟩ := rd0.pg.at hj
    rw [erow] at el
    generalize hrow : s.pages[pg.toNat] = row at *
    have exl : x.2.1 = c.cells.toNat := by
      have := hrd.1
      rw [ints_length] at this; omega
    rw [el] at hs ⊢
    rw [if_neg (by simp)]
    obtain ⟨l, hl⟩ : ∃ l, l = c.cells.toNat := ⟨_, rfl⟩
    have hlI : (l : Int) = c.cells := by omega
    have hlen : row.length = l * 32 := by omega
    rw [← hl] at hs exl
    intro J96 hJ96
    have way2 : (er = false → X.2 = 0) → J96 [] h5b := by
      intro hXe
      apply hJ96
      clear hJ96 J96
      refine ⟨_, rfl, ?_⟩
      refine Copy_sp hs (i := 2) (.s (.s .z)) ?_
      intro py h6 hs
      rw [if_neg (by simp)]
      refine ⟨_, _, _, Sat.ld hs (by (repeat (first | exact At.z | apply At.s))) (by rfl), ?_⟩
      refine ⟨_, hq, p1, by omega, _, _, _, hc_ext hs.ex hx (fun y => y), ?_⟩
      refine Sound_sp (row := row) hs (fun h' hs' => hs'.base hrd) (by omega) ?_
      intro h7 hs
      rw [exl]
      intro J110 hJ110
      have way3 : ∀ bb : Bool, (bb = true → 0 ≤ place ∧ place < c.cells ∧ cellAt row place.toNat = blankCell) → ∀ h', Sat h0 [chipE py C0, blk n88 (infI (pageI row l)), blk n72 (ints .u8 X.1), chipE px C0, blk n43 [a.v, b.v, c'.v], blk n40 [.int .i64 c.cells, .int .i64 c.slots, .int .i64 c.fuses, .int .i64 c.step, .int .i64 c.keys, .int .i64 c.erases, .int .i64 c.area]] h' → J110 [.dv (.one (.bool bb))] h' := by
        intro bb hbb h8 hs
        apply hJ110
        clear hJ110 J110
        intro J113 hJ113
        have way4 : soundM row l → (er = false → 0 ≤ place ∧ place < c.cells ∧ cellAt row place.toNat = blankCell) → J113 [] h8 := by
          intro hsound hpl
          apply hJ113
          clear hJ113 J113
          refine ⟨_, rfl, ?_⟩
          refine Cut_sp (i := 3) hs (.s (.s (.s .z))) 0 (by decide) (hs.base rd) mb (by omega) ?_
          intro h9 hs
          intro J117 hJ117
          have way5 : ∀ (D E : Cm), Half c s pg.toNat row l D E → ∀ h', Sat h0 [chipE py E, blk n88 (infI (pageI row l)), blk n72 (ints .u8 X.1), chipE px D, blk n43 [a.v, b.v, c'.v], blk n40 [.int .i64 c.cells, .int .i64 c.slots, .int .i64 c.fuses, .int .i64 c.step, .int .i64 c.keys, .int .i64 c.erases, .int .i64 c.area]] h' → J117 [] h' := by
            intro D E hf h10 hs
            apply hJ117
            clear hJ117 J117
            refine ⟨_, rfl, ?_⟩
            refine Restore_sp (i := 3) hs (.s (.s (.s .z))) ?_
            intro h11 hs
            obtain ⟨D', hD'⟩ : ∃ D', D' = { D with out := false } := ⟨_, rfl⟩
            replace hs : Sat h0 [chipE py E, blk n88 (infI (pageI row l)), blk n72 (ints .u8 X.1), chipE px D', blk n43 [a.v, b.v, c'.v], blk n40 [.int .i64 c.cells, .int .i64 c.slots, .int .i64 c.fuses, .int .i64 c.step, .int .i64 c.keys, .int .i64 c.erases, .int .i64 c.area]] h11 := by rw [hD']; exact hs
            have dS : D'.s = D.s := by rw [hD']
            have dL := look_in (C := D') (c := c) (pg := pg) (by rw [hD']; exact hf.dc) (by rw [hD']) p1 (by rw [dS, hf.dp]; exact p2)
            have eL := look_in (C := E) (c := c) (pg := pg) hf.ec hf.eo p1 (by rw [hf.ep]; exact p2)
            rw [dS, ← hl] at dL
            rw [← hl] at eL
            refine ⟨_, rfl, ?_⟩
            refine Look_sp (i := 3) hs (.s (.s (.s .z))) pg ?_
            intro h12 hs
            rw [dL]
            have hn1 : (pageI (D.s.pages.getD pg.toNat []) l).nums.length = 9 := ofM_len _ _
            have hn2 : (pageI (E.s.pages.getD pg.toNat []) l).nums.length = 9 := ofM_len _ _
            have hn0 : (pageI row l).nums.length = 9 := ofM_len _ _
            obtain ⟨z, hz1, hz2, hz3⟩ := hf.z
            obtain ⟨o1, o2, _⟩ := of_less (D.s.pages.getD pg.toNat []) z l hz2 hz3
            have hd1 : (pageI (D.s.pages.getD pg.toNat []) l).head = (ofM (D.s.pages.getD pg.toNat []) l).head := rfl
            have hheads : (pageI (D.s.pages.getD pg.toNat []) l).head = 0 ∨ (pageI (D.s.pages.getD pg.toNat []) l).head = (pageI row l).head ∨ (pageI (D.s.pages.getD pg.toNat []) l).head = (pageI (E.s.pages.getD pg.toNat []) l).head := by
              rcases o2 with o2 | o2
              · exact Or.inl o2
              · rcases hz1 with rfl | rfl
                · exact Or.inr (Or.inl o2)
                · exact Or.inr (Or.inr o2)
            have hnums : ∀ k, (pageI (D.s.pages.getD pg.toNat []) l).nums.getD k 0 ≤ (pageI row l).nums.getD k 0 ∨ (pageI (D.s.pages.getD pg.toNat []) l).nums.getD k 0 ≤ (pageI (E.s.pages.getD pg.toNat []) l).nums.getD k 0 := by
              intro k
              rcases hz1 with rfl | rfl
              · exact Or.inl (o1 k)
              · exact Or.inr (o1 k)
            have hsnd := hf.ds
            have hpl' := hf.dp
            clear o1 o2 hz1 hz2 hz3 hd1
            generalize pageI (D.s.pages.getD pg.toNat []) l = N at *
            generalize pageI (E.s.pages.getD pg.toNat []) l = T at *
            generalize pageI row l = W at *
            intro n129 _ hn; replace hs := Sat.new hs hn; clear hn
            (refine ⟨Sat.can hs (by (repeat (first | exact At.z | apply At.s))) (by decide), ?_⟩; intro _ e; replace hs := Sat.wra hs (by (repeat (first | exact At.z | apply At.s))) e ((inf_len hn1).trans rfl); clear e; simp only [put] at hs)
            refine ⟨_, rfl, ?_⟩
            refine Look_sp (i := 1) hs (.s .z) pg ?_
            intro h13 hs
            rw [eL]
            intro n142 _ hn; replace hs := Sat.new hs hn; clear hn
            refine ⟨Sat.can hs (by (repeat (first | exact At.z | apply At.s))) (by decide), ?_⟩
            intro h13b e
            replace hs := Sat.wra hs (by (repeat (first | exact At.z | apply At.s))) e ((inf_len hn2).trans rfl)
            clear e
            simp only [put] at hs
            intro J147 hJ147
            have way6 : J147 [] h13b := by
              apply hJ147
              clear hJ147 J147
              intro J149 hJ149
              refine loop_up 9 (fun _ h => Sat h0 (blk n142 (infI T) :: blk n129 (infI N) :: [chipE py E, blk n88 (infI W), blk n72 (ints .u8 X.1), chipE px D', blk n43 [a.v, b.v, c'.v], blk n40 [.int .i64 c.cells, .int .i64 c.slots, .int .i64 c.fuses, .int .i64 c.step, .int .i64 c.keys, .int .i64 c.erases, .int .i64 c.area]]) h) ?_ ?_ 0 _ (by omega) hs
              · intro t h14 ht hs hk
                apply hJ149
                rw [ltI_eq, if_pos (by simp; omega)]
                refine ⟨by omega, by omega, _, by rw [Int.toNat_natCast, Nat.mul_one]; exact Sat.ld hs (i := 1) (.s .z) (inf_num hn1 ht), ?_⟩
                refine ⟨by omega, by omega, _, by rw [Int.toNat_natCast, Nat.mul_one]; exact Sat.ld hs (i := 3) (.s (.s (.s .z))) (inf_num hn0 ht), ?_⟩
                refine ⟨by omega, by omega, _, by rw [Int.toNat_natCast, Nat.mul_one]; exact Sat.ld hs (i := 0) .z (inf_num hn2 ht), ?_⟩
                have := hnums t
                rw [ltI_eq, if_neg (by rw [decide_eq_true_eq]; split <;> omega), wrap_succ (by omega)]
                exact hk _ hs
              · intro h14 hs
                apply hJ149
                rw [ltI_eq, if_neg (by simp)]
                refine ⟨_, rfl, ?_⟩
                refine State_sp (i := 5) hs (.s (.s (.s (.s (.s .z))))) ?_
                intro a1 b1 c1 h15 hs
                replace hs : Sat h0 (matE 32 a1 D'.s.pages :: sE b1 1 (ints .i64 D'.s.erases) :: sE c1 1 (bools D'.s.blown) :: (blk n142 (infI T) :: blk n129 (infI N) :: [chipE py E, blk n88 (infI W), blk n72 (ints .u8 X.1), chipE px D', blk n43 [a.v, b.v, c'.v], blk n40 [.int .i64 c.cells, .int .i64 c.slots, .int .i64 c.fuses, .int .i64 c.step, .int .i64 c.keys, .int .i64 c.erases, .int .i64 c.area]])) h15 := hs
                intro n166 _ hn; replace hs := Sat.new hs hn; clear hn
                (refine ⟨Sat.can hs (by (repeat (first | exact At.z | apply At.s))) (by simp), ?_⟩; intro _ e; replace hs := Sat.wr hs (by (repeat (first | exact At.z | apply At.s))) e; clear e; simp only [put, splice, List.set] at hs)
                refine ⟨_, _, _, Sat.ld hs (by (repeat (first | exact At.z | apply At.s))) (by rfl), ?_⟩
                have rdp := hs.rdM (i := 1) (.s .z)
                have rlen := rdp.len
                have okD : D'.ok := chip_ok hs (i := 9) (.s (.s (.s (.s (.s (.s (.s (.s (.s .z)))))))))
                rw [dS] at rdp rlen
                have hj2 : pg.toNat < D.s.pages.length := by rw [hpl']; exact hj
                have hdl := okD.fits.cells D.s.pages[pg.toNat] (by rw [dS]; exact List.getElem_mem hj2)
                have hdc : D'.cfg = c := by rw [hD']; exact hf.dc
                rw [hdc] at hdl
                obtain ⟨q2, x2, hq2, hx2, hrd2⟩ := rdp.at hj2
                have exl2 : x2.2.1 = l := by
                  have := hrd2.1
                  rw [ints_length] at this; omega
                refine ⟨_, hq2, p1, by omega, _, _, _, hx2, ?_⟩
                refine Sound_sp (A := []) (row := D.s.pages[pg.toNat]) (Sat.init _) (fun h' hs' => hsv_ext hs'.ex hrd2 (fun _ _ y => y)) (by omega) ?_
                intro h16 hs2
                have er2 : D.s.pages.getD pg.toNat [] = D.s.pages[pg.toNat] := by simp [List.getD, List.getElem?_eq_getElem hj2]
                rw [er2] at hsnd
                rw [exl2, decide_eq_true hsnd]
                exact k _ (hs.ext hs2.ex).ex
            rw [if_neg (by simp), if_neg (by simp)]
            refine ⟨_, Sat.ld hs (i := 1) (.s .z) rfl, _, Sat.ld hs (i := 3) (.s (.s (.s .z))) rfl, ?_⟩
            split
            · refine ⟨_, Sat.ld hs (i := 1) (.s .z) rfl, _, Sat.ld hs (i := 0) .z rfl, ?_⟩
              split
              · refine ⟨_, Sat.ld hs (i := 1) (.s .z) rfl, ?_⟩
                rename_i g1 g2
                rw [bne_iff_ne] at g1 g2
                rw [if_neg ?_]
                · exact way6
                · rcases hheads with y | y | y
                  · rw [y]; simp
                  · exact absurd y g1
                  · exact absurd y g2
              · exact way6
            · exact way6
          cases er with
          | true =>
            rw [if_pos rfl]
            refine ⟨_, rfl, ?_⟩
            refine Erase_sp (i := 3) hs (.s (.s (.s .z))) pg ?_
            intro h10 hs
            refine ⟨_, rfl, ?_⟩
            refine Erase_sp (i := 0) hs .z pg ?_
            intro h11 hs
            exact way5 _ _ (half_of_erase ok0 cc cs co cl mask p1 p2 (erow.trans rfl) hlen hrb hsound) _ hs
          | false =>
            obtain ⟨kind, slot', n', hkb, hXl⟩ := hXk (hXe rfl)
            obtain ⟨q1, q2, q3⟩ := hpl rfl
            rw [if_neg (by simp)]
            refine ⟨_, hX, hs.row0 (i := 2) (.s (.s .z)), _, rfl, ?_⟩
            refine Program_sp (i := 3) hs (.s (.s (.s .z))) pg place X.1 hX ?_
            intro h10 hs
            refine ⟨_, hX, hs.row0 (i := 2) (.s (.s .z)), _, rfl, ?_⟩
            refine Program_sp (i := 0) hs .z pg place X.1 hX ?_
            intro h11 hs
            refine way5 _ _ ?_ _ hs
            rw [hXl]
            exact half_of_prog ok0 cc cs co cl mask p1 p2 (erow.trans rfl) hlen hrb hsound hkb q1 q2 hlI q3
        by_cases g1 : soundM row l
        case neg =>
          rw [if_pos (by simpa using g1)]
          exact k _ hs.ex
        rw [if_neg (by simpa using g1)]
        split
        · split
          · exact k _ hs.ex
          · rename_i g2 g3
            exact way4 g1 fun _ => hbb (by simpa using g3)
        · rename_i g2
          exact way4 g1 fun y => absurd (by rw [y]; rfl) g2
      by_cases g1 : 0 ≤ place
      case neg =>
        rw [leI_eq, if_neg (by simpa using g1)]
        exact way3 false (fun y => by simp at y) _ hs
      rw [leI_eq, if_pos (by simpa using g1)]
      refine ⟨_, Sat.ld hs (by (repeat (first | exact At.z | apply At.s))) (by rfl), ?_⟩
      by_cases g2 : place < c.cells
      case neg =>
        rw [ltI_eq, if_neg (by simpa using g2)]
        exact way3 false (fun y => by simp at y) _ hs
      rw [ltI_eq, if_pos (by simpa using g2)]
      refine ⟨_, _, _, Sat.ld hs (by (repeat (first | exact At.z | apply At.s))) (by rfl), ?_⟩
      refine ⟨_, hq, p1, by omega, _, _, _, hc_ext hs.ex hx (fun y => y), ?_⟩
      obtain ⟨q', hq', hk2, hr⟩ := hsv_cell hrd (k := place.toNat) (by omega)
      refine ⟨_, hq', g1, by omega, _, cellAt_length hk2, hrow_ext hs.ex hr (fun y => y), ?_⟩
      refine rBlank_sp hs ?_
      intro h8 hs
      refine ⟨hrow_ext hs.ex hr (fun y => y), hcs_one (hc_ext hs.ex hx (fun y => y)), ?_⟩
      refine ⟨Sat.cs hs (by (repeat (first | exact At.z | apply At.s))) (by rfl), ?_⟩
      refine way3 _ (fun y => ⟨g1, g2, by simpa using y⟩) _ hs
    by_cases g1 : X.2 = 0
    · rw [if_neg (by simpa using g1)]
      exact way2 fun _ => g1
    · rw [if_pos (by simpa using g1)]
      split
      · exact k _ hs.ex
      · rename_i g2
        exact way2 fun y => absurd (by rw [y]; rfl) g2
  cases hd with
  | true =>
    rw [if_pos rfl]
    refine Head_sp n hs ?_
    intro h4 hs
    refine ⟨Sat.can hs (by (repeat (first | exact At.z | apply At.s))) (by simp [hv]), ?_⟩
    intro _ e; replace hs := Sat.wra hs (by (repeat (first | exact At.z | apply At.s))) e (by rw [ints_length, ints_length, hv, hh]); clear e; simp only [put] at hs
    refine way (headM n) hh ?_ _ hs
    intro e
    unfold headM at e ⊢
    split at e
    · simp at e
    · rename_i y1
      rw [if_neg y1]
      split at e
      · simp at e
      · rename_i y2
        rw [if_neg y2]
        exact ⟨_, _, _, ⟨by decide, by decide⟩, rfl⟩
  | false =>
    rw [if_neg (by simp)]
    refine way (valueM slot n) hv ?_ _ hs
    intro e
    unfold valueM at e ⊢
    split at e
    · simp at e
    · rename_i y1
      rw [if_neg y1]
      split at e
      · simp at e
      · rename_i y2
        rw [if_neg y2]
        split at e
        · simp at e
        · rename_i y3
          rw [if_neg y3]
          split at e
          · simp at e
          · rename_i y4
            rw [if_neg y4]
            exact ⟨_, _, _, ⟨by decide, by decide⟩, rfl⟩
end
end Go.Proofs.Ytamfkofcpoglnaa
