/- Contracts of copies: copied, State, Copy. Own work. -/
import Derived.Test.YtamfkofcpoglnaaFa1
import Derived.Test.YtamfkofcpoglnaaFa2
import Derived.Test.YtamfkofcpoglnaaFa3
import Derived.Test.YtamfkofcpoglnaaCh6
set_option autoImplicit false
set_option linter.all false
set_option linter.unusedVariables false
namespace Go.Proofs.Ytamfkofcpoglnaa
open Go Go.Vc

/-- May it be copied? -/
structure St.small (s : St) : Prop where
  pages : s.pages.length * 24 + 4096 ≤ 2 ^ 47
  rows : ∀ l, l ∈ s.pages → l.length + 4096 ≤ 2 ^ 47
  erases : s.erases.length * 8 + 4096 ≤ 2 ^ 47
  blown : s.blown.length + 4096 ≤ 2 ^ 47
theorem Cm.ok.small {C : Cm} (ok : C.ok) : C.s.small := by
  have h1 := ok.may.np; have h2 := ok.may.nf; have h3 := ok.fits; have h4 := ok.may.cells
  refine ⟨by have := h3.pages; omega, fun l hl => by have := h3.cells l hl; omega, by have := h3.erases; omega, by have := h3.blown; omega⟩

section
variable {h0 h : H} {A : List Ent} {i p : Nat} {C : Cm}
theorem Clone_cells_sp {p : Option Addr} {l c : Nat} {bs : List Int} {Q : Option Addr → Nat → Nat → H → Prop} (hs : Sat h0 A h) (rd : hsv h p 32 l (ints .u8 bs)) (hb : bs.length ≤ 2 ^ 47)
    (k : ∀ p' c' h', Sat h0 (sE (p', l, c') 32 (ints .u8 bs) :: A) h' → Q p' l c' h') : F_slices_Clone_api_Cell_api_Cell p l c Q h :=
  Clone_cells_spec p l c _ Q h rd (by have := rd.1; simp at this; omega) fun p' c' h' bs' x o n => k _ _ _ (hs.own x o n)
theorem Clone_ints_sp {p : Option Addr} {l c : Nat} {bs : List Int} {Q : Option Addr → Nat → Nat → H → Prop} (hs : Sat h0 A h) (rd : hsv h p 1 l (ints .i64 bs)) (hb : bs.length * 8 ≤ 2 ^ 47)
    (k : ∀ p' c' h', Sat h0 (sE (p', l, c') 1 (ints .i64 bs) :: A) h' → Q p' l c' h') : F_slices_Clone_int_int p l c Q h :=
  Clone_ints_spec p l c _ Q h rd (by have := rd.1; simp at this; omega) fun p' c' h' bs' x o n => k _ _ _ (hs.own x o n)
theorem Clone_bools_sp {p : Option Addr} {l c : Nat} {bs : List Bool} {Q : Option Addr → Nat → Nat → H → Prop} (hs : Sat h0 A h) (rd : hsv h p 1 l (bools bs)) (hb : bs.length ≤ 2 ^ 47)
    (k : ∀ p' c' h', Sat h0 (sE (p', l, c') 1 (bools bs) :: A) h' → Q p' l c' h') : F_slices_Clone_bool_bool p l c Q h :=
  Clone_bools_spec p l c _ Q h rd (by have := rd.1; simp at this; omega) fun p' c' h' bs' x o n => k _ _ _ (hs.own x o n)
theorem Clone_bytes_sp {p : Option Addr} {l c : Nat} {bs : List Int} {Q : Option Addr → Nat → Nat → H → Prop} (hs : Sat h0 A h) (rd : hsv h p 1 l (ints .u8 bs)) (hb : bs.length ≤ 2 ^ 47)
    (k : ∀ p' c' h', Sat h0 (sE (p', l, c') 1 (ints .u8 bs) :: A) h' → Q p' l c' h') : F_slices_Clone_byte_byte p l c Q h :=
  Clone_bytes_spec p l c _ Q h rd (by have := rd.1; simp at this; omega) fun p' c' h' bs' x o n => k _ _ _ (hs.own x o n)

theorem copied_sp {a b c : Sl} {s : St} {Q : Option Addr → Nat → Nat → Option Addr → Nat → Nat → Option Addr → Nat → Nat → H → Prop} (hs : Sat h0 A h) (rd : ∀ h', Sat h0 A h' → RdS h' a b c s) (sm : s.small)
    (k : ∀ (a' b' c' : Sl) h', Sat h0 (stL a' b' c' s ++ A) h' → Q a'.1 a'.2.1 a'.2.2 b'.1 b'.2.1 b'.2.2 c'.1 c'.2.1 c'.2.2 h') :
    F_chip_copied a.1 a.2.1 a.2.2 b.1 b.2.1 b.2.2 c.1 c.2.1 c.2.2 Q h := by
  unfold F_chip_copied G_chip_copied
  simp only [add_mk, Nat.zero_add]
  intro n1 _ hn; replace hs := Sat.new hs hn; clear hn
  intro n2 _ hn; replace hs := Sat.new hs hn; clear hn
  intro J hJ
  have fin : ∀ q b2 b3 c2 c3 h', Sat h0 (blk q [.slice none 0 0, .slice b2 b.2.1 b3, .slice c2 c.2.1 c3] :: sE (b2, b.2.1, b3) 1 (ints .i64 s.erases) :: sE (c2, c.2.1, c3) 1 (bools s.blown) ::
      blk n1 [a.v, b.v, c.v] :: blk n2 [.slice none 0 0, .slice none 0 0, .slice none 0 0] :: A) h' → J [SV.dv (DV.addr ⟨q, 0, none⟩)] h' := by
    intro q b2 b3 c2 c3 h' hs
    apply hJ
    (repeat first | refine ⟨_, Sat.ld hs (by (repeat (first | exact At.z | apply At.s))) (by rfl), ?_⟩ | refine ⟨_, _, _, Sat.ld hs (by (repeat (first | exact At.z | apply At.s))) (by rfl), ?_⟩ | (intro _ _ hn; replace hs := Sat.new hs hn; clear hn) | refine ⟨Sat.cs hs (by (repeat (first | exact At.z | apply At.s))) (by rfl), ?_⟩ | (refine ⟨Sat.can hs (by (repeat (first | exact At.z | apply At.s))) (by simp), ?_⟩; intro _ e; replace hs := Sat.wr hs (by (repeat (first | exact At.z | apply At.s))) e; clear e; simp only [put, splice, List.set] at hs))
    intro J2 hJ2
    have hlen := (rd _ hs.drop.drop.drop.drop.drop).pg.len
    replace hs := hs.mat_nil 32 none
    refine loop_up a.2.1 (fun i h => ∃ hd : Sl, hd.2.1 = i ∧ Sat h0 (matE 32 hd (s.pages.take i) :: blk q [hd.v, .slice b2 b.2.1 b3, .slice c2 c.2.1 c3] :: sE (b2, b.2.1, b3) 1 (ints .i64 s.erases) :: sE (c2, c.2.1, c3) 1 (bools s.blown) ::
      blk n1 [a.v, b.v, c.v] :: blk n2 [.slice none 0 0, .slice none 0 0, .slice none 0 0] :: A) h) ?_ ?_ 0 _ (by omega) ⟨_, rfl, hs⟩
    · rintro i h1 hi ⟨⟨hp, hl, hc⟩, e, hs⟩ hk
      simp only at e; subst e
      apply hJ2
      rw [ltI_eq, if_pos (by simp; omega)]
      have hlt : hl < s.pages.length := by omega
      obtain ⟨q', x, e1, e2, e3⟩ := (rd _ hs.drop.drop.drop.drop.drop.drop).pg.at hlt
      rw [e1]
      refine ⟨_, rfl, by omega, by omega, ?_⟩
      refine ⟨_, _, _, e2, ?_⟩
      refine ⟨_, _, _, Sat.ld hs (by (repeat (first | exact At.z | apply At.s))) (by rfl), ?_⟩
      refine Clone_cells_sp hs e3 (Nat.le_trans (Nat.le_add_right _ _) (sm.rows _ (List.getElem_mem hlt))) ?_
      intro p' c' h2 hs
      refine ⟨Sat.cs hs (by (repeat (first | exact At.z | apply At.s))) (by rfl), ?_⟩
      (intro _ _ hn; replace hs := Sat.new hs hn; clear hn)
      refine ⟨Sat.cs hs (by (repeat (first | exact At.z | apply At.s))) (by rfl), ?_⟩
      refine ⟨_, Sat.bv hs (.z) (by simp) (by simp), ?_⟩
      replace hs := Sat.front hs (.s .z)
      have hpl := sm.pages
      refine Sat.app_row hs (i := 1) (.s .z) (by dsimp only; omega) ?_
      intro p2 c2' h4 hs
      simp only [put, del] at hs
      (refine ⟨Sat.can hs (by (repeat (first | exact At.z | apply At.s))) (by simp), ?_⟩; intro _ e; replace hs := Sat.wr hs (by (repeat (first | exact At.z | apply At.s))) e; clear e; simp only [put, splice, List.set] at hs)
      rw [wrap_succ (by omega)]
      refine hk _ ⟨(p2, hl + 1, c2'), rfl, ?_⟩
      rw [List.take_succ_eq_append_getElem hlt]
      exact hs.sub (by (repeat (first | exact List.Sublist.refl _ | apply List.Sublist.cons_cons | apply List.Sublist.cons)))
    · rintro h1 ⟨⟨hp, hl, hc⟩, e, hs⟩
      simp only at e; subst e
      apply hJ2
      rw [ltI_eq, if_neg (by simp)]
      (repeat first | refine ⟨_, Sat.ld hs (by (repeat (first | exact At.z | apply At.s))) (by rfl), ?_⟩ | refine ⟨_, _, _, Sat.ld hs (by (repeat (first | exact At.z | apply At.s))) (by rfl), ?_⟩ | (intro _ _ hn; replace hs := Sat.new hs hn; clear hn) | refine ⟨Sat.cs hs (by (repeat (first | exact At.z | apply At.s))) (by rfl), ?_⟩ | (refine ⟨Sat.can hs (by (repeat (first | exact At.z | apply At.s))) (by simp), ?_⟩; intro _ e; replace hs := Sat.wr hs (by (repeat (first | exact At.z | apply At.s))) e; clear e; simp only [put, splice, List.set] at hs))
      refine k (hp, _, hc) (b2, _, b3) (c2, _, c3) _ ?_
      rw [← hlen, List.take_length] at hs
      replace hs := Sat.front hs (e := blk n2 _) (by (repeat (first | exact At.z | apply At.s)))
      replace hs := Sat.front hs (e := blk n1 _) (by (repeat (first | exact At.z | apply At.s)))
      replace hs := Sat.front hs (e := blk q _) (by (repeat (first | exact At.z | apply At.s)))
      simp only [del] at hs
      have := hs.drop.drop.drop
      rw [hlen] at this
      exact this
  repeat' (first | refine ⟨_, Sat.ld hs (by (repeat (first | exact At.z | apply At.s))) (by rfl), ?_⟩ | refine ⟨_, _, _, Sat.ld hs (by (repeat (first | exact At.z | apply At.s))) (by rfl), ?_⟩ | (intro _ _ hn; replace hs := Sat.new hs hn; clear hn) | refine ⟨Sat.cs hs (by (repeat (first | exact At.z | apply At.s))) (by rfl), ?_⟩ | (refine ⟨Sat.can hs (by (repeat (first | exact At.z | apply At.s))) (by simp), ?_⟩; intro _ e; replace hs := Sat.wr hs (by (repeat (first | exact At.z | apply At.s))) e; clear e; simp only [put, splice, List.set] at hs) | (refine Clone_ints_sp hs (rd _ (hs.sub (by (repeat (first | exact List.Sublist.refl _ | apply List.Sublist.cons_cons | apply List.Sublist.cons))))).er (Nat.le_trans (Nat.le_add_right _ _) sm.erases) ?_; intro _ _ _ hs) | (refine Clone_bools_sp hs (rd _ (hs.sub (by (repeat (first | exact List.Sublist.refl _ | apply List.Sublist.cons_cons | apply List.Sublist.cons))))).bl (Nat.le_trans (Nat.le_add_right _ _) sm.blown) ?_; intro _ _ _ hs) | refine And.intro ?_ ?_)
  all_goals
    replace hs := Sat.front hs (e := blk n2 _) (by (repeat (first | exact At.z | apply At.s)))
    replace hs := Sat.front hs (e := blk n1 _) (by (repeat (first | exact At.z | apply At.s)))
    replace hs := Sat.front hs (e := slE _ _ _ 1 (bools _)) (by (repeat (first | exact At.z | apply At.s)))
    replace hs := Sat.front hs (e := slE _ _ _ 1 (ints .i64 _)) (by (repeat (first | exact At.z | apply At.s)))
    replace hs := Sat.front hs (e := blk _ [.slice none 0 0, .slice _ b.2.1 _, .slice _ c.2.1 _]) (by (repeat (first | exact At.z | apply At.s)))
    exact fin _ _ _ _ _ _ hs

theorem chip_make {a b c m : Sl} (ok : C.ok) (hs : Sat h0 (blk p (C.cells a b c m) :: matE 32 a C.s.pages :: sE b 1 (ints .i64 C.s.erases) :: sE c 1 (bools C.s.blown) :: sE m 1 (ints .u8 C.mask) :: A) h) : Sat h0 (chipE p C :: A) h :=
  Sat.close ⟨a, b, c, m⟩ ok hs
theorem State_sp {Q : Option Addr → Nat → Nat → Option Addr → Nat → Nat → Option Addr → Nat → Nat → H → Prop} (hs : Sat h0 A h) (ci : At A i (chipE p C))
    (k : ∀ (a' b' c' : Sl) h', Sat h0 (stL a' b' c' C.s ++ A) h' → Q a'.1 a'.2.1 a'.2.2 b'.1 b'.2.1 b'.2.2 c'.1 c'.2.1 c'.2.2 h') : F_chip_Chip_State ⟨p, 0, none⟩ Q h := by
  unfold F_chip_Chip_State G_chip_Chip_State
  simp only [add_mk, Nat.zero_add]
  obtain ⟨w, ok, hs⟩ := (hs.front ci).open_; dsimp only [chipL, List.cons_append, List.nil_append, Cm.cells] at hs
  intro nl _ hn; replace hs := Sat.new hs hn; clear hn
  refine ⟨_, _, _, Sat.ld hs (by (repeat (first | exact At.z | apply At.s))) (by rfl), ?_⟩
  refine ⟨_, _, _, Sat.ld hs (by (repeat (first | exact At.z | apply At.s))) (by rfl), ?_⟩
  refine ⟨_, _, _, Sat.ld hs (by (repeat (first | exact At.z | apply At.s))) (by rfl), ?_⟩
  refine copied_sp (a := w.a) (b := w.b) (c := w.c) (s := C.s) hs (fun h' hs' => sat_rdS hs' (i := 2) (j := 3) (k := 4) (.s (.s .z)) (.s (.s (.s .z))) (.s (.s (.s (.s .z))))) ok.small ?_
  intro a' b' c' h' hs
  replace hs : Sat h0 (matE 32 a' C.s.pages :: sE b' 1 (ints .i64 C.s.erases) :: sE c' 1 (bools C.s.blown) :: blk nl [.slice none 0 0, .slice none 0 0, .slice none 0 0] :: chipL p C w ++ del A i) h' := hs
  dsimp only [chipL, List.cons_append, List.nil_append, Cm.cells] at hs
  (repeat first | refine ⟨_, Sat.ld hs (by (repeat (first | exact At.z | apply At.s))) (by rfl), ?_⟩ | refine ⟨_, _, _, Sat.ld hs (by (repeat (first | exact At.z | apply At.s))) (by rfl), ?_⟩ | (intro _ _ hn; replace hs := Sat.new hs hn; clear hn) | refine ⟨Sat.cs hs (by (repeat (first | exact At.z | apply At.s))) (by rfl), ?_⟩ | (refine ⟨Sat.can hs (by (repeat (first | exact At.z | apply At.s))) (by simp), ?_⟩; intro _ e; replace hs := Sat.wr hs (by (repeat (first | exact At.z | apply At.s))) e; clear e; simp only [put, splice, List.set] at hs))
  refine k a' b' c' _ ?_
  replace hs := Sat.front hs (e := slE w.m.1 _ _ 1 (ints .u8 C.mask)) (by (repeat (first | exact At.z | apply At.s)))
  replace hs := Sat.front hs (e := slE w.c.1 w.c.2.1 w.c.2.2 1 (bools C.s.blown)) (by (repeat (first | exact At.z | apply At.s)))
  replace hs := Sat.front hs (e := slE w.b.1 w.b.2.1 w.b.2.2 1 (ints .i64 C.s.erases)) (by (repeat (first | exact At.z | apply At.s)))
  replace hs := Sat.front hs (e := matE 32 w.a C.s.pages) (by (repeat (first | exact At.z | apply At.s)))
  replace hs := Sat.front hs (e := blk p _) (by (repeat (first | exact At.z | apply At.s)))
  simp only [del] at hs
  have hC := chip_close (a := w.a) (b := w.b) (c := w.c) (m := w.m) ok ci.s.s.s.s hs
  simp only [put_succ, ci.put_self] at hC
  exact hC.sub (by (repeat (first | exact List.Sublist.refl _ | apply List.Sublist.cons_cons | apply List.Sublist.cons)))
theorem Copy_sp {Q : Option Addr → H → Prop} (hs : Sat h0 A h) (ci : At A i (chipE p C)) (k : ∀ p' h', Sat h0 (chipE p' C :: A) h' → Q (some ⟨p', 0, none⟩) h') : F_chip_Chip_Copy ⟨p, 0, none⟩ Q h := by
  unfold F_chip_Chip_Copy G_chip_Chip_Copy
  simp only [add_mk, Nat.zero_add]
  obtain ⟨w, ok, hs⟩ := (hs.front ci).open_; dsimp only [chipL, List.cons_append, List.nil_append, Cm.cells] at hs
  repeat (first | refine ⟨_, Sat.ld hs (by (repeat (first | exact At.z | apply At.s))) (by rfl), ?_⟩ | refine ⟨_, _, _, Sat.ld hs (by (repeat (first | exact At.z | apply At.s))) (by rfl), ?_⟩ | refine ⟨_, hs.ld .z rfl, ?_⟩)
  intro nl _ hn; replace hs := Sat.new hs hn; clear hn
  (repeat first | refine ⟨_, Sat.ld hs (by (repeat (first | exact At.z | apply At.s))) (by rfl), ?_⟩ | refine ⟨_, _, _, Sat.ld hs (by (repeat (first | exact At.z | apply At.s))) (by rfl), ?_⟩ | (intro _ _ hn; replace hs := Sat.new hs hn; clear hn) | refine ⟨Sat.cs hs (by (repeat (first | exact At.z | apply At.s))) (by rfl), ?_⟩ | (refine ⟨Sat.can hs (by (repeat (first | exact At.z | apply At.s))) (by simp), ?_⟩; intro _ e; replace hs := Sat.wr hs (by (repeat (first | exact At.z | apply At.s))) e; clear e; simp only [put, splice, List.set] at hs))
  refine copied_sp (a := w.a) (b := w.b) (c := w.c) (s := C.s) hs (fun h' hs' => sat_rdS hs' (i := 2) (j := 3) (k := 4) (.s (.s .z)) (.s (.s (.s .z))) (.s (.s (.s (.s .z))))) ok.small ?_
  intro a' b' c' h' hs
  replace hs : Sat h0 (matE 32 a' C.s.pages :: sE b' 1 (ints .i64 C.s.erases) :: sE c' 1 (bools C.s.blown) :: blk nl (C.cells w.a w.b w.c w.m) :: chipL p C w ++ del A i) h' := hs
  dsimp only [chipL, List.cons_append, List.nil_append, Cm.cells] at hs
  refine ⟨hcs_one (hs.ld (i := 4) (.s (.s (.s (.s .z)))) rfl), ?_⟩
  refine Clone_bytes_sp hs (hs.sv (i := 8) (.s (.s (.s (.s (.s (.s (.s (.s .z))))))))) ?_ ?_
  · exact ok.mlen
  intro p' c2 h2 hs
  (repeat first | refine ⟨_, Sat.ld hs (by (repeat (first | exact At.z | apply At.s))) (by rfl), ?_⟩ | refine ⟨_, _, _, Sat.ld hs (by (repeat (first | exact At.z | apply At.s))) (by rfl), ?_⟩ | (intro _ _ hn; replace hs := Sat.new hs hn; clear hn) | refine ⟨Sat.cs hs (by (repeat (first | exact At.z | apply At.s))) (by rfl), ?_⟩ | (refine ⟨Sat.can hs (by (repeat (first | exact At.z | apply At.s))) (by simp), ?_⟩; intro _ e; replace hs := Sat.wr hs (by (repeat (first | exact At.z | apply At.s))) e; clear e; simp only [put, splice, List.set] at hs))
  replace hs := Sat.front hs (e := slE p' _ _ 1 (ints .u8 C.mask)) (by (repeat (first | exact At.z | apply At.s)))
  replace hs := Sat.front hs (e := slE c'.1 c'.2.1 c'.2.2 1 (bools C.s.blown)) (by (repeat (first | exact At.z | apply At.s)))
  replace hs := Sat.front hs (e := slE b'.1 b'.2.1 b'.2.2 1 (ints .i64 C.s.erases)) (by (repeat (first | exact At.z | apply At.s)))
  replace hs := Sat.front hs (e := matE 32 a' C.s.pages) (by (repeat (first | exact At.z | apply At.s)))
  replace hs := Sat.front hs (e := blk nl _) (by (repeat (first | exact At.z | apply At.s)))
  simp only [del] at hs
  replace hs := chip_make (a := a') (b := b') (c := c') (m := (p', w.m.2.1, c2)) ok hs
  replace hs := Sat.front hs (e := slE w.m.1 _ _ 1 (ints .u8 C.mask)) (by (repeat (first | exact At.z | apply At.s)))
  replace hs := Sat.front hs (e := slE w.c.1 w.c.2.1 w.c.2.2 1 (bools C.s.blown)) (by (repeat (first | exact At.z | apply At.s)))
  replace hs := Sat.front hs (e := slE w.b.1 w.b.2.1 w.b.2.2 1 (ints .i64 C.s.erases)) (by (repeat (first | exact At.z | apply At.s)))
  replace hs := Sat.front hs (e := matE 32 w.a C.s.pages) (by (repeat (first | exact At.z | apply At.s)))
  replace hs := Sat.front hs (e := blk p _) (by (repeat (first | exact At.z | apply At.s)))
  simp only [del] at hs
  have hC := chip_close (a := w.a) (b := w.b) (c := w.c) (m := w.m) ok ci.s hs
  simp only [put_succ, ci.put_self] at hC
  exact k _ _ hC
end
end Go.Proofs.Ytamfkofcpoglnaa
