/- What arguments of the statements are: states of chips. Own work. -/
import Derived.Test.YtamfkofcpoglnaaFa0
import Derived.Test.YtamfkofcpoglnaaAg
import Derived.Test.YtamfkofcpoglnaaCh7
set_option autoImplicit false
set_option linter.all false
set_option maxRecDepth 100000
set_option linter.unusedVariables false
namespace Go.Proofs.Ytamfkofcpoglnaa
open Go Go.Vc Go.ChangeShapes Go.WideShapes Go.ChangeAt Go.RowKit

theorem xChip : xsh PP 8 40 = some [.slc 53, .slc 3, .slc 4] := by kernel_rfl
theorem xCells : xsh PP 8 53 = some [.slc 42] := by kernel_rfl
theorem xCell : xsh PP 8 42 = some [.row .u8 32] := by kernel_rfl
theorem xInt : xsh PP 8 3 = some [.int .i64] := by kernel_rfl
theorem xBool : xsh PP 8 4 = some [.bool] := by kernel_rfl
section
variable {D : Type} {enc : TypeId × Value → D} {W : World}
theorem ints_of {p : Option Addr} {l c : Nat} (h : Sli enc PP W 3 p l c) : ∃ ns : List Int, hsv W.heap p 1 l (ints .i64 ns) ∧ (∀ n, n ∈ ns → -(2 ^ 63) ≤ n ∧ n < 2 ^ 63) ∧ ns.length * 8 + 4096 ≤ 2 ^ 47 := by
  have hb : Try.prog.bytesOf 3 = 8 := by kernel_rfl
  have hc : Try.prog.cellsOf 3 = 1 := by kernel_rfl
  obtain ⟨ess, h1, h2, h3, _⟩ := h.els xInt
  have hlc := h.1
  have hr := h.2.1
  rw [hb] at hr
  rw [hc] at h3
  have key : ∀ ess : List (List Value), (∀ es, es ∈ ess → es.length = Try.prog.cellsOf 3 ∧ XM enc PP W [XSh.int .i64] es) → ∃ ns : List Int, ess.flatten = ints .i64 ns ∧ ∀ n, n ∈ ns → -(2 ^ 63) ≤ n ∧ n < 2 ^ 63 := by
    intro ess
    induction ess with
    | nil => intro _; exact ⟨[], rfl, by intro n hn; simp at hn⟩
    | cons x r ih =>
      intro h
      obtain ⟨ns, e, hn⟩ := ih fun es hes => h es (by simp [hes])
      obtain ⟨n, rest, rfl, hh, hr⟩ := (h x (by simp)).2
      simp only [XM] at hr
      subst hr
      refine ⟨n :: ns, by simp [e], ?_⟩
      intro m hm
      rcases List.mem_cons.1 hm with rfl | hm
      · exact has_i64 hh
      · exact hn m hm
  obtain ⟨ns, e, hn⟩ := key ess h2
  rw [e] at h3
  have : ns.length = l := by have := h3.1; simpa using this
  refine ⟨ns, h3, hn, ?_⟩
  unfold reachBytes at hr
  omega
theorem bools_of {p : Option Addr} {l c : Nat} (h : Sli enc PP W 4 p l c) : ∃ ns : List Bool, hsv W.heap p 1 l (bools ns) ∧ ns.length + 4096 ≤ 2 ^ 47 := by
  have hb : Try.prog.bytesOf 4 = 1 := by kernel_rfl
  have hc : Try.prog.cellsOf 4 = 1 := by kernel_rfl
  obtain ⟨ess, h1, h2, h3, _⟩ := h.els xBool
  have hlc := h.1
  have hr := h.2.1
  rw [hb] at hr
  rw [hc] at h3
  have key : ∀ ess : List (List Value), (∀ es, es ∈ ess → es.length = Try.prog.cellsOf 4 ∧ XM enc PP W [XSh.bool] es) → ∃ ns : List Bool, ess.flatten = bools ns := by
    intro ess
    induction ess with
    | nil => intro _; exact ⟨[], rfl⟩
    | cons x r ih =>
      intro h
      obtain ⟨ns, e⟩ := ih fun es hes => h es (by simp [hes])
      obtain ⟨n, rest, rfl, hr⟩ := (h x (by simp)).2
      simp only [XM] at hr
      subst hr
      exact ⟨n :: ns, by simp [e, bools]⟩
  obtain ⟨ns, e⟩ := key ess h2
  rw [e] at h3
  have : ns.length = l := by have := h3.1; simpa using this
  refine ⟨ns, h3, ?_⟩
  unfold reachBytes at hr
  omega
theorem rows_of {p : Option Addr} {l c : Nat} (h : Sli enc PP W 42 p l c) : ∃ ns : List Int, hsv W.heap p 32 l (ints .u8 ns) ∧ bytesOk ns ∧ ns.length + 4096 ≤ 2 ^ 47 := by
  have hb : Try.prog.bytesOf 42 = 32 := by kernel_rfl
  have hc : Try.prog.cellsOf 42 = 32 := by kernel_rfl
  obtain ⟨ess, h1, h2, h3, _⟩ := h.els xCell
  have hlc := h.1
  have hr := h.2.1
  rw [hb] at hr
  rw [hc] at h3
  have key : ∀ ess : List (List Value), (∀ es, es ∈ ess → es.length = Try.prog.cellsOf 42 ∧ XM enc PP W [XSh.row .u8 32] es) → ∃ ns : List Int, ess.flatten = ints .u8 ns ∧ bytesOk ns := by
    intro ess
    induction ess with
    | nil => intro _; exact ⟨[], rfl, by intro n hn; simp at hn⟩
    | cons x r ih =>
      intro h
      obtain ⟨ns, e, hn⟩ := ih fun es hes => h es (by simp [hes])
      obtain ⟨xs, rest, rfl, _, hh, hr⟩ := (h x (by simp)).2
      simp only [XM] at hr
      subst hr
      refine ⟨xs ++ ns, by simp [e], ?_⟩
      intro m hm
      rcases List.mem_append.1 hm with hm | hm
      · exact has_u8 (hh m hm)
      · exact hn m hm
  obtain ⟨ns, e, hn⟩ := key ess h2
  rw [e] at h3
  have : ns.length = l * 32 := by have := h3.1; simpa using this
  refine ⟨ns, h3, hn, ?_⟩
  unfold reachBytes at hr
  omega
theorem mat_of {p : Option Addr} {l c : Nat} (h : Sli enc PP W 53 p l c) : ∃ rows : List (List Int), RdM W.heap 32 (p, l, c) rows ∧ (∀ r, r ∈ rows → bytesOk r ∧ r.length + 4096 ≤ 2 ^ 47) ∧ rows.length * 24 + 4096 ≤ 2 ^ 47 := by
  have hb : Try.prog.bytesOf 53 = 24 := by kernel_rfl
  have hc : Try.prog.cellsOf 53 = 1 := by kernel_rfl
  obtain ⟨ess, h1, h2, h3, _⟩ := h.els xCells
  have hlc := h.1
  have hr := h.2.1
  rw [hb] at hr
  rw [hc] at h3
  have key : ∀ ess : List (List Value), (∀ es, es ∈ ess → es.length = Try.prog.cellsOf 53 ∧ XM enc PP W [XSh.slc 42] es) → ∃ pgs : List Pg, ess.flatten = pgSl pgs ∧ (∀ x, x ∈ pgs → x.rd W.heap 32) ∧ ∀ x, x ∈ pgs → bytesOk x.bytes ∧ x.bytes.length + 4096 ≤ 2 ^ 47 := by
    intro ess
    induction ess with
    | nil => intro _; exact ⟨[], rfl, by simp, by simp⟩
    | cons x r ih =>
      intro h
      obtain ⟨pgs, e, hn, hn2⟩ := ih fun es hes => h es (by simp [hes])
      obtain ⟨xp, xl, xc, rest, rfl, hh, hr⟩ := (h x (by simp)).2
      simp only [XM] at hr
      subst hr
      obtain ⟨bs, b1, b2, b3⟩ := rows_of hh
      refine ⟨⟨(xp, xl, xc), bs⟩ :: pgs, by simp [e, pgSl], ?_, ?_⟩
      · intro y hy
        rcases List.mem_cons.1 hy with rfl | hy
        · exact b1
        · exact hn y hy
      · intro y hy
        rcases List.mem_cons.1 hy with rfl | hy
        · exact ⟨b2, b3⟩
        · exact hn2 y hy
  obtain ⟨pgs, e, hn, hn2⟩ := key ess h2
  rw [e] at h3
  have : pgs.length = l := by have := h3.1; simpa using this
  refine ⟨pgBytes pgs, ⟨pgs, rfl, h3, hn⟩, ?_, ?_⟩
  · intro r hr
    obtain ⟨x, hx, rfl⟩ := List.mem_map.1 hr
    exact hn2 x hx
  · unfold reachBytes at hr
    simp; omega
theorem chip_of {v : Value} {base : Nat} (h : Rdt enc PP W 40 v.cells.toList) (ho : Value.okWide PP W .any base 40 v) :
    ∃ (a b c : Sl) (s : St), v = .agg #[a.v, b.v, c.v] ∧ RdS W.heap a b c s ∧ s.typed ∧ s.small := by
  have e := okw_agg (by kernel_rfl) ho
  obtain ⟨p1, l1, c1, r1, e1, s1, p2, l2, c2, r2, rfl, s2, p3, l3, c3, r3, rfl, s3, hr⟩ := Rdt.xm 8 _ _ _ xChip h
  simp only [XM] at hr
  subst hr
  obtain ⟨rows, m1, m2, m3⟩ := mat_of s1
  obtain ⟨es, i1, i2, i3⟩ := ints_of s2
  obtain ⟨bs, b1, b2⟩ := bools_of s3
  refine ⟨(p1, l1, c1), (p2, l2, c2), (p3, l3, c3), ⟨rows, es, bs⟩, ?_, ⟨m1, i1, b1⟩, ⟨fun l hl => (m2 l hl).1, i2⟩, ⟨m3, fun l hl => (m2 l hl).2, i3, b2⟩⟩
  rw [e]
  congr 1
  rw [← Array.toArray_toList (xs := v.cells), e1]
theorem slice_of {t e : TypeId} {v : Value} {base : Nat} (u : Try.prog.underlying t = some (.slice e)) (h : Rdt enc PP W t v.cells.toList) (ho : Value.okWide PP W .any base t v) : ∃ p l c, v = .slice p l c ∧ Sli enc PP W e p l c := by
  obtain ⟨p, l, c, e1, hs⟩ := Rdt.slice u h
  exact ⟨p, l, c, okw_one (by rw [u]) ho e1, hs⟩
theorem int_of {t : TypeId} {v : Value} {base : Nat} (u : Try.prog.underlying t = some (.int .i64)) (h : Rdt enc PP W t v.cells.toList) (ho : Value.okWide PP W .any base t v) : ∃ n : Int, v = .int .i64 n ∧ -(2 ^ 63) ≤ n ∧ n < 2 ^ 63 := by
  obtain ⟨fuel, x, h, _⟩ := h
  obtain ⟨n, e1, _, hn⟩ := DataW.trod_int u h
  exact ⟨n, okw_one (by rw [u]) ho e1, has_i64 (wf_has hn)⟩
theorem u8_of {t : TypeId} {v : Value} {base : Nat} (u : Try.prog.underlying t = some (.int .u8)) (h : Rdt enc PP W t v.cells.toList) (ho : Value.okWide PP W .any base t v) : ∃ n : Int, v = .int .u8 n ∧ isByte n := by
  obtain ⟨fuel, x, h, _⟩ := h
  obtain ⟨n, e1, _, hn⟩ := DataW.trod_int u h
  exact ⟨n, okw_one (by rw [u]) ho e1, has_u8 (wf_has hn)⟩
theorem bool_of {t : TypeId} {v : Value} {base : Nat} (u : Try.prog.underlying t = some .bool) (h : Rdt enc PP W t v.cells.toList) (ho : Value.okWide PP W .any base t v) : ∃ b : Bool, v = .bool b := by
  obtain ⟨fuel, x, h, _⟩ := h
  obtain ⟨n, e1, _⟩ := DataW.trod_bool u h
  exact ⟨n, okw_one (by rw [u]) ho e1⟩
theorem ok_cfg (c : Cfg) : (DV.agg (c.vals.map .c)).ok := by
  intro y hy; simp only [Cfg.vals, List.map_cons, List.map_nil, List.mem_cons, List.not_mem_nil, or_false] at hy
  rcases hy with rfl | rfl | rfl | rfl | rfl | rfl | rfl <;> rfl
theorem ok_chip (a b c : Sl) : (DV.agg [.c a.v, .c b.v, .c c.v]).ok := by
  intro y hy; simp only [List.mem_cons, List.not_mem_nil, or_false] at hy
  rcases hy with rfl | rfl | rfl <;> rfl
end
end Go.Proofs.Ytamfkofcpoglnaa
