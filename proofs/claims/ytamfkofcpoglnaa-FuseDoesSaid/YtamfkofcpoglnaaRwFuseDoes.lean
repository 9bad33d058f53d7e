/- FuseDoes: every script over the fuses of any chip is answered as the document says; for every input. -/
import Derived.Test.YtamfkofcpoglnaaFa0
import Derived.Test.YtamfkofcpoglnaaFa7
import Derived.Test.YtamfkofcpoglnaaAh
import Derived.Test.YtamfkofcpoglnaaFu4
set_option autoImplicit false
set_option linter.all false
set_option maxRecDepth 100000
set_option linter.unusedVariables false
namespace Go.Proofs.Ytamfkofcpoglnaa
open Go Go.Vc Go.ChangeShapes Go.WideShapes Go.ChangeAt Go.RowKit

theorem xStep07 : xsh PP 8 63 = some [.int .i64, .int .i64, .int .i64] := by kernel_rfl
theorem script7_of {D : Type} {enc : TypeId × Value → D} {W : World} {p : Option Addr} {l c : Nat} (h : Sli enc PP W 63 p l c) : ∃ sc : List Stp7, Script7 W.heap p l sc := by
  have hb : Try.prog.bytesOf 63 = 24 := by kernel_rfl
  have hc : Try.prog.cellsOf 63 = 3 := by kernel_rfl
  obtain ⟨ess, h1, h2, _, h4⟩ := h.els xStep07
  have hlc := h.1
  have hr := h.2.1
  rw [hb] at hr
  unfold reachBytes at hr
  have key : ∀ es, es ∈ ess → ∃ (s : Stp7), s.ok ∧ es = [.int .i64 s.kind, .int .i64 s.a, .int .i64 s.n] := by
    intro es hes
    obtain ⟨k, _, rfl, _, a, _, rfl, _, b, _, rfl, hb, hr⟩ := (h2 es hes).2
    simp only [XM] at hr
    subst hr
    exact ⟨⟨k, a, b⟩, ⟨(has_i64 hb).2⟩, rfl⟩
  have key2 : ∀ ess : List (List Value), (∀ es, es ∈ ess → ∃ (s : Stp7), s.ok ∧ es = [.int .i64 s.kind, .int .i64 s.a, .int .i64 s.n]) →
      ∃ sc : List Stp7, sc.length = ess.length ∧ ∀ i (hi : i < sc.length) (hi2 : i < ess.length), sc[i].ok ∧ ess[i] = [.int .i64 sc[i].kind, .int .i64 sc[i].a, .int .i64 sc[i].n] := by
    intro ess
    induction ess with
    | nil => intro _; exact ⟨[], rfl, fun i hi => by simp at hi⟩
    | cons y r ih =>
      intro h
      obtain ⟨sc, e1, e2⟩ := ih fun es hes => h es (by simp [hes])
      obtain ⟨s, hs⟩ := h y (by simp)
      refine ⟨s :: sc, by simp [e1], ?_⟩
      intro i hi hi2
      cases i with
      | zero => exact hs
      | succ i => exact e2 i (by simpa using hi) (by simpa using hi2)
  obtain ⟨sc, e1, e2⟩ := key2 ess key
  refine ⟨sc, by omega, by omega, ?_⟩
  intro i hi
  obtain ⟨ok, e3⟩ := e2 i hi (by omega)
  obtain ⟨q, hq, hc2⟩ := h4 i (by omega)
  rw [hc, e3] at hc2
  refine ⟨q, hq, ?_, ?_, ?_, ok⟩
  · have := hc2 0 _ rfl; simpa [Addr.add] using this
  · exact hc2 1 _ rfl
  · exact hc2 2 _ rfl
theorem FuseDoes_calls {D : Type} {enc : TypeId × Value → D} {W : World} {base : Nat} (vs : List Value) (h : ArgsOk enc PP W base [23, 40, 60] vs) : CallsTrue PP 6 vs W := by
  obtain ⟨hl, h⟩ := h
  match vs, hl with
  | [v0, v1, v2], _ =>
  obtain ⟨r0, w0⟩ := h 0 _ v0 rfl rfl
  obtain ⟨r1, w1⟩ := h 1 _ v1 rfl rfl
  obtain ⟨r2, w2⟩ := h 2 _ v2 rfl rfl
  obtain ⟨c, rfl⟩ := cfg_of r0 w0
  obtain ⟨a, b, c', s, rfl, rd, ty, sm⟩ := chip_of r1 w1
  obtain ⟨p, l, cc, rfl, hsl⟩ := slice_of (e := 63) (by kernel_rfl) r2 w2
  obtain ⟨sc, hsc⟩ := script7_of hsl
  have := R_portcullislaw07_FuseDoes [.agg (c.vals.map .c), .agg [.c a.v, .c b.v, .c c'.v], .one (.slice p l cc)] (fun rs h' => rs = [DV.one (.bool true)] ∧ Ext none_ W.heap h') W.heap (by
    intro x hx
    simp only [List.mem_cons, List.not_mem_nil, or_false] at hx
    rcases hx with rfl | rfl | rfl
    · exact ok_cfg c
    · exact ok_chip a b c'
    · rfl) (by
    show F_portcullislaw07_FuseDoes c.cells c.slots c.fuses c.step c.keys c.erases c.area a.1 a.2.1 a.2.2 b.1 b.2.1 b.2.2 c'.1 c'.2.1 c'.2.2 p l cc (fun b h' => [DV.one (.bool b)] = [DV.one (.bool true)] ∧ Ext none_ W.heap h') W.heap
    exact FuseDoes_sp c s rd ty sm sc hsc fun h' x => ⟨rfl, x⟩)
  exact this
theorem FuseDoes_lifted (os : Os) (started : os.Started) (D : Type) (enc : TypeId × Value → D) :
    ReturnsInHanded {} Try.checked os 6 .any (Rows.fuseDoesSpec.pre6 enc Try.prog Try.f6 Rows.fuseDoesRow.domain false) (Rows.fuseDoesSpec.post enc Try.prog Try.f6 false true false false) := by
  refine returnsInHanded_of_change_sized (C := Try.checked) Try.own started (by kernel_rfl) Try.func6
    (ChangeSpec.witness6 (enc := enc) (C := Try.checked) false ⟨#[], #[.agg #[.int .i64 0, .int .i64 0, .int .i64 0, .int .i64 0, .int .i64 0, .int .i64 0, .int .i64 0], .agg #[.slice none 0 0, .slice none 0 0, .slice none 0 0], .slice none 0 0], []⟩ 8 (by kernel_rfl) (by kernel_rfl) (by kernel_rfl) (by kernel_rfl)) ?_
  intro W base args ds gs before hval hW hcnd hsz _
  exact law_go (P := Try.prog) (fn := Try.f6) (s := Rows.fuseDoesSpec) [23, 40, 60] (by kernel_rfl) Try.laidOut rfl (by kernel_rfl) (by kernel_rfl) Try.ubool
    (fun ds hl => match ds, hl with | [d1, d2, d3], _ => rfl) hval hW hsz FuseDoes_calls

theorem FuseDoes_holds : Rows.FuseDoesSaid :=
  OpenClaim.holds_of_wide 6 Try.f6 rfl rfl rfl rfl rfl rfl rfl ⟨rfl, rfl, rfl, rfl, rfl⟩ rfl rfl rfl rfl rfl (by kernel_rfl) Try.func6 (by kernel_rfl)
    (of_decide_eq_true (by kernel_rfl)) (by unfold Func.isWrapper; first | (rw [if_pos (by decide +kernel)]; kernel_rfl) | (rw [if_neg (by decide +kernel)]; exact ⟨rfl, rfl⟩))
    (fun os started H enc _ => FuseDoes_lifted os started H enc)

end Go.Proofs.Ytamfkofcpoglnaa
