/- PageHalf: what a cut act leaves of a sound page; for every input. -/
import Derived.Test.YtamfkofcpoglnaaFa0
import Derived.Test.YtamfkofcpoglnaaFa9
import Derived.Test.YtamfkofcpoglnaaAh
import Derived.Test.YtamfkofcpoglnaaPg6
set_option autoImplicit false
set_option linter.all false
set_option maxRecDepth 100000
set_option linter.unusedVariables false
namespace Go.Proofs.Ytamfkofcpoglnaa
open Go Go.Vc Go.ChangeShapes Go.WideShapes Go.ChangeAt Go.RowKit

theorem PageHalf_calls {D : Type} {enc : TypeId × Value → D} {W : World} {base : Nat} (vs : List Value) (h : ArgsOk enc PP W base [23, 40, 3, 3, 3, 2, 4, 4, 43] vs) : CallsTrue PP 9 vs W := by
  obtain ⟨hl, h⟩ := h
  match vs, hl with
  | [v0, v1, v2, v3, v4, v5, v6, v7, v8], _ =>
  obtain ⟨r0, w0⟩ := h 0 _ v0 rfl rfl
  obtain ⟨r1, w1⟩ := h 1 _ v1 rfl rfl
  obtain ⟨r2, w2⟩ := h 2 _ v2 rfl rfl
  obtain ⟨r3, w3⟩ := h 3 _ v3 rfl rfl
  obtain ⟨r4, w4⟩ := h 4 _ v4 rfl rfl
  obtain ⟨r5, w5⟩ := h 5 _ v5 rfl rfl
  obtain ⟨r6, w6⟩ := h 6 _ v6 rfl rfl
  obtain ⟨r7, w7⟩ := h 7 _ v7 rfl rfl
  obtain ⟨r8, w8⟩ := h 8 _ v8 rfl rfl
  obtain ⟨c, rfl⟩ := cfg_of r0 w0
  obtain ⟨a, b, c', s, rfl, rd, ty, sm⟩ := chip_of r1 w1
  obtain ⟨x2, rfl, b2⟩ := int_of (by kernel_rfl) r2 w2
  obtain ⟨x3, rfl, b3⟩ := int_of (by kernel_rfl) r3 w3
  obtain ⟨x4, rfl, b4⟩ := int_of (by kernel_rfl) r4 w4
  obtain ⟨x5, rfl, b5⟩ := int_of (by kernel_rfl) r5 w5
  obtain ⟨x6, rfl⟩ := bool_of (by kernel_rfl) r6 w6
  obtain ⟨x7, rfl⟩ := bool_of (by kernel_rfl) r7 w7
  obtain ⟨p, l, cc, rfl, hsl⟩ := slice_of (e := 5) (by kernel_rfl) r8 w8
  obtain ⟨mask, m1, m2, m3⟩ := bytes_of hsl
  have := R_portcullislaw08_PageHalf [.agg (c.vals.map .c), .agg [.c a.v, .c b.v, .c c'.v], .one (.int .i64 x2), .one (.int .i64 x3), .one (.int .i64 x4), .one (.int .i64 x5), .one (.bool x6), .one (.bool x7), .one (.slice p l cc)] (fun rs h' => rs = [DV.one (.bool true)] ∧ Ext none_ W.heap h') W.heap (by
    intro x hx
    simp only [List.mem_cons, List.not_mem_nil, or_false] at hx
    rcases hx with rfl | rfl | rfl | rfl | rfl | rfl | rfl | rfl | rfl
    · exact ok_cfg c
    · exact ok_chip a b c'
    all_goals rfl) (by
    show F_portcullislaw08_PageHalf c.cells c.slots c.fuses c.step c.keys c.erases c.area a.1 a.2.1 a.2.2 b.1 b.2.1 b.2.2 c'.1 c'.2.1 c'.2.2 x2 x3 x4 x5 x6 x7 p l cc (fun b h' => [DV.one (.bool b)] = [DV.one (.bool true)] ∧ Ext none_ W.heap h') W.heap
    exact PageHalf_sp c s rd ty x2 x3 x4 x5 x6 x7 m1 m2 m3 fun h' x => ⟨rfl, x⟩)
  exact this
theorem PageHalf_lifted (os : Os) (started : os.Started) (D : Type) (enc : TypeId × Value → D) :
    ReturnsInHanded {} Try.checked os 9 .any (Rows.pageHalfSpec.pre6 enc Try.prog Try.f9 Rows.pageHalfRow.domain false) (Rows.pageHalfSpec.post enc Try.prog Try.f9 false true false false) := by
  refine returnsInHanded_of_change_sized (C := Try.checked) Try.own started (by kernel_rfl) Try.func9
    (ChangeSpec.witness6 (enc := enc) (C := Try.checked) false ⟨#[], #[.agg #[.int .i64 0, .int .i64 0, .int .i64 0, .int .i64 0, .int .i64 0, .int .i64 0, .int .i64 0], .agg #[.slice none 0 0, .slice none 0 0, .slice none 0 0], .int .i64 0, .int .i64 0, .int .i64 0, .int .i64 0, .bool false, .bool false, .slice none 0 0], []⟩ 8 (by kernel_rfl) (by kernel_rfl) (by kernel_rfl) (by kernel_rfl)) ?_
  intro W base args ds gs before hval hW hcnd hsz _
  exact law_go (P := Try.prog) (fn := Try.f9) (s := Rows.pageHalfSpec) [23, 40, 3, 3, 3, 2, 4, 4, 43] (by kernel_rfl) Try.laidOut rfl (by kernel_rfl) (by kernel_rfl) Try.ubool
    (fun ds hl => match ds, hl with | [d1, d2, d3, d4, d5, d6, d7, d8, d9], _ => rfl) hval hW hsz PageHalf_calls

theorem PageHalf_holds : Rows.PageHalfSaid :=
  OpenClaim.holds_of_wide 9 Try.f9 rfl rfl rfl rfl rfl rfl rfl ⟨rfl, rfl, rfl, rfl, rfl⟩ rfl rfl rfl rfl rfl (by kernel_rfl) Try.func9 (by kernel_rfl)
    (of_decide_eq_true (by kernel_rfl)) (by unfold Func.isWrapper; first | (rw [if_pos (by decide +kernel)]; kernel_rfl) | (rw [if_neg (by decide +kernel)]; exact ⟨rfl, rfl⟩))
    (fun os started H enc _ => PageHalf_lifted os started H enc)

end Go.Proofs.Ytamfkofcpoglnaa
