/- PageLooks: every page of any chip is looked at as the document says; for every input. -/
import Derived.Test.YtamfkofcpoglnaaFa0
import Derived.Test.YtamfkofcpoglnaaFa9
import Derived.Test.YtamfkofcpoglnaaAh
import Derived.Test.YtamfkofcpoglnaaPg3
set_option autoImplicit false
set_option linter.all false
set_option maxRecDepth 100000
set_option linter.unusedVariables false
namespace Go.Proofs.Ytamfkofcpoglnaa
open Go Go.Vc Go.ChangeShapes Go.WideShapes Go.ChangeAt Go.RowKit

theorem PageLooks_calls {D : Type} {enc : TypeId × Value → D} {W : World} {base : Nat} (vs : List Value) (h : ArgsOk enc PP W base [23, 40] vs) : CallsTrue PP 8 vs W := by
  obtain ⟨hl, h⟩ := h
  match vs, hl with
  | [v0, v1], _ =>
  obtain ⟨r0, w0⟩ := h 0 _ v0 rfl rfl
  obtain ⟨r1, w1⟩ := h 1 _ v1 rfl rfl
  obtain ⟨c, rfl⟩ := cfg_of r0 w0
  obtain ⟨a, b, c', s, rfl, rd, ty, sm⟩ := chip_of r1 w1
  have := R_portcullislaw08_PageLooks [.agg (c.vals.map .c), .agg [.c a.v, .c b.v, .c c'.v]] (fun rs h' => rs = [DV.one (.bool true)] ∧ Ext none_ W.heap h') W.heap (by
    intro x hx
    simp only [List.mem_cons, List.not_mem_nil, or_false] at hx
    rcases hx with rfl | rfl
    · exact ok_cfg c
    · exact ok_chip a b c') (by
    show F_portcullislaw08_PageLooks c.cells c.slots c.fuses c.step c.keys c.erases c.area a.1 a.2.1 a.2.2 b.1 b.2.1 b.2.2 c'.1 c'.2.1 c'.2.2 (fun b h' => [DV.one (.bool b)] = [DV.one (.bool true)] ∧ Ext none_ W.heap h') W.heap
    exact PageLooks_sp c s rd ty sm fun h' x => ⟨rfl, x⟩)
  exact this
theorem PageLooks_lifted (os : Os) (started : os.Started) (D : Type) (enc : TypeId × Value → D) :
    ReturnsInHanded {} Try.checked os 8 .any (Rows.pageLooksSpec.pre6 enc Try.prog Try.f8 Rows.pageLooksRow.domain false) (Rows.pageLooksSpec.post enc Try.prog Try.f8 false true false false) := by
  refine returnsInHanded_of_change_sized (C := Try.checked) Try.own started (by kernel_rfl) Try.func8
    (ChangeSpec.witness6 (enc := enc) (C := Try.checked) false ⟨#[], #[.agg #[.int .i64 0, .int .i64 0, .int .i64 0, .int .i64 0, .int .i64 0, .int .i64 0, .int .i64 0], .agg #[.slice none 0 0, .slice none 0 0, .slice none 0 0]], []⟩ 8 (by kernel_rfl) (by kernel_rfl) (by kernel_rfl) (by kernel_rfl)) ?_
  intro W base args ds gs before hval hW hcnd hsz _
  exact law_go (P := Try.prog) (fn := Try.f8) (s := Rows.pageLooksSpec) [23, 40] (by kernel_rfl) Try.laidOut rfl (by kernel_rfl) (by kernel_rfl) Try.ubool
    (fun ds hl => match ds, hl with | [d1, d2], _ => rfl) hval hW hsz PageLooks_calls

theorem PageLooks_holds : Rows.PageLooksSaid :=
  OpenClaim.holds_of_wide 8 Try.f8 rfl rfl rfl rfl rfl rfl rfl ⟨rfl, rfl, rfl, rfl, rfl⟩ rfl rfl rfl rfl rfl (by kernel_rfl) Try.func8 (by kernel_rfl)
    (of_decide_eq_true (by kernel_rfl)) (by unfold Func.isWrapper; first | (rw [if_pos (by decide +kernel)]; kernel_rfl) | (rw [if_neg (by decide +kernel)]; exact ⟨rfl, rfl⟩))
    (fun os started H enc _ => PageLooks_lifted os started H enc)

end Go.Proofs.Ytamfkofcpoglnaa
