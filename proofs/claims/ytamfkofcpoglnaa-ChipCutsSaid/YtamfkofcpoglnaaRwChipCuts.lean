/- ChipCuts: what a cut act leaves on any chip, bit by bit; for every input. -/
import Derived.Test.YtamfkofcpoglnaaFa0
import Derived.Test.YtamfkofcpoglnaaFa6
import Derived.Test.YtamfkofcpoglnaaAh
import Derived.Test.YtamfkofcpoglnaaLa7
import Derived.Test.YtamfkofcpoglnaaSc
set_option autoImplicit false
set_option linter.all false
set_option maxRecDepth 100000
set_option linter.unusedVariables false
namespace Go.Proofs.Ytamfkofcpoglnaa
open Go Go.Vc Go.ChangeShapes Go.WideShapes Go.ChangeAt Go.RowKit

theorem step_of {D : Type} {enc : TypeId × Value → D} {W : World} {v : Value} {base : Nat} (h : Rdt enc PP W 45 v.cells.toList) (ho : Value.okWide PP W .any base 45 v) :
    ∃ (s : Stp) (mp : Option Addr) (ml mc : Nat), v = .agg (.int .i64 s.kind :: .int .i64 s.a :: .int .i64 s.b :: (ints .u8 s.x ++ [.slice mp ml mc])).toArray ∧ s.x.length = 32 := by
  have e := okw_agg (by kernel_rfl) ho
  obtain ⟨k, _, e1, _, a, _, rfl, ha, b, _, rfl, _, x, _, rfl, hx, hxb, mp, ml, mc, _, rfl, hm, hr⟩ := Rdt.xm 8 _ _ _ xStep04 h
  simp only [XM] at hr
  subst hr
  refine ⟨⟨k, a, b, x, []⟩, mp, ml, mc, ?_, hx⟩
  rw [e]
  congr 1
  rw [← Array.toArray_toList (xs := v.cells), e1]
theorem ok_step (s : Stp) (hx : s.x.length = 32) (m : Value) (hm : m.oneCell' = true) : (DV.agg [.c (.int .i64 s.kind), .c (.int .i64 s.a), .c (.int .i64 s.b), .row .u8 32 s.x, .c m]).ok := by
  intro y hy; simp only [List.mem_cons, List.not_mem_nil, or_false] at hy
  rcases hy with rfl | rfl | rfl | rfl | rfl
  · rfl
  · rfl
  · rfl
  · exact hx
  · exact hm
theorem ChipCuts_calls {D : Type} {enc : TypeId × Value → D} {W : World} {base : Nat} (vs : List Value) (h : ArgsOk enc PP W base [23, 40, 45, 43] vs) : CallsTrue PP 4 vs W := by
  obtain ⟨hl, h⟩ := h
  match vs, hl with
  | [v0, v1, v2, v3], _ =>
  obtain ⟨r0, w0⟩ := h 0 _ v0 rfl rfl
  obtain ⟨r1, w1⟩ := h 1 _ v1 rfl rfl
  obtain ⟨r2, w2⟩ := h 2 _ v2 rfl rfl
  obtain ⟨r3, w3⟩ := h 3 _ v3 rfl rfl
  obtain ⟨c, rfl⟩ := cfg_of r0 w0
  obtain ⟨a, b, c', s, rfl, rd, ty, sm⟩ := chip_of r1 w1
  obtain ⟨t, xp, xl, xc, rfl, hx⟩ := step_of r2 w2
  obtain ⟨p, l, cc, rfl, hsl⟩ := slice_of (e := 5) (by kernel_rfl) r3 w3
  obtain ⟨mask, m1, m2, m3⟩ := bytes_of hsl
  have := R_portcullislaw04_ChipCuts [.agg (c.vals.map .c), .agg [.c a.v, .c b.v, .c c'.v], .agg [.c (.int .i64 t.kind), .c (.int .i64 t.a), .c (.int .i64 t.b), .row .u8 32 t.x, .c (.slice xp xl xc)], .one (.slice p l cc)] (fun rs h' => rs = [DV.one (.bool true)] ∧ Ext none_ W.heap h') W.heap (by
    intro x hxx
    simp only [List.mem_cons, List.not_mem_nil, or_false] at hxx
    rcases hxx with rfl | rfl | rfl | rfl
    · exact ok_cfg c
    · exact ok_chip a b c'
    · exact ok_step t hx _ rfl
    · rfl) (by
    show F_portcullislaw04_ChipCuts c.cells c.slots c.fuses c.step c.keys c.erases c.area a.1 a.2.1 a.2.2 b.1 b.2.1 b.2.2 c'.1 c'.2.1 c'.2.2 t.kind t.a t.b t.x xp xl xc p l cc (fun b h' => [DV.one (.bool b)] = [DV.one (.bool true)] ∧ Ext none_ W.heap h') W.heap
    exact ChipCuts_sp c s rd ty sm t hx m1 m2 m3 fun h' x => ⟨rfl, x⟩)
  exact this
theorem ChipCuts_lifted (os : Os) (started : os.Started) (D : Type) (enc : TypeId × Value → D) :
    ReturnsInHanded {} Try.checked os 4 .any (Rows.chipCutsSpec.pre6 enc Try.prog Try.f4 Rows.chipCutsRow.domain false) (Rows.chipCutsSpec.post enc Try.prog Try.f4 false true false false) := by
  refine returnsInHanded_of_change_sized (C := Try.checked) Try.own started (by kernel_rfl) Try.func4
    (ChangeSpec.witness6 (enc := enc) (C := Try.checked) false ⟨#[], #[.agg #[.int .i64 0, .int .i64 0, .int .i64 0, .int .i64 0, .int .i64 0, .int .i64 0, .int .i64 0], .agg #[.slice none 0 0, .slice none 0 0, .slice none 0 0], .agg #[.int .i64 0, .int .i64 0, .int .i64 0, .int .u8 0, .int .u8 0, .int .u8 0, .int .u8 0, .int .u8 0, .int .u8 0, .int .u8 0, .int .u8 0, .int .u8 0, .int .u8 0, .int .u8 0, .int .u8 0, .int .u8 0, .int .u8 0, .int .u8 0, .int .u8 0, .int .u8 0, .int .u8 0, .int .u8 0, .int .u8 0, .int .u8 0, .int .u8 0, .int .u8 0, .int .u8 0, .int .u8 0, .int .u8 0, .int .u8 0, .int .u8 0, .int .u8 0, .int .u8 0, .int .u8 0, .int .u8 0, .slice none 0 0], .slice none 0 0], []⟩ 8 (by kernel_rfl) (by kernel_rfl) (by kernel_rfl) (by kernel_rfl)) ?_
  intro W base args ds gs before hval hW hcnd hsz _
  exact law_go (P := Try.prog) (fn := Try.f4) (s := Rows.chipCutsSpec) [23, 40, 45, 43] (by kernel_rfl) Try.laidOut rfl (by kernel_rfl) (by kernel_rfl) Try.ubool
    (fun ds hl => match ds, hl with | [d1, d2, d3, d4], _ => rfl) hval hW hsz ChipCuts_calls

theorem ChipCuts_holds : Rows.ChipCutsSaid :=
  OpenClaim.holds_of_wide 4 Try.f4 rfl rfl rfl rfl rfl rfl rfl ⟨rfl, rfl, rfl, rfl, rfl⟩ rfl rfl rfl rfl rfl (by kernel_rfl) Try.func4 (by kernel_rfl)
    (of_decide_eq_true (by kernel_rfl)) (by unfold Func.isWrapper; first | (rw [if_pos (by decide +kernel)]; kernel_rfl) | (rw [if_neg (by decide +kernel)]; exact ⟨rfl, rfl⟩))
    (fun os started H enc _ => ChipCuts_lifted os started H enc)

end Go.Proofs.Ytamfkofcpoglnaa
