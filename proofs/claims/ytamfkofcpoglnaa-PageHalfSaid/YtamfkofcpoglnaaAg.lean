/- What arguments of the statements are. Own work. -/
import Derived.Test.YtamfkofcpoglnaaFa0
import Derived.Test.YtamfkofcpoglnaaRows
import Derived.Test.YtamfkofcpoglnaaRe
import Derived.Test.YtamfkofcpoglnaaCm
set_option autoImplicit false
set_option linter.all false
set_option maxRecDepth 100000
set_option linter.unusedVariables false
namespace Go.Proofs.Ytamfkofcpoglnaa
open Go Go.Vc Go.ChangeShapes Go.WideShapes Go.ChangeAt Go.RowKit

theorem Try.own : ownKnob Try.prog.godebug = none := by kernel_rfl
theorem Try.laidOut : laidOutB Try.prog = true := by kernel_rfl
theorem Try.ubool : Try.prog.underlying 4 = some .bool := by kernel_rfl
theorem xCfg : xsh PP 8 23 = some [.int .i64, .int .i64, .int .i64, .int .i64, .int .i64, .int .i64, .int .i64] := by kernel_rfl
theorem xByte : xsh PP 8 5 = some [.int .u8] := by kernel_rfl

section
variable {D : Type} {enc : TypeId × Value → D} {W : World}
theorem cfg_of {v : Value} {base : Nat} (h : Rdt enc PP W 23 v.cells.toList) (ho : Value.okWide PP W .any base 23 v) : ∃ c : Cfg, v = .agg c.vals.toArray := by
  have e := okw_agg (by kernel_rfl) ho
  obtain ⟨a1, r1, e1, _, a2, r2, rfl, _, a3, r3, rfl, _, a4, r4, rfl, _, a5, r5, rfl, _, a6, r6, rfl, _, a7, r7, rfl, _, hr⟩ := Rdt.xm 8 _ _ _ xCfg h
  simp only [XM] at hr
  subst hr
  refine ⟨⟨a1, a2, a3, a4, a5, a6, a7⟩, ?_⟩
  rw [e]
  congr 1
  rw [← Array.toArray_toList (xs := v.cells), e1]
  rfl
theorem bytes_of {p : Option Addr} {l c : Nat} (h : Sli enc PP W 5 p l c) : ∃ ns : List Int, hsv W.heap p 1 l (ints .u8 ns) ∧ bytesOk ns ∧ ns.length + 4096 ≤ 2 ^ 47 := by
  have hb : Try.prog.bytesOf 5 = 1 := by kernel_rfl
  have hc : Try.prog.cellsOf 5 = 1 := by kernel_rfl
  obtain ⟨ess, h1, h2, h3, _⟩ := h.els xByte
  have hlc := h.1
  have hr := h.2.1
  rw [hb] at hr
  rw [hc] at h3
  have key : ∀ ess : List (List Value), (∀ es, es ∈ ess → es.length = Try.prog.cellsOf 5 ∧ XM enc PP W [XSh.int .u8] es) → ∃ ns : List Int, ess.flatten = ints .u8 ns ∧ bytesOk ns := by
    intro ess
    induction ess with
    | nil => intro _; exact ⟨[], rfl, by intro n hn; simp at hn⟩
    | cons x r ih =>
      intro h
      obtain ⟨ns, e, hn⟩ := ih fun es hes => h es (by simp [hes])
      obtain ⟨n, rest, rfl, hh, hr⟩ := (h x (by simp)).2
      simp only [XM] at hr
      subst hr
      refine ⟨n :: ns, by simp [e], ?_⟩
      intro m hm
      rcases List.mem_cons.1 hm with rfl | hm
      · exact has_u8 hh
      · exact hn m hm
  obtain ⟨ns, e, hn⟩ := key ess h2
  rw [e] at h3
  have : ns.length = l := by have := h3.1; simpa using this
  refine ⟨ns, h3, hn, ?_⟩
  unfold reachBytes at hr
  omega
end
end Go.Proofs.Ytamfkofcpoglnaa
