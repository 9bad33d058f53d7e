/- How scripts over chips came in. Own work. -/
import Derived.Test.YtamfkofcpoglnaaFa0
import Derived.Test.YtamfkofcpoglnaaAg
import Derived.Test.YtamfkofcpoglnaaLa4
set_option autoImplicit false
set_option linter.all false
set_option maxRecDepth 100000
set_option linter.unusedVariables false
namespace Go.Proofs.Ytamfkofcpoglnaa
open Go Go.Vc Go.ChangeShapes Go.WideShapes Go.ChangeAt Go.RowKit

theorem xStep04 : xsh PP 8 45 = some [.int .i64, .int .i64, .int .i64, .row .u8 32, .slc 5] := by kernel_rfl
theorem script_of {D : Type} {enc : TypeId × Value → D} {W : World} {p : Option Addr} {l c : Nat} (h : Sli enc PP W 45 p l c) : ∃ sc : List Stp, ScriptRd W.heap p l sc := by
  have hb : Try.prog.bytesOf 45 = 80 := by kernel_rfl
  have hc : Try.prog.cellsOf 45 = 36 := by kernel_rfl
  obtain ⟨ess, h1, h2, _, h4⟩ := h.els xStep04
  have hlc := h.1
  have hr := h.2.1
  rw [hb] at hr
  unfold reachBytes at hr
  have key : ∀ es, es ∈ ess → ∃ (s : Stp) (mp : Option Addr) (ml mc : Nat), s.ok ∧ es = .int .i64 s.kind :: .int .i64 s.a :: .int .i64 s.b :: (ints .u8 s.x ++ [.slice mp ml mc]) ∧ hsv W.heap mp 1 ml (ints .u8 s.mask) := by
    intro es hes
    obtain ⟨k, _, rfl, _, a, _, rfl, ha, b, _, rfl, _, x, _, rfl, hx, hxb, mp, ml, mc, _, rfl, hm, hr⟩ := (h2 es hes).2
    simp only [XM] at hr
    subst hr
    obtain ⟨ms, m1, m2, m3⟩ := bytes_of hm
    exact ⟨⟨k, a, b, x, ms⟩, mp, ml, mc, ⟨has_i64 ha, hx, m2, m3⟩, rfl, m1⟩
  have key2 : ∀ ess : List (List Value), (∀ es, es ∈ ess → ∃ (s : Stp) (mp : Option Addr) (ml mc : Nat), s.ok ∧ es = .int .i64 s.kind :: .int .i64 s.a :: .int .i64 s.b :: (ints .u8 s.x ++ [.slice mp ml mc]) ∧ hsv W.heap mp 1 ml (ints .u8 s.mask)) →
      ∃ sc : List Stp, sc.length = ess.length ∧ ∀ i (hi : i < sc.length) (hi2 : i < ess.length), ∃ (mp : Option Addr) (ml mc : Nat), sc[i].ok ∧ ess[i] = .int .i64 sc[i].kind :: .int .i64 sc[i].a :: .int .i64 sc[i].b :: (ints .u8 sc[i].x ++ [.slice mp ml mc]) ∧ hsv W.heap mp 1 ml (ints .u8 sc[i].mask) := by
    intro ess
    induction ess with
    | nil => intro _; exact ⟨[], rfl, fun i hi => by simp at hi⟩
    | cons y r ih =>
      intro h
      obtain ⟨sc, e1, e2⟩ := ih fun es hes => h es (by simp [hes])
      obtain ⟨s, hs⟩ := h y (by simp)
      refine ⟨s :: sc, by simp [e1], ?_⟩
      intro i hi hi2
      cases i with
      | zero => exact hs
      | succ i => exact e2 i (by simpa using hi) (by simpa using hi2)
  obtain ⟨sc, e1, e2⟩ := key2 ess key
  refine ⟨sc, by omega, by omega, ?_⟩
  intro i hi
  obtain ⟨mp, ml, mc, ok, e3, e4⟩ := e2 i hi (by omega)
  obtain ⟨q, hq, hc2⟩ := h4 i (by omega)
  rw [hc, e3] at hc2
  have hx := ok.x
  have hxl : (ints .u8 sc[i].x).length = 32 := by simpa using hx
  refine ⟨q, mp, ml, mc, hq, ?_, ?_, ?_, ?_, ?_, e4, ok⟩
  · have := hc2 0 _ rfl; simpa [Addr.add] using this
  · exact hc2 1 _ rfl
  · exact hc2 2 _ rfl
  · intro j v hj
    have hjl : j < 32 := by have := (List.getElem?_eq_some_iff.1 hj).1; omega
    have : ((q.add (i * 36)).add 3).add j = (q.add (i * 36)).add (3 + j) := by
      cases q with | mk b o sp => unfold Addr.add; by_cases h1 : i * 36 = 0 <;> by_cases h2 : j = 0 <;> simp [h1, h2, Nat.add_assoc]
    rw [this]
    refine hc2 (3 + j) v ?_
    rw [show 3 + j = j + 1 + 1 + 1 by omega]
    simp only [List.getElem?_cons_succ]
    rw [List.getElem?_append_left (by omega)]
    exact hj
  · refine hc2 35 _ ?_
    simp [hxl]

end Go.Proofs.Ytamfkofcpoglnaa
