/-
  No cell of these rows narrows 'for every input' (looked for: loops, veiled, ifaces, maps, wideKeys, modest, calm, conditions, laid).
  DERIVED. THE GIVEN ROWS OF THIS SEAT. 12 by the template 'for every input the law returns true; each argument reads behind the call as it read before'; 0 by the template 'total and deterministic' (their statements: YtamfkofcpoglnaaTotals.lean).
  GIVEN WITH THE SEED: the statements are not yours to turn. If you find one false, say at which input.
  Laid BY PROGRAM, IN A SANDBOX (cutbox-rows.mjs): the forced cells as the released guide's own fill.sh prints them over the translation 49a15098a8e8d6e1… (all of the seat's roots in one cut). By AI agents, Wed Nov 11 2026. No macro, syntax, notation, axiom, sorry.
-/
import Derived.Test.YtamfkofcpoglnaaChecked
import GoSem.Claim
import GoSem.ClaimJoined
import GoSem.ClaimMapViews
import Derived.JoinedTies
import Derived.KernelRfl
namespace Go.Proofs.Ytamfkofcpoglnaa
/- THE CELL 'sum', in the pinned program and in every row, IS THE sha256 OF THE DUMP (.gsa) THAT YtamfkofcpoglnaaProg.lean LOADS. Nothing in Lean hashes anything: it is a label: what it is worth is what the hold of that sum in a sandbox is worth. -/
noncomputable def Try.pinned : Pinned := { name := "ytamfkofcpoglnaa", sum := "49a15098a8e8d6e19230012bbd8f4913e529ed2c96501c8139078a9ee3068b16", checked := Try.checked }
namespace Rows
def none {H : Type} : Left H := { results := [], args := [] }

/-- 'portcullislaw04.ChipDoes': WHATEVER THE INPUT: true; the input reads as it did. -/
def chipDoesSpec : ChangeSpec := { name := "chipDoes", fn := fun _ => fun
  | [d1, d2] => { results := [.lit (.bool true)], args := [d1, d2] }
  | _ => none }
def chipDoesRow : OpenClaim := { program := "ytamfkofcpoglnaa", sum := "49a15098a8e8d6e19230012bbd8f4913e529ed2c96501c8139078a9ee3068b16", func := "portcullis/portcullislaw04.ChipDoes", spec := "chipDoes", unfollowed := true, recurses := true, apart := false }
def ChipDoesSaid : Prop := chipDoesRow.holds Try.pinned (OpenSpec.ofChange chipDoesSpec)

/-- ITS FALSE NEIGHBOUR: 'it returns false'. Refute it at one input. -/
def chipDoesWrong : ChangeSpec := { name := "chipDoes", fn := fun _ => fun
  | [d1, d2] => { results := [.lit (.bool false)], args := [d1, d2] }
  | _ => none }
def ChipDoesWrongFalsely : Prop := chipDoesRow.holds Try.pinned (OpenSpec.ofChange chipDoesWrong)

/-- 'portcullislaw04.ChipCuts': WHATEVER THE INPUT: true; the input reads as it did. -/
def chipCutsSpec : ChangeSpec := { name := "chipCuts", fn := fun _ => fun
  | [d1, d2, d3, d4] => { results := [.lit (.bool true)], args := [d1, d2, d3, d4] }
  | _ => none }
def chipCutsRow : OpenClaim := { program := "ytamfkofcpoglnaa", sum := "49a15098a8e8d6e19230012bbd8f4913e529ed2c96501c8139078a9ee3068b16", func := "portcullis/portcullislaw04.ChipCuts", spec := "chipCuts", unfollowed := true, recurses := true, apart := false }
def ChipCutsSaid : Prop := chipCutsRow.holds Try.pinned (OpenSpec.ofChange chipCutsSpec)

/-- ITS FALSE NEIGHBOUR: 'it returns false'. Refute it at one input. -/
def chipCutsWrong : ChangeSpec := { name := "chipCuts", fn := fun _ => fun
  | [d1, d2, d3, d4] => { results := [.lit (.bool false)], args := [d1, d2, d3, d4] }
  | _ => none }
def ChipCutsWrongFalsely : Prop := chipCutsRow.holds Try.pinned (OpenSpec.ofChange chipCutsWrong)

/-- 'portcullislaw04.ChipLays': WHATEVER THE INPUT: true; the input reads as it did. -/
def chipLaysSpec : ChangeSpec := { name := "chipLays", fn := fun _ => fun
  | [d1, d2, d3] => { results := [.lit (.bool true)], args := [d1, d2, d3] }
  | _ => none }
def chipLaysRow : OpenClaim := { program := "ytamfkofcpoglnaa", sum := "49a15098a8e8d6e19230012bbd8f4913e529ed2c96501c8139078a9ee3068b16", func := "portcullis/portcullislaw04.ChipLays", spec := "chipLays", unfollowed := true, recurses := true, apart := false }
def ChipLaysSaid : Prop := chipLaysRow.holds Try.pinned (OpenSpec.ofChange chipLaysSpec)

/-- ITS FALSE NEIGHBOUR: 'it returns false'. Refute it at one input. -/
def chipLaysWrong : ChangeSpec := { name := "chipLays", fn := fun _ => fun
  | [d1, d2, d3] => { results := [.lit (.bool false)], args := [d1, d2, d3] }
  | _ => none }
def ChipLaysWrongFalsely : Prop := chipLaysRow.holds Try.pinned (OpenSpec.ofChange chipLaysWrong)

/-- 'portcullislaw07.FuseDoes': WHATEVER THE INPUT: true; the input reads as it did. -/
def fuseDoesSpec : ChangeSpec := { name := "fuseDoes", fn := fun _ => fun
  | [d1, d2, d3] => { results := [.lit (.bool true)], args := [d1, d2, d3] }
  | _ => none }
def fuseDoesRow : OpenClaim := { program := "ytamfkofcpoglnaa", sum := "49a15098a8e8d6e19230012bbd8f4913e529ed2c96501c8139078a9ee3068b16", func := "portcullis/portcullislaw07.FuseDoes", spec := "fuseDoes", unfollowed := true, recurses := true, apart := false }
def FuseDoesSaid : Prop := fuseDoesRow.holds Try.pinned (OpenSpec.ofChange fuseDoesSpec)

/-- ITS FALSE NEIGHBOUR: 'it returns false'. Refute it at one input. -/
def fuseDoesWrong : ChangeSpec := { name := "fuseDoes", fn := fun _ => fun
  | [d1, d2, d3] => { results := [.lit (.bool false)], args := [d1, d2, d3] }
  | _ => none }
def FuseDoesWrongFalsely : Prop := fuseDoesRow.holds Try.pinned (OpenSpec.ofChange fuseDoesWrong)

/-- 'portcullislaw07.FuseRises': WHATEVER THE INPUT: true; the input reads as it did. -/
def fuseRisesSpec : ChangeSpec := { name := "fuseRises", fn := fun _ => fun
  | [d1, d2, d3, d4, d5, d6] => { results := [.lit (.bool true)], args := [d1, d2, d3, d4, d5, d6] }
  | _ => none }
def fuseRisesRow : OpenClaim := { program := "ytamfkofcpoglnaa", sum := "49a15098a8e8d6e19230012bbd8f4913e529ed2c96501c8139078a9ee3068b16", func := "portcullis/portcullislaw07.FuseRises", spec := "fuseRises", unfollowed := true, recurses := true, apart := false }
def FuseRisesSaid : Prop := fuseRisesRow.holds Try.pinned (OpenSpec.ofChange fuseRisesSpec)

/-- ITS FALSE NEIGHBOUR: 'it returns false'. Refute it at one input. -/
def fuseRisesWrong : ChangeSpec := { name := "fuseRises", fn := fun _ => fun
  | [d1, d2, d3, d4, d5, d6] => { results := [.lit (.bool false)], args := [d1, d2, d3, d4, d5, d6] }
  | _ => none }
def FuseRisesWrongFalsely : Prop := fuseRisesRow.holds Try.pinned (OpenSpec.ofChange fuseRisesWrong)

/-- 'portcullislaw08.PageLooks': WHATEVER THE INPUT: true; the input reads as it did. -/
def pageLooksSpec : ChangeSpec := { name := "pageLooks", fn := fun _ => fun
  | [d1, d2] => { results := [.lit (.bool true)], args := [d1, d2] }
  | _ => none }
def pageLooksRow : OpenClaim := { program := "ytamfkofcpoglnaa", sum := "49a15098a8e8d6e19230012bbd8f4913e529ed2c96501c8139078a9ee3068b16", func := "portcullis/portcullislaw08.PageLooks", spec := "pageLooks", unfollowed := true, recurses := true, apart := false }
def PageLooksSaid : Prop := pageLooksRow.holds Try.pinned (OpenSpec.ofChange pageLooksSpec)

/-- ITS FALSE NEIGHBOUR: 'it returns false'. Refute it at one input. -/
def pageLooksWrong : ChangeSpec := { name := "pageLooks", fn := fun _ => fun
  | [d1, d2] => { results := [.lit (.bool false)], args := [d1, d2] }
  | _ => none }
def PageLooksWrongFalsely : Prop := pageLooksRow.holds Try.pinned (OpenSpec.ofChange pageLooksWrong)

/-- 'portcullislaw08.PageHalf': WHATEVER THE INPUT: true; the input reads as it did. -/
def pageHalfSpec : ChangeSpec := { name := "pageHalf", fn := fun _ => fun
  | [d1, d2, d3, d4, d5, d6, d7, d8, d9] => { results := [.lit (.bool true)], args := [d1, d2, d3, d4, d5, d6, d7, d8, d9] }
  | _ => none }
def pageHalfRow : OpenClaim := { program := "ytamfkofcpoglnaa", sum := "49a15098a8e8d6e19230012bbd8f4913e529ed2c96501c8139078a9ee3068b16", func := "portcullis/portcullislaw08.PageHalf", spec := "pageHalf", unfollowed := true, recurses := true, apart := false }
def PageHalfSaid : Prop := pageHalfRow.holds Try.pinned (OpenSpec.ofChange pageHalfSpec)

/-- ITS FALSE NEIGHBOUR: 'it returns false'. Refute it at one input. -/
def pageHalfWrong : ChangeSpec := { name := "pageHalf", fn := fun _ => fun
  | [d1, d2, d3, d4, d5, d6, d7, d8, d9] => { results := [.lit (.bool false)], args := [d1, d2, d3, d4, d5, d6, d7, d8, d9] }
  | _ => none }
def PageHalfWrongFalsely : Prop := pageHalfRow.holds Try.pinned (OpenSpec.ofChange pageHalfWrong)

/-- 'portcullislaw20.WearNames': WHATEVER THE INPUT: true; the input reads as it did. -/
def wearNamesSpec : ChangeSpec := { name := "wearNames", fn := fun _ => fun
  | [] => { results := [.lit (.bool true)], args := [] }
  | _ => none }
def wearNamesRow : OpenClaim := { program := "ytamfkofcpoglnaa", sum := "49a15098a8e8d6e19230012bbd8f4913e529ed2c96501c8139078a9ee3068b16", func := "portcullis/portcullislaw20.WearNames", spec := "wearNames", unfollowed := true, recurses := true, apart := false }
def WearNamesSaid : Prop := wearNamesRow.holds Try.pinned (OpenSpec.ofChange wearNamesSpec)

/-- ITS FALSE NEIGHBOUR: 'it returns false'. Refute it at one input. -/
def wearNamesWrong : ChangeSpec := { name := "wearNames", fn := fun _ => fun
  | [] => { results := [.lit (.bool false)], args := [] }
  | _ => none }
def WearNamesWrongFalsely : Prop := wearNamesRow.holds Try.pinned (OpenSpec.ofChange wearNamesWrong)

/-- 'portcullislaw20.WearBudgets': WHATEVER THE INPUT: true; the input reads as it did. -/
def wearBudgetsSpec : ChangeSpec := { name := "wearBudgets", fn := fun _ => fun
  | [d1, d2, d3] => { results := [.lit (.bool true)], args := [d1, d2, d3] }
  | _ => none }
def wearBudgetsRow : OpenClaim := { program := "ytamfkofcpoglnaa", sum := "49a15098a8e8d6e19230012bbd8f4913e529ed2c96501c8139078a9ee3068b16", func := "portcullis/portcullislaw20.WearBudgets", spec := "wearBudgets", unfollowed := true, recurses := true, apart := false }
def WearBudgetsSaid : Prop := wearBudgetsRow.holds Try.pinned (OpenSpec.ofChange wearBudgetsSpec)

/-- ITS FALSE NEIGHBOUR: 'it returns false'. Refute it at one input. -/
def wearBudgetsWrong : ChangeSpec := { name := "wearBudgets", fn := fun _ => fun
  | [d1, d2, d3] => { results := [.lit (.bool false)], args := [d1, d2, d3] }
  | _ => none }
def WearBudgetsWrongFalsely : Prop := wearBudgetsRow.holds Try.pinned (OpenSpec.ofChange wearBudgetsWrong)

/-- 'portcullislaw14.AreaWrites': WHATEVER THE INPUT: true; the input reads as it did. -/
def areaWritesSpec : ChangeSpec := { name := "areaWrites", fn := fun _ => fun
  | [d1, d2, d3, d4, d5, d6] => { results := [.lit (.bool true)], args := [d1, d2, d3, d4, d5, d6] }
  | _ => none }
def areaWritesRow : OpenClaim := { program := "ytamfkofcpoglnaa", sum := "49a15098a8e8d6e19230012bbd8f4913e529ed2c96501c8139078a9ee3068b16", func := "portcullis/portcullislaw14.AreaWrites", spec := "areaWrites", unfollowed := true, recurses := true, apart := false }
def AreaWritesSaid : Prop := areaWritesRow.holds Try.pinned (OpenSpec.ofChange areaWritesSpec)

/-- ITS FALSE NEIGHBOUR: 'it returns false'. Refute it at one input. -/
def areaWritesWrong : ChangeSpec := { name := "areaWrites", fn := fun _ => fun
  | [d1, d2, d3, d4, d5, d6] => { results := [.lit (.bool false)], args := [d1, d2, d3, d4, d5, d6] }
  | _ => none }
def AreaWritesWrongFalsely : Prop := areaWritesRow.holds Try.pinned (OpenSpec.ofChange areaWritesWrong)

/-- 'portcullislaw14.AreaDoes': WHATEVER THE INPUT: true; the input reads as it did. -/
def areaDoesSpec : ChangeSpec := { name := "areaDoes", fn := fun _ => fun
  | [d1, d2, d3] => { results := [.lit (.bool true)], args := [d1, d2, d3] }
  | _ => none }
def areaDoesRow : OpenClaim := { program := "ytamfkofcpoglnaa", sum := "49a15098a8e8d6e19230012bbd8f4913e529ed2c96501c8139078a9ee3068b16", func := "portcullis/portcullislaw14.AreaDoes", spec := "areaDoes", unfollowed := true, recurses := true, apart := false }
def AreaDoesSaid : Prop := areaDoesRow.holds Try.pinned (OpenSpec.ofChange areaDoesSpec)

/-- ITS FALSE NEIGHBOUR: 'it returns false'. Refute it at one input. -/
def areaDoesWrong : ChangeSpec := { name := "areaDoes", fn := fun _ => fun
  | [d1, d2, d3] => { results := [.lit (.bool false)], args := [d1, d2, d3] }
  | _ => none }
def AreaDoesWrongFalsely : Prop := areaDoesRow.holds Try.pinned (OpenSpec.ofChange areaDoesWrong)

/-- 'portcullislaw20.WearReports': WHATEVER THE INPUT: true; the input reads as it did. -/
def wearReportsSpec : ChangeSpec := { name := "wearReports", fn := fun _ => fun
  | [d1, d2] => { results := [.lit (.bool true)], args := [d1, d2] }
  | _ => none }
def wearReportsRow : OpenClaim := { program := "ytamfkofcpoglnaa", sum := "49a15098a8e8d6e19230012bbd8f4913e529ed2c96501c8139078a9ee3068b16", func := "portcullis/portcullislaw20.WearReports", spec := "wearReports", unfollowed := true, recurses := true, apart := false }
def WearReportsSaid : Prop := wearReportsRow.holds Try.pinned (OpenSpec.ofChange wearReportsSpec)

/-- ITS FALSE NEIGHBOUR: 'it returns false'. Refute it at one input. -/
def wearReportsWrong : ChangeSpec := { name := "wearReports", fn := fun _ => fun
  | [d1, d2] => { results := [.lit (.bool false)], args := [d1, d2] }
  | _ => none }
def WearReportsWrongFalsely : Prop := wearReportsRow.holds Try.pinned (OpenSpec.ofChange wearReportsWrong)

/- THE SECOND FORM. 'bulk': how many values and letters a reading holds, each counted each time it is reached (what is shared counts as often as it is met; a slice's spare places count too). A statement '..UptoSaid' is the law's where the arguments, and the package variables that the reading takes, are together of bulk at most 1048576: NARROWER than '..Said'. Prove '..Said' where nothing that the law and all that it calls make is longer than what came in: it says more and counts as full. Else prove '..UptoSaid'. A law counts once. -/
mutual
def uptoBulk {H : Type} : DataW H → Nat
  | .lit (.string bytes) => bytes.length + 1
  | .lit _ => 1
  | .nil => 1
  | .ptr d => uptoBulk d + 1
  | .slice elems spare => uptoBulkAll elems + uptoBulkAll spare + 1
  | .agg parts => uptoBulkAll parts + 1
  | .iface _ d => uptoBulk d + 1
  | .map entries => uptoBulkEntries entries + 1
  | .held _ => 1
def uptoBulkAll {H : Type} : List (DataW H) → Nat
  | [] => 0
  | d :: r => uptoBulk d + uptoBulkAll r
def uptoBulkEntries {H : Type} : List (Lit × DataW H) → Nat
  | [] => 0
  | x :: r => uptoBulkEntry x + uptoBulkEntries r
def uptoBulkEntry {H : Type} : Lit × DataW H → Nat
  | (.string bytes, d) => bytes.length + uptoBulk d + 1
  | (_, d) => uptoBulk d + 1
 end
def uptoSmall : (H : Type) → List (DataW H) → Bool := fun _ ds => decide (uptoBulkAll ds ≤ 1048576)
def OpenSpec.upto (s : _root_.Go.ChangeSpec) : _root_.Go.OpenSpec := { _root_.Go.OpenSpec.ofChange s with cond := some uptoSmall }

/-- 'portcullislaw04.ChipDoes', WHERE WHAT IT READS IS OF BULK AT MOST 1048576: true; the input reads as it did. -/
def chipDoesUptoRow : OpenClaim := { program := "ytamfkofcpoglnaa", sum := "49a15098a8e8d6e19230012bbd8f4913e529ed2c96501c8139078a9ee3068b16", func := "portcullis/portcullislaw04.ChipDoes", spec := "chipDoes", unfollowed := true, recurses := true, apart := false, narrowed := true }
def ChipDoesUptoSaid : Prop := chipDoesUptoRow.holds Try.pinned (OpenSpec.upto chipDoesSpec)

/-- 'portcullislaw04.ChipCuts', WHERE WHAT IT READS IS OF BULK AT MOST 1048576: true; the input reads as it did. -/
def chipCutsUptoRow : OpenClaim := { program := "ytamfkofcpoglnaa", sum := "49a15098a8e8d6e19230012bbd8f4913e529ed2c96501c8139078a9ee3068b16", func := "portcullis/portcullislaw04.ChipCuts", spec := "chipCuts", unfollowed := true, recurses := true, apart := false, narrowed := true }
def ChipCutsUptoSaid : Prop := chipCutsUptoRow.holds Try.pinned (OpenSpec.upto chipCutsSpec)

/-- 'portcullislaw04.ChipLays', WHERE WHAT IT READS IS OF BULK AT MOST 1048576: true; the input reads as it did. -/
def chipLaysUptoRow : OpenClaim := { program := "ytamfkofcpoglnaa", sum := "49a15098a8e8d6e19230012bbd8f4913e529ed2c96501c8139078a9ee3068b16", func := "portcullis/portcullislaw04.ChipLays", spec := "chipLays", unfollowed := true, recurses := true, apart := false, narrowed := true }
def ChipLaysUptoSaid : Prop := chipLaysUptoRow.holds Try.pinned (OpenSpec.upto chipLaysSpec)

/-- 'portcullislaw07.FuseDoes', WHERE WHAT IT READS IS OF BULK AT MOST 1048576: true; the input reads as it did. -/
def fuseDoesUptoRow : OpenClaim := { program := "ytamfkofcpoglnaa", sum := "49a15098a8e8d6e19230012bbd8f4913e529ed2c96501c8139078a9ee3068b16", func := "portcullis/portcullislaw07.FuseDoes", spec := "fuseDoes", unfollowed := true, recurses := true, apart := false, narrowed := true }
def FuseDoesUptoSaid : Prop := fuseDoesUptoRow.holds Try.pinned (OpenSpec.upto fuseDoesSpec)

/-- 'portcullislaw07.FuseRises', WHERE WHAT IT READS IS OF BULK AT MOST 1048576: true; the input reads as it did. -/
def fuseRisesUptoRow : OpenClaim := { program := "ytamfkofcpoglnaa", sum := "49a15098a8e8d6e19230012bbd8f4913e529ed2c96501c8139078a9ee3068b16", func := "portcullis/portcullislaw07.FuseRises", spec := "fuseRises", unfollowed := true, recurses := true, apart := false, narrowed := true }
def FuseRisesUptoSaid : Prop := fuseRisesUptoRow.holds Try.pinned (OpenSpec.upto fuseRisesSpec)

/-- 'portcullislaw08.PageLooks', WHERE WHAT IT READS IS OF BULK AT MOST 1048576: true; the input reads as it did. -/
def pageLooksUptoRow : OpenClaim := { program := "ytamfkofcpoglnaa", sum := "49a15098a8e8d6e19230012bbd8f4913e529ed2c96501c8139078a9ee3068b16", func := "portcullis/portcullislaw08.PageLooks", spec := "pageLooks", unfollowed := true, recurses := true, apart := false, narrowed := true }
def PageLooksUptoSaid : Prop := pageLooksUptoRow.holds Try.pinned (OpenSpec.upto pageLooksSpec)

/-- 'portcullislaw08.PageHalf', WHERE WHAT IT READS IS OF BULK AT MOST 1048576: true; the input reads as it did. -/
def pageHalfUptoRow : OpenClaim := { program := "ytamfkofcpoglnaa", sum := "49a15098a8e8d6e19230012bbd8f4913e529ed2c96501c8139078a9ee3068b16", func := "portcullis/portcullislaw08.PageHalf", spec := "pageHalf", unfollowed := true, recurses := true, apart := false, narrowed := true }
def PageHalfUptoSaid : Prop := pageHalfUptoRow.holds Try.pinned (OpenSpec.upto pageHalfSpec)

/-- 'portcullislaw20.WearNames', WHERE WHAT IT READS IS OF BULK AT MOST 1048576: true; the input reads as it did. -/
def wearNamesUptoRow : OpenClaim := { program := "ytamfkofcpoglnaa", sum := "49a15098a8e8d6e19230012bbd8f4913e529ed2c96501c8139078a9ee3068b16", func := "portcullis/portcullislaw20.WearNames", spec := "wearNames", unfollowed := true, recurses := true, apart := false, narrowed := true }
def WearNamesUptoSaid : Prop := wearNamesUptoRow.holds Try.pinned (OpenSpec.upto wearNamesSpec)

/-- 'portcullislaw20.WearBudgets', WHERE WHAT IT READS IS OF BULK AT MOST 1048576: true; the input reads as it did. -/
def wearBudgetsUptoRow : OpenClaim := { program := "ytamfkofcpoglnaa", sum := "49a15098a8e8d6e19230012bbd8f4913e529ed2c96501c8139078a9ee3068b16", func := "portcullis/portcullislaw20.WearBudgets", spec := "wearBudgets", unfollowed := true, recurses := true, apart := false, narrowed := true }
def WearBudgetsUptoSaid : Prop := wearBudgetsUptoRow.holds Try.pinned (OpenSpec.upto wearBudgetsSpec)

/-- 'portcullislaw14.AreaWrites', WHERE WHAT IT READS IS OF BULK AT MOST 1048576: true; the input reads as it did. -/
def areaWritesUptoRow : OpenClaim := { program := "ytamfkofcpoglnaa", sum := "49a15098a8e8d6e19230012bbd8f4913e529ed2c96501c8139078a9ee3068b16", func := "portcullis/portcullislaw14.AreaWrites", spec := "areaWrites", unfollowed := true, recurses := true, apart := false, narrowed := true }
def AreaWritesUptoSaid : Prop := areaWritesUptoRow.holds Try.pinned (OpenSpec.upto areaWritesSpec)

/-- 'portcullislaw14.AreaDoes', WHERE WHAT IT READS IS OF BULK AT MOST 1048576: true; the input reads as it did. -/
def areaDoesUptoRow : OpenClaim := { program := "ytamfkofcpoglnaa", sum := "49a15098a8e8d6e19230012bbd8f4913e529ed2c96501c8139078a9ee3068b16", func := "portcullis/portcullislaw14.AreaDoes", spec := "areaDoes", unfollowed := true, recurses := true, apart := false, narrowed := true }
def AreaDoesUptoSaid : Prop := areaDoesUptoRow.holds Try.pinned (OpenSpec.upto areaDoesSpec)

/-- 'portcullislaw20.WearReports', WHERE WHAT IT READS IS OF BULK AT MOST 1048576: true; the input reads as it did. -/
def wearReportsUptoRow : OpenClaim := { program := "ytamfkofcpoglnaa", sum := "49a15098a8e8d6e19230012bbd8f4913e529ed2c96501c8139078a9ee3068b16", func := "portcullis/portcullislaw20.WearReports", spec := "wearReports", unfollowed := true, recurses := true, apart := false, narrowed := true }
def WearReportsUptoSaid : Prop := wearReportsUptoRow.holds Try.pinned (OpenSpec.upto wearReportsSpec)

end Rows
end Go.Proofs.Ytamfkofcpoglnaa
