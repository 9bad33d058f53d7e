/-
  NARROWER THAN 'FOR EVERY INPUT', by the rows' own cells (each row's printed sentence says how): StreamPieces: laid · RomGate: laid · StreamDoes: laid · LoaderWhole: laid · LoaderDoes: laid · RomDoes: laid.
  DERIVED. THE GIVEN ROWS OF THIS SEAT. 6 by the template 'for every input the law returns true; each argument reads behind the call as it read before'; 0 by the template 'total and deterministic' (their statements: YteedolonhdbieaaGreatDoorTotals.lean).
  GIVEN WITH THE SEED: the statements are not yours to turn. If you find one false, say at which input.
  Laid BY PROGRAM, IN A SANDBOX (cutbox-rows.mjs): the forced cells as the released guide's own fill.sh prints them over the translation 13ee59f2ba772a66… (all of the seat's roots in one cut). By AI agents, Wed Nov 11 2026. No macro, syntax, notation, axiom, sorry.
-/
import Derived.Test.YteedolonhdbieaaGreatDoorChecked
import GoSem.Claim
import GoSem.ClaimJoined
import GoSem.ClaimMapViews
import Derived.JoinedTies
import Derived.KernelRfl
namespace Go.Proofs.YteedolonhdbieaaGreatDoor
/- THE CELL 'sum', in the pinned program and in every row, IS THE sha256 OF THE DUMP (.gsa) THAT YteedolonhdbieaaGreatDoorProg.lean LOADS. Nothing in Lean hashes anything: it is a label: what it is worth is what the hold of that sum in a sandbox is worth. -/
noncomputable def Tryz.pinned : Pinned := { name := "yteedolonhdbieaagreatdoor", sum := "13ee59f2ba772a664fbbe1688f99d73519cb9b6ff648e4752f79426b9e98047c", checked := Tryz.checked }
namespace Rows
def none {H : Type} : Left H := { results := [], args := [] }

/- WHAT THE LISTED PACKAGE-LEVEL VARIABLES READ AS WHEN THE CALL BEGINS. Each datum BY PROGRAM (the guide's laid-datum.mjs) off the statement by which the dump's own 'gosem.cut.vars' lays the variable. In a bare row this is a premise. The card (YteedolonhdbieaaGreatDoorCards.lean) ties it to the program's text. -/
def laid_errors_errorType {H : Type} : DataW H := .iface "internal/reflectlite.rtype" (.agg [.ptr (.lit (.string [101, 114, 114, 111, 114]))])

/-- 'portcullislaw26.StreamPieces': WHATEVER THE INPUT: true; the input reads as it did. -/
def streamPiecesSpec : ChangeSpec := { name := "streamPieces", fn := fun _ => fun
  | [d1, d2, d3, d4, d5, d6] => { results := [.lit (.bool true)], args := [d1, d2, d3, d4, d5, d6] }
  | _ => none }
def streamPiecesRow : OpenClaim := { program := "yteedolonhdbieaagreatdoor", sum := "13ee59f2ba772a664fbbe1688f99d73519cb9b6ff648e4752f79426b9e98047c", func := "portcullis/portcullislaw26.StreamPieces", spec := "streamPieces", inPlace := ["internal/reflectlite.TypeOf", "internal/reflectlite.ValueOf", "(internal/reflectlite.Value).Type", "(internal/reflectlite.Value).IsNil", "(internal/reflectlite.Value).Elem", "(internal/reflectlite.Value).Set"], unfollowed := true, recurses := true, named := ["errors.errorType"], apart := false, laid := [("errors.errorType", laid_errors_errorType)] }
def StreamPiecesSaid : Prop := streamPiecesRow.holds Tryz.pinned (OpenSpec.ofChange streamPiecesSpec)

/-- ITS FALSE NEIGHBOUR: 'it returns false'. Refute it at one input. -/
def streamPiecesWrong : ChangeSpec := { name := "streamPieces", fn := fun _ => fun
  | [d1, d2, d3, d4, d5, d6] => { results := [.lit (.bool false)], args := [d1, d2, d3, d4, d5, d6] }
  | _ => none }
def StreamPiecesWrongFalsely : Prop := streamPiecesRow.holds Tryz.pinned (OpenSpec.ofChange streamPiecesWrong)

/-- 'portcullislaw17.RomGate': WHATEVER THE INPUT: true; the input reads as it did. -/
def romGateSpec : ChangeSpec := { name := "romGate", fn := fun _ => fun
  | [d1, d2, d3, d4, d5] => { results := [.lit (.bool true)], args := [d1, d2, d3, d4, d5] }
  | _ => none }
def romGateRow : OpenClaim := { program := "yteedolonhdbieaagreatdoor", sum := "13ee59f2ba772a664fbbe1688f99d73519cb9b6ff648e4752f79426b9e98047c", func := "portcullis/portcullislaw17.RomGate", spec := "romGate", inPlace := ["internal/reflectlite.ValueOf", "(internal/reflectlite.Value).Type", "(internal/reflectlite.Value).IsNil", "internal/reflectlite.TypeOf", "(internal/reflectlite.Value).Elem", "(internal/reflectlite.Value).Set"], unfollowed := true, recurses := true, named := ["errors.errorType"], apart := false, laid := [("errors.errorType", laid_errors_errorType)] }
def RomGateSaid : Prop := romGateRow.holds Tryz.pinned (OpenSpec.ofChange romGateSpec)

/-- ITS FALSE NEIGHBOUR: 'it returns false'. Refute it at one input. -/
def romGateWrong : ChangeSpec := { name := "romGate", fn := fun _ => fun
  | [d1, d2, d3, d4, d5] => { results := [.lit (.bool false)], args := [d1, d2, d3, d4, d5] }
  | _ => none }
def RomGateWrongFalsely : Prop := romGateRow.holds Tryz.pinned (OpenSpec.ofChange romGateWrong)

/-- 'portcullislaw26.StreamDoes': WHATEVER THE INPUT: true; the input reads as it did. -/
def streamDoesSpec : ChangeSpec := { name := "streamDoes", fn := fun _ => fun
  | [d1, d2, d3] => { results := [.lit (.bool true)], args := [d1, d2, d3] }
  | _ => none }
def streamDoesRow : OpenClaim := { program := "yteedolonhdbieaagreatdoor", sum := "13ee59f2ba772a664fbbe1688f99d73519cb9b6ff648e4752f79426b9e98047c", func := "portcullis/portcullislaw26.StreamDoes", spec := "streamDoes", inPlace := ["internal/reflectlite.TypeOf", "internal/reflectlite.ValueOf", "(internal/reflectlite.Value).Type", "(internal/reflectlite.Value).IsNil", "(internal/reflectlite.Value).Elem", "(internal/reflectlite.Value).Set"], unfollowed := true, recurses := true, named := ["errors.errorType"], apart := false, laid := [("errors.errorType", laid_errors_errorType)] }
def StreamDoesSaid : Prop := streamDoesRow.holds Tryz.pinned (OpenSpec.ofChange streamDoesSpec)

/-- ITS FALSE NEIGHBOUR: 'it returns false'. Refute it at one input. -/
def streamDoesWrong : ChangeSpec := { name := "streamDoes", fn := fun _ => fun
  | [d1, d2, d3] => { results := [.lit (.bool false)], args := [d1, d2, d3] }
  | _ => none }
def StreamDoesWrongFalsely : Prop := streamDoesRow.holds Tryz.pinned (OpenSpec.ofChange streamDoesWrong)

/-- 'portcullislaw15.LoaderWhole': WHATEVER THE INPUT: true; the input reads as it did. -/
def loaderWholeSpec : ChangeSpec := { name := "loaderWhole", fn := fun _ => fun
  | [d1, d2, d3] => { results := [.lit (.bool true)], args := [d1, d2, d3] }
  | _ => none }
def loaderWholeRow : OpenClaim := { program := "yteedolonhdbieaagreatdoor", sum := "13ee59f2ba772a664fbbe1688f99d73519cb9b6ff648e4752f79426b9e98047c", func := "portcullis/portcullislaw15.LoaderWhole", spec := "loaderWhole", inPlace := ["internal/reflectlite.ValueOf", "(internal/reflectlite.Value).Type", "(internal/reflectlite.Value).IsNil", "internal/reflectlite.TypeOf", "(internal/reflectlite.Value).Elem", "(internal/reflectlite.Value).Set"], unfollowed := true, recurses := true, named := ["errors.errorType"], apart := false, laid := [("errors.errorType", laid_errors_errorType)] }
def LoaderWholeSaid : Prop := loaderWholeRow.holds Tryz.pinned (OpenSpec.ofChange loaderWholeSpec)

/-- ITS FALSE NEIGHBOUR: 'it returns false'. Refute it at one input. -/
def loaderWholeWrong : ChangeSpec := { name := "loaderWhole", fn := fun _ => fun
  | [d1, d2, d3] => { results := [.lit (.bool false)], args := [d1, d2, d3] }
  | _ => none }
def LoaderWholeWrongFalsely : Prop := loaderWholeRow.holds Tryz.pinned (OpenSpec.ofChange loaderWholeWrong)

/-- 'portcullislaw15.LoaderDoes': WHATEVER THE INPUT: true; the input reads as it did. -/
def loaderDoesSpec : ChangeSpec := { name := "loaderDoes", fn := fun _ => fun
  | [d1, d2, d3, d4] => { results := [.lit (.bool true)], args := [d1, d2, d3, d4] }
  | _ => none }
def loaderDoesRow : OpenClaim := { program := "yteedolonhdbieaagreatdoor", sum := "13ee59f2ba772a664fbbe1688f99d73519cb9b6ff648e4752f79426b9e98047c", func := "portcullis/portcullislaw15.LoaderDoes", spec := "loaderDoes", inPlace := ["internal/reflectlite.ValueOf", "(internal/reflectlite.Value).Type", "(internal/reflectlite.Value).IsNil", "internal/reflectlite.TypeOf", "(internal/reflectlite.Value).Elem", "(internal/reflectlite.Value).Set"], unfollowed := true, recurses := true, named := ["errors.errorType"], apart := false, laid := [("errors.errorType", laid_errors_errorType)] }
def LoaderDoesSaid : Prop := loaderDoesRow.holds Tryz.pinned (OpenSpec.ofChange loaderDoesSpec)

/-- ITS FALSE NEIGHBOUR: 'it returns false'. Refute it at one input. -/
def loaderDoesWrong : ChangeSpec := { name := "loaderDoes", fn := fun _ => fun
  | [d1, d2, d3, d4] => { results := [.lit (.bool false)], args := [d1, d2, d3, d4] }
  | _ => none }
def LoaderDoesWrongFalsely : Prop := loaderDoesRow.holds Tryz.pinned (OpenSpec.ofChange loaderDoesWrong)

/-- 'portcullislaw17.RomDoes': WHATEVER THE INPUT: true; the input reads as it did. -/
def romDoesSpec : ChangeSpec := { name := "romDoes", fn := fun _ => fun
  | [d1, d2, d3, d4, d5] => { results := [.lit (.bool true)], args := [d1, d2, d3, d4, d5] }
  | _ => none }
def romDoesRow : OpenClaim := { program := "yteedolonhdbieaagreatdoor", sum := "13ee59f2ba772a664fbbe1688f99d73519cb9b6ff648e4752f79426b9e98047c", func := "portcullis/portcullislaw17.RomDoes", spec := "romDoes", inPlace := ["internal/reflectlite.ValueOf", "(internal/reflectlite.Value).Type", "(internal/reflectlite.Value).IsNil", "internal/reflectlite.TypeOf", "(internal/reflectlite.Value).Elem", "(internal/reflectlite.Value).Set"], unfollowed := true, recurses := true, named := ["errors.errorType"], apart := false, laid := [("errors.errorType", laid_errors_errorType)] }
def RomDoesSaid : Prop := romDoesRow.holds Tryz.pinned (OpenSpec.ofChange romDoesSpec)

/-- ITS FALSE NEIGHBOUR: 'it returns false'. Refute it at one input. -/
def romDoesWrong : ChangeSpec := { name := "romDoes", fn := fun _ => fun
  | [d1, d2, d3, d4, d5] => { results := [.lit (.bool false)], args := [d1, d2, d3, d4, d5] }
  | _ => none }
def RomDoesWrongFalsely : Prop := romDoesRow.holds Tryz.pinned (OpenSpec.ofChange romDoesWrong)

/- THE SECOND FORM. 'bulk': how many values and letters a reading holds, each counted each time it is reached (what is shared counts as often as it is met; a slice's spare places count too). A statement '..UptoSaid' is the law's where the arguments, and the package variables that the reading takes, are together of bulk at most 1048576: NARROWER than '..Said'. Prove '..Said' where nothing that the law and all that it calls make is longer than what came in: it says more and counts as full. Else prove '..UptoSaid'. A law counts once. -/
mutual
def uptoBulk {H : Type} : DataW H → Nat
  | .lit (.string bytes) => bytes.length + 1
  | .lit _ => 1
  | .nil => 1
  | .ptr d => uptoBulk d + 1
  | .slice elems spare => uptoBulkAll elems + uptoBulkAll spare + 1
  | .agg parts => uptoBulkAll parts + 1
  | .iface _ d => uptoBulk d + 1
  | .map entries => uptoBulkEntries entries + 1
  | .held _ => 1
def uptoBulkAll {H : Type} : List (DataW H) → Nat
  | [] => 0
  | d :: r => uptoBulk d + uptoBulkAll r
def uptoBulkEntries {H : Type} : List (Lit × DataW H) → Nat
  | [] => 0
  | x :: r => uptoBulkEntry x + uptoBulkEntries r
def uptoBulkEntry {H : Type} : Lit × DataW H → Nat
  | (.string bytes, d) => bytes.length + uptoBulk d + 1
  | (_, d) => uptoBulk d + 1
 end
def uptoSmall : (H : Type) → List (DataW H) → Bool := fun _ ds => decide (uptoBulkAll ds ≤ 1048576)
def OpenSpec.upto (s : _root_.Go.ChangeSpec) : _root_.Go.OpenSpec := { _root_.Go.OpenSpec.ofChange s with cond := some uptoSmall }

/-- 'portcullislaw26.StreamPieces', WHERE WHAT IT READS IS OF BULK AT MOST 1048576: true; the input reads as it did. -/
def streamPiecesUptoRow : OpenClaim := { program := "yteedolonhdbieaagreatdoor", sum := "13ee59f2ba772a664fbbe1688f99d73519cb9b6ff648e4752f79426b9e98047c", func := "portcullis/portcullislaw26.StreamPieces", spec := "streamPieces", inPlace := ["internal/reflectlite.TypeOf", "internal/reflectlite.ValueOf", "(internal/reflectlite.Value).Type", "(internal/reflectlite.Value).IsNil", "(internal/reflectlite.Value).Elem", "(internal/reflectlite.Value).Set"], unfollowed := true, recurses := true, named := ["errors.errorType"], apart := false, laid := [("errors.errorType", laid_errors_errorType)], narrowed := true }
def StreamPiecesUptoSaid : Prop := streamPiecesUptoRow.holds Tryz.pinned (OpenSpec.upto streamPiecesSpec)

/-- 'portcullislaw17.RomGate', WHERE WHAT IT READS IS OF BULK AT MOST 1048576: true; the input reads as it did. -/
def romGateUptoRow : OpenClaim := { program := "yteedolonhdbieaagreatdoor", sum := "13ee59f2ba772a664fbbe1688f99d73519cb9b6ff648e4752f79426b9e98047c", func := "portcullis/portcullislaw17.RomGate", spec := "romGate", inPlace := ["internal/reflectlite.ValueOf", "(internal/reflectlite.Value).Type", "(internal/reflectlite.Value).IsNil", "internal/reflectlite.TypeOf", "(internal/reflectlite.Value).Elem", "(internal/reflectlite.Value).Set"], unfollowed := true, recurses := true, named := ["errors.errorType"], apart := false, laid := [("errors.errorType", laid_errors_errorType)], narrowed := true }
def RomGateUptoSaid : Prop := romGateUptoRow.holds Tryz.pinned (OpenSpec.upto romGateSpec)

/-- 'portcullislaw26.StreamDoes', WHERE WHAT IT READS IS OF BULK AT MOST 1048576: true; the input reads as it did. -/
def streamDoesUptoRow : OpenClaim := { program := "yteedolonhdbieaagreatdoor", sum := "13ee59f2ba772a664fbbe1688f99d73519cb9b6ff648e4752f79426b9e98047c", func := "portcullis/portcullislaw26.StreamDoes", spec := "streamDoes", inPlace := ["internal/reflectlite.TypeOf", "internal/reflectlite.ValueOf", "(internal/reflectlite.Value).Type", "(internal/reflectlite.Value).IsNil", "(internal/reflectlite.Value).Elem", "(internal/reflectlite.Value).Set"], unfollowed := true, recurses := true, named := ["errors.errorType"], apart := false, laid := [("errors.errorType", laid_errors_errorType)], narrowed := true }
def StreamDoesUptoSaid : Prop := streamDoesUptoRow.holds Tryz.pinned (OpenSpec.upto streamDoesSpec)

/-- 'portcullislaw15.LoaderWhole', WHERE WHAT IT READS IS OF BULK AT MOST 1048576: true; the input reads as it did. -/
def loaderWholeUptoRow : OpenClaim := { program := "yteedolonhdbieaagreatdoor", sum := "13ee59f2ba772a664fbbe1688f99d73519cb9b6ff648e4752f79426b9e98047c", func := "portcullis/portcullislaw15.LoaderWhole", spec := "loaderWhole", inPlace := ["internal/reflectlite.ValueOf", "(internal/reflectlite.Value).Type", "(internal/reflectlite.Value).IsNil", "internal/reflectlite.TypeOf", "(internal/reflectlite.Value).Elem", "(internal/reflectlite.Value).Set"], unfollowed := true, recurses := true, named := ["errors.errorType"], apart := false, laid := [("errors.errorType", laid_errors_errorType)], narrowed := true }
def LoaderWholeUptoSaid : Prop := loaderWholeUptoRow.holds Tryz.pinned (OpenSpec.upto loaderWholeSpec)

/-- 'portcullislaw15.LoaderDoes', WHERE WHAT IT READS IS OF BULK AT MOST 1048576: true; the input reads as it did. -/
def loaderDoesUptoRow : OpenClaim := { program := "yteedolonhdbieaagreatdoor", sum := "13ee59f2ba772a664fbbe1688f99d73519cb9b6ff648e4752f79426b9e98047c", func := "portcullis/portcullislaw15.LoaderDoes", spec := "loaderDoes", inPlace := ["internal/reflectlite.ValueOf", "(internal/reflectlite.Value).Type", "(internal/reflectlite.Value).IsNil", "internal/reflectlite.TypeOf", "(internal/reflectlite.Value).Elem", "(internal/reflectlite.Value).Set"], unfollowed := true, recurses := true, named := ["errors.errorType"], apart := false, laid := [("errors.errorType", laid_errors_errorType)], narrowed := true }
def LoaderDoesUptoSaid : Prop := loaderDoesUptoRow.holds Tryz.pinned (OpenSpec.upto loaderDoesSpec)

/-- 'portcullislaw17.RomDoes', WHERE WHAT IT READS IS OF BULK AT MOST 1048576: true; the input reads as it did. -/
def romDoesUptoRow : OpenClaim := { program := "yteedolonhdbieaagreatdoor", sum := "13ee59f2ba772a664fbbe1688f99d73519cb9b6ff648e4752f79426b9e98047c", func := "portcullis/portcullislaw17.RomDoes", spec := "romDoes", inPlace := ["internal/reflectlite.ValueOf", "(internal/reflectlite.Value).Type", "(internal/reflectlite.Value).IsNil", "internal/reflectlite.TypeOf", "(internal/reflectlite.Value).Elem", "(internal/reflectlite.Value).Set"], unfollowed := true, recurses := true, named := ["errors.errorType"], apart := false, laid := [("errors.errorType", laid_errors_errorType)], narrowed := true }
def RomDoesUptoSaid : Prop := romDoesUptoRow.holds Tryz.pinned (OpenSpec.upto romDoesSpec)

end Rows
end Go.Proofs.YteedolonhdbieaaGreatDoor
