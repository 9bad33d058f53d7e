/-
  No cell of these rows narrows 'for every input' (looked for: loops, veiled, ifaces, maps, wideKeys, modest, calm, conditions, laid).
  DERIVED. THE GIVEN ROWS OF THIS SEAT. 7 by the template 'for every input the law returns true; each argument reads behind the call as it read before'; 0 by the template 'total and deterministic' (their statements: YteabcbpimjjdpaaTotals.lean).
  GIVEN WITH THE SEED: the statements are not yours to turn. If you find one false, say at which input.
  Laid BY PROGRAM, IN A SANDBOX (cutbox-rows.mjs): the forced cells as the released guide's own fill.sh prints them over the translation 2efda2b9c1db3b67… (all of the seat's roots in one cut). By AI agents, Wed Nov 11 2026. No macro, syntax, notation, axiom, sorry.
-/
import Derived.Test.YteabcbpimjjdpaaChecked
import GoSem.Claim
import GoSem.ClaimJoined
import GoSem.ClaimMapViews
import Derived.JoinedTies
import Derived.KernelRfl
namespace Go.Proofs.Yteabcbpimjjdpaa
/- THE CELL 'sum', in the pinned program and in every row, IS THE sha256 OF THE DUMP (.gsa) THAT YteabcbpimjjdpaaProg.lean LOADS. Nothing in Lean hashes anything: it is a label: what it is worth is what the hold of that sum in a sandbox is worth. -/
noncomputable def Try.pinned : Pinned := { name := "yteabcbpimjjdpaa", sum := "2efda2b9c1db3b675b4b5c5083ef16f187365111d6917bcd6aa2f2b270ae3849", checked := Try.checked }
namespace Rows
def none {H : Type} : Left H := { results := [], args := [] }

/-- 'portcullislaw09.LogWears': WHATEVER THE INPUT: true; the input reads as it did. -/
def logWearsSpec : ChangeSpec := { name := "logWears", fn := fun _ => fun
  | [d1, d2] => { results := [.lit (.bool true)], args := [d1, d2] }
  | _ => none }
def logWearsRow : OpenClaim := { program := "yteabcbpimjjdpaa", sum := "2efda2b9c1db3b675b4b5c5083ef16f187365111d6917bcd6aa2f2b270ae3849", func := "portcullis/portcullislaw09.LogWears", spec := "logWears", unfollowed := true, recurses := true, apart := false }
def LogWearsSaid : Prop := logWearsRow.holds Try.pinned (OpenSpec.ofChange logWearsSpec)

/-- ITS FALSE NEIGHBOUR: 'it returns false'. Refute it at one input. -/
def logWearsWrong : ChangeSpec := { name := "logWears", fn := fun _ => fun
  | [d1, d2] => { results := [.lit (.bool false)], args := [d1, d2] }
  | _ => none }
def LogWearsWrongFalsely : Prop := logWearsRow.holds Try.pinned (OpenSpec.ofChange logWearsWrong)

/-- 'portcullislaw09.LogWhole': WHATEVER THE INPUT: true; the input reads as it did. -/
def logWholeSpec : ChangeSpec := { name := "logWhole", fn := fun _ => fun
  | [d1, d2, d3] => { results := [.lit (.bool true)], args := [d1, d2, d3] }
  | _ => none }
def logWholeRow : OpenClaim := { program := "yteabcbpimjjdpaa", sum := "2efda2b9c1db3b675b4b5c5083ef16f187365111d6917bcd6aa2f2b270ae3849", func := "portcullis/portcullislaw09.LogWhole", spec := "logWhole", unfollowed := true, recurses := true, apart := false }
def LogWholeSaid : Prop := logWholeRow.holds Try.pinned (OpenSpec.ofChange logWholeSpec)

/-- ITS FALSE NEIGHBOUR: 'it returns false'. Refute it at one input. -/
def logWholeWrong : ChangeSpec := { name := "logWhole", fn := fun _ => fun
  | [d1, d2, d3] => { results := [.lit (.bool false)], args := [d1, d2, d3] }
  | _ => none }
def LogWholeWrongFalsely : Prop := logWholeRow.holds Try.pinned (OpenSpec.ofChange logWholeWrong)

/-- 'portcullislaw20.WearLasts': WHATEVER THE INPUT: true; the input reads as it did. -/
def wearLastsSpec : ChangeSpec := { name := "wearLasts", fn := fun _ => fun
  | [d1, d2] => { results := [.lit (.bool true)], args := [d1, d2] }
  | _ => none }
def wearLastsRow : OpenClaim := { program := "yteabcbpimjjdpaa", sum := "2efda2b9c1db3b675b4b5c5083ef16f187365111d6917bcd6aa2f2b270ae3849", func := "portcullis/portcullislaw20.WearLasts", spec := "wearLasts", unfollowed := true, recurses := true, apart := false }
def WearLastsSaid : Prop := wearLastsRow.holds Try.pinned (OpenSpec.ofChange wearLastsSpec)

/-- ITS FALSE NEIGHBOUR: 'it returns false'. Refute it at one input. -/
def wearLastsWrong : ChangeSpec := { name := "wearLasts", fn := fun _ => fun
  | [d1, d2] => { results := [.lit (.bool false)], args := [d1, d2] }
  | _ => none }
def WearLastsWrongFalsely : Prop := wearLastsRow.holds Try.pinned (OpenSpec.ofChange wearLastsWrong)

/-- 'portcullislaw10.StoreNames': WHATEVER THE INPUT: true; the input reads as it did. -/
def storeNamesSpec : ChangeSpec := { name := "storeNames", fn := fun _ => fun
  | [] => { results := [.lit (.bool true)], args := [] }
  | _ => none }
def storeNamesRow : OpenClaim := { program := "yteabcbpimjjdpaa", sum := "2efda2b9c1db3b675b4b5c5083ef16f187365111d6917bcd6aa2f2b270ae3849", func := "portcullis/portcullislaw10.StoreNames", spec := "storeNames", unfollowed := true, recurses := true, apart := false }
def StoreNamesSaid : Prop := storeNamesRow.holds Try.pinned (OpenSpec.ofChange storeNamesSpec)

/-- ITS FALSE NEIGHBOUR: 'it returns false'. Refute it at one input. -/
def storeNamesWrong : ChangeSpec := { name := "storeNames", fn := fun _ => fun
  | [] => { results := [.lit (.bool false)], args := [] }
  | _ => none }
def StoreNamesWrongFalsely : Prop := storeNamesRow.holds Try.pinned (OpenSpec.ofChange storeNamesWrong)

/-- 'portcullislaw20.WearTurns': WHATEVER THE INPUT: true; the input reads as it did. -/
def wearTurnsSpec : ChangeSpec := { name := "wearTurns", fn := fun _ => fun
  | [d1, d2, d3] => { results := [.lit (.bool true)], args := [d1, d2, d3] }
  | _ => none }
def wearTurnsRow : OpenClaim := { program := "yteabcbpimjjdpaa", sum := "2efda2b9c1db3b675b4b5c5083ef16f187365111d6917bcd6aa2f2b270ae3849", func := "portcullis/portcullislaw20.WearTurns", spec := "wearTurns", unfollowed := true, recurses := true, apart := false }
def WearTurnsSaid : Prop := wearTurnsRow.holds Try.pinned (OpenSpec.ofChange wearTurnsSpec)

/-- ITS FALSE NEIGHBOUR: 'it returns false'. Refute it at one input. -/
def wearTurnsWrong : ChangeSpec := { name := "wearTurns", fn := fun _ => fun
  | [d1, d2, d3] => { results := [.lit (.bool false)], args := [d1, d2, d3] }
  | _ => none }
def WearTurnsWrongFalsely : Prop := wearTurnsRow.holds Try.pinned (OpenSpec.ofChange wearTurnsWrong)

/-- 'portcullislaw10.StoreNeverBack': WHATEVER THE INPUT: true; the input reads as it did. -/
def storeNeverBackSpec : ChangeSpec := { name := "storeNeverBack", fn := fun _ => fun
  | [d1, d2] => { results := [.lit (.bool true)], args := [d1, d2] }
  | _ => none }
def storeNeverBackRow : OpenClaim := { program := "yteabcbpimjjdpaa", sum := "2efda2b9c1db3b675b4b5c5083ef16f187365111d6917bcd6aa2f2b270ae3849", func := "portcullis/portcullislaw10.StoreNeverBack", spec := "storeNeverBack", unfollowed := true, recurses := true, apart := false }
def StoreNeverBackSaid : Prop := storeNeverBackRow.holds Try.pinned (OpenSpec.ofChange storeNeverBackSpec)

/-- ITS FALSE NEIGHBOUR: 'it returns false'. Refute it at one input. -/
def storeNeverBackWrong : ChangeSpec := { name := "storeNeverBack", fn := fun _ => fun
  | [d1, d2] => { results := [.lit (.bool false)], args := [d1, d2] }
  | _ => none }
def StoreNeverBackWrongFalsely : Prop := storeNeverBackRow.holds Try.pinned (OpenSpec.ofChange storeNeverBackWrong)

/-- 'portcullislaw10.StoreFuses': WHATEVER THE INPUT: true; the input reads as it did. -/
def storeFusesSpec : ChangeSpec := { name := "storeFuses", fn := fun _ => fun
  | [d1, d2] => { results := [.lit (.bool true)], args := [d1, d2] }
  | _ => none }
def storeFusesRow : OpenClaim := { program := "yteabcbpimjjdpaa", sum := "2efda2b9c1db3b675b4b5c5083ef16f187365111d6917bcd6aa2f2b270ae3849", func := "portcullis/portcullislaw10.StoreFuses", spec := "storeFuses", unfollowed := true, recurses := true, apart := false }
def StoreFusesSaid : Prop := storeFusesRow.holds Try.pinned (OpenSpec.ofChange storeFusesSpec)

/-- ITS FALSE NEIGHBOUR: 'it returns false'. Refute it at one input. -/
def storeFusesWrong : ChangeSpec := { name := "storeFuses", fn := fun _ => fun
  | [d1, d2] => { results := [.lit (.bool false)], args := [d1, d2] }
  | _ => none }
def StoreFusesWrongFalsely : Prop := storeFusesRow.holds Try.pinned (OpenSpec.ofChange storeFusesWrong)

/- THE SECOND FORM. 'bulk': how many values and letters a reading holds, each counted each time it is reached (what is shared counts as often as it is met; a slice's spare places count too). A statement '..UptoSaid' is the law's where the arguments, and the package variables that the reading takes, are together of bulk at most 1048576: NARROWER than '..Said'. Prove '..Said' where nothing that the law and all that it calls make is longer than what came in: it says more and counts as full. Else prove '..UptoSaid'. A law counts once. -/
mutual
def uptoBulk {H : Type} : DataW H → Nat
  | .lit (.string bytes) => bytes.length + 1
  | .lit _ => 1
  | .nil => 1
  | .ptr d => uptoBulk d + 1
  | .slice elems spare => uptoBulkAll elems + uptoBulkAll spare + 1
  | .agg parts => uptoBulkAll parts + 1
  | .iface _ d => uptoBulk d + 1
  | .map entries => uptoBulkEntries entries + 1
  | .held _ => 1
def uptoBulkAll {H : Type} : List (DataW H) → Nat
  | [] => 0
  | d :: r => uptoBulk d + uptoBulkAll r
def uptoBulkEntries {H : Type} : List (Lit × DataW H) → Nat
  | [] => 0
  | x :: r => uptoBulkEntry x + uptoBulkEntries r
def uptoBulkEntry {H : Type} : Lit × DataW H → Nat
  | (.string bytes, d) => bytes.length + uptoBulk d + 1
  | (_, d) => uptoBulk d + 1
 end
def uptoSmall : (H : Type) → List (DataW H) → Bool := fun _ ds => decide (uptoBulkAll ds ≤ 1048576)
def OpenSpec.upto (s : _root_.Go.ChangeSpec) : _root_.Go.OpenSpec := { _root_.Go.OpenSpec.ofChange s with cond := some uptoSmall }

/-- 'portcullislaw09.LogWears', WHERE WHAT IT READS IS OF BULK AT MOST 1048576: true; the input reads as it did. -/
def logWearsUptoRow : OpenClaim := { program := "yteabcbpimjjdpaa", sum := "2efda2b9c1db3b675b4b5c5083ef16f187365111d6917bcd6aa2f2b270ae3849", func := "portcullis/portcullislaw09.LogWears", spec := "logWears", unfollowed := true, recurses := true, apart := false, narrowed := true }
def LogWearsUptoSaid : Prop := logWearsUptoRow.holds Try.pinned (OpenSpec.upto logWearsSpec)

/-- 'portcullislaw09.LogWhole', WHERE WHAT IT READS IS OF BULK AT MOST 1048576: true; the input reads as it did. -/
def logWholeUptoRow : OpenClaim := { program := "yteabcbpimjjdpaa", sum := "2efda2b9c1db3b675b4b5c5083ef16f187365111d6917bcd6aa2f2b270ae3849", func := "portcullis/portcullislaw09.LogWhole", spec := "logWhole", unfollowed := true, recurses := true, apart := false, narrowed := true }
def LogWholeUptoSaid : Prop := logWholeUptoRow.holds Try.pinned (OpenSpec.upto logWholeSpec)

/-- 'portcullislaw20.WearLasts', WHERE WHAT IT READS IS OF BULK AT MOST 1048576: true; the input reads as it did. -/
def wearLastsUptoRow : OpenClaim := { program := "yteabcbpimjjdpaa", sum := "2efda2b9c1db3b675b4b5c5083ef16f187365111d6917bcd6aa2f2b270ae3849", func := "portcullis/portcullislaw20.WearLasts", spec := "wearLasts", unfollowed := true, recurses := true, apart := false, narrowed := true }
def WearLastsUptoSaid : Prop := wearLastsUptoRow.holds Try.pinned (OpenSpec.upto wearLastsSpec)

/-- 'portcullislaw10.StoreNames', WHERE WHAT IT READS IS OF BULK AT MOST 1048576: true; the input reads as it did. -/
def storeNamesUptoRow : OpenClaim := { program := "yteabcbpimjjdpaa", sum := "2efda2b9c1db3b675b4b5c5083ef16f187365111d6917bcd6aa2f2b270ae3849", func := "portcullis/portcullislaw10.StoreNames", spec := "storeNames", unfollowed := true, recurses := true, apart := false, narrowed := true }
def StoreNamesUptoSaid : Prop := storeNamesUptoRow.holds Try.pinned (OpenSpec.upto storeNamesSpec)

/-- 'portcullislaw20.WearTurns', WHERE WHAT IT READS IS OF BULK AT MOST 1048576: true; the input reads as it did. -/
def wearTurnsUptoRow : OpenClaim := { program := "yteabcbpimjjdpaa", sum := "2efda2b9c1db3b675b4b5c5083ef16f187365111d6917bcd6aa2f2b270ae3849", func := "portcullis/portcullislaw20.WearTurns", spec := "wearTurns", unfollowed := true, recurses := true, apart := false, narrowed := true }
def WearTurnsUptoSaid : Prop := wearTurnsUptoRow.holds Try.pinned (OpenSpec.upto wearTurnsSpec)

/-- 'portcullislaw10.StoreNeverBack', WHERE WHAT IT READS IS OF BULK AT MOST 1048576: true; the input reads as it did. -/
def storeNeverBackUptoRow : OpenClaim := { program := "yteabcbpimjjdpaa", sum := "2efda2b9c1db3b675b4b5c5083ef16f187365111d6917bcd6aa2f2b270ae3849", func := "portcullis/portcullislaw10.StoreNeverBack", spec := "storeNeverBack", unfollowed := true, recurses := true, apart := false, narrowed := true }
def StoreNeverBackUptoSaid : Prop := storeNeverBackUptoRow.holds Try.pinned (OpenSpec.upto storeNeverBackSpec)

/-- 'portcullislaw10.StoreFuses', WHERE WHAT IT READS IS OF BULK AT MOST 1048576: true; the input reads as it did. -/
def storeFusesUptoRow : OpenClaim := { program := "yteabcbpimjjdpaa", sum := "2efda2b9c1db3b675b4b5c5083ef16f187365111d6917bcd6aa2f2b270ae3849", func := "portcullis/portcullislaw10.StoreFuses", spec := "storeFuses", unfollowed := true, recurses := true, apart := false, narrowed := true }
def StoreFusesUptoSaid : Prop := storeFusesUptoRow.holds Try.pinned (OpenSpec.upto storeFusesSpec)

end Rows
end Go.Proofs.Yteabcbpimjjdpaa
