/-
  DERIVED. GIVEN WITH THE SEED: THE CARDS: each row of YteedolonhdbieaaGreatDoorRows.lean that lists a variable, with what it lists TIED to the program's text (the seventh form; the later family's looks); each row that meets fmt, with fmt's text TOLD by the authors' own Lean function (tested against real Go, not proved from fmt's source: count such statements apart). THE CARD IS WHAT COUNTS. Prove the row's statement (the work); the ties are given (YteedolonhdbieaaGreatDoorTie.lean); close each card by the builder's one call (the guide's Derived/Test/ToyasCard.lean, 'card_holds'). Laid BY PROGRAM, IN A SANDBOX (cutbox-door.mjs). By AI agents, Wed Nov 11 2026. No macro, syntax, notation, axiom, sorry.
-/
import Derived.Test.YteedolonhdbieaaGreatDoorRows
import GoSem.ClaimSeven
namespace Go.Proofs.YteedolonhdbieaaGreatDoor
namespace Rows

/-- THE TIED CARD OF 'portcullislaw26.StreamPieces'. -/
def streamPiecesCard : Claim7 := { stood := { row := streamPiecesRow, standIns := [], harness := (true, "f728a9402e72b8bedf6d4e657b6c11785399d37f0521ef9960f71492cb860669"), looks := true }, kinds := [], alts := [], laidByText := true, laidKinds := [.handle], laidTests := true, laidLooks := .later }
def StreamPiecesCardSaid : Prop := Claim7.holds Tryz.pinned (.plain (OpenSpec.ofChange streamPiecesSpec)) streamPiecesCard

/-- THE TIED CARD OF 'portcullislaw17.RomGate'. -/
def romGateCard : Claim7 := { stood := { row := romGateRow, standIns := [], harness := (true, "f728a9402e72b8bedf6d4e657b6c11785399d37f0521ef9960f71492cb860669"), looks := true }, kinds := [], alts := [], laidByText := true, laidKinds := [.handle], laidTests := true, laidLooks := .later }
def RomGateCardSaid : Prop := Claim7.holds Tryz.pinned (.plain (OpenSpec.ofChange romGateSpec)) romGateCard

/-- THE TIED CARD OF 'portcullislaw26.StreamDoes'. -/
def streamDoesCard : Claim7 := { stood := { row := streamDoesRow, standIns := [], harness := (true, "f728a9402e72b8bedf6d4e657b6c11785399d37f0521ef9960f71492cb860669"), looks := true }, kinds := [], alts := [], laidByText := true, laidKinds := [.handle], laidTests := true, laidLooks := .later }
def StreamDoesCardSaid : Prop := Claim7.holds Tryz.pinned (.plain (OpenSpec.ofChange streamDoesSpec)) streamDoesCard

/-- THE TIED CARD OF 'portcullislaw15.LoaderWhole'. -/
def loaderWholeCard : Claim7 := { stood := { row := loaderWholeRow, standIns := [], harness := (true, "f728a9402e72b8bedf6d4e657b6c11785399d37f0521ef9960f71492cb860669"), looks := true }, kinds := [], alts := [], laidByText := true, laidKinds := [.handle], laidTests := true, laidLooks := .later }
def LoaderWholeCardSaid : Prop := Claim7.holds Tryz.pinned (.plain (OpenSpec.ofChange loaderWholeSpec)) loaderWholeCard

/-- THE TIED CARD OF 'portcullislaw15.LoaderDoes'. -/
def loaderDoesCard : Claim7 := { stood := { row := loaderDoesRow, standIns := [], harness := (true, "f728a9402e72b8bedf6d4e657b6c11785399d37f0521ef9960f71492cb860669"), looks := true }, kinds := [], alts := [], laidByText := true, laidKinds := [.handle], laidTests := true, laidLooks := .later }
def LoaderDoesCardSaid : Prop := Claim7.holds Tryz.pinned (.plain (OpenSpec.ofChange loaderDoesSpec)) loaderDoesCard

/-- THE TIED CARD OF 'portcullislaw17.RomDoes'. -/
def romDoesCard : Claim7 := { stood := { row := romDoesRow, standIns := [], harness := (true, "f728a9402e72b8bedf6d4e657b6c11785399d37f0521ef9960f71492cb860669"), looks := true }, kinds := [], alts := [], laidByText := true, laidKinds := [.handle], laidTests := true, laidLooks := .later }
def RomDoesCardSaid : Prop := Claim7.holds Tryz.pinned (.plain (OpenSpec.ofChange romDoesSpec)) romDoesCard

/-- THE SECOND FORM's CARD OF 'portcullislaw26.StreamPieces'. -/
def streamPiecesUptoCard : Claim7 := { stood := { row := streamPiecesUptoRow, standIns := [], harness := (true, "f728a9402e72b8bedf6d4e657b6c11785399d37f0521ef9960f71492cb860669"), looks := true }, kinds := [], alts := [], laidByText := true, laidKinds := [.handle], laidTests := true, laidLooks := .later }
def StreamPiecesUptoCardSaid : Prop := Claim7.holds Tryz.pinned (.plain (OpenSpec.upto streamPiecesSpec)) streamPiecesUptoCard

/-- THE SECOND FORM's CARD OF 'portcullislaw17.RomGate'. -/
def romGateUptoCard : Claim7 := { stood := { row := romGateUptoRow, standIns := [], harness := (true, "f728a9402e72b8bedf6d4e657b6c11785399d37f0521ef9960f71492cb860669"), looks := true }, kinds := [], alts := [], laidByText := true, laidKinds := [.handle], laidTests := true, laidLooks := .later }
def RomGateUptoCardSaid : Prop := Claim7.holds Tryz.pinned (.plain (OpenSpec.upto romGateSpec)) romGateUptoCard

/-- THE SECOND FORM's CARD OF 'portcullislaw26.StreamDoes'. -/
def streamDoesUptoCard : Claim7 := { stood := { row := streamDoesUptoRow, standIns := [], harness := (true, "f728a9402e72b8bedf6d4e657b6c11785399d37f0521ef9960f71492cb860669"), looks := true }, kinds := [], alts := [], laidByText := true, laidKinds := [.handle], laidTests := true, laidLooks := .later }
def StreamDoesUptoCardSaid : Prop := Claim7.holds Tryz.pinned (.plain (OpenSpec.upto streamDoesSpec)) streamDoesUptoCard

/-- THE SECOND FORM's CARD OF 'portcullislaw15.LoaderWhole'. -/
def loaderWholeUptoCard : Claim7 := { stood := { row := loaderWholeUptoRow, standIns := [], harness := (true, "f728a9402e72b8bedf6d4e657b6c11785399d37f0521ef9960f71492cb860669"), looks := true }, kinds := [], alts := [], laidByText := true, laidKinds := [.handle], laidTests := true, laidLooks := .later }
def LoaderWholeUptoCardSaid : Prop := Claim7.holds Tryz.pinned (.plain (OpenSpec.upto loaderWholeSpec)) loaderWholeUptoCard

/-- THE SECOND FORM's CARD OF 'portcullislaw15.LoaderDoes'. -/
def loaderDoesUptoCard : Claim7 := { stood := { row := loaderDoesUptoRow, standIns := [], harness := (true, "f728a9402e72b8bedf6d4e657b6c11785399d37f0521ef9960f71492cb860669"), looks := true }, kinds := [], alts := [], laidByText := true, laidKinds := [.handle], laidTests := true, laidLooks := .later }
def LoaderDoesUptoCardSaid : Prop := Claim7.holds Tryz.pinned (.plain (OpenSpec.upto loaderDoesSpec)) loaderDoesUptoCard

/-- THE SECOND FORM's CARD OF 'portcullislaw17.RomDoes'. -/
def romDoesUptoCard : Claim7 := { stood := { row := romDoesUptoRow, standIns := [], harness := (true, "f728a9402e72b8bedf6d4e657b6c11785399d37f0521ef9960f71492cb860669"), looks := true }, kinds := [], alts := [], laidByText := true, laidKinds := [.handle], laidTests := true, laidLooks := .later }
def RomDoesUptoCardSaid : Prop := Claim7.holds Tryz.pinned (.plain (OpenSpec.upto romDoesSpec)) romDoesUptoCard
end Rows
end Go.Proofs.YteedolonhdbieaaGreatDoor
