/-
  DERIVED. GIVEN WITH THE SEED: THE CARDS: each row of YtaglicdidpgkpaaGreatDoorRows.lean that lists a variable, with what it lists TIED to the program's text (the seventh form; the later family's looks); each row that meets fmt, with fmt's text TOLD by the authors' own Lean function (tested against real Go, not proved from fmt's source: count such statements apart). THE CARD IS WHAT COUNTS. Prove the row's statement (the work); the ties are given (YtaglicdidpgkpaaGreatDoorTie.lean); close each card by the builder's one call (the guide's Derived/Test/ToyasCard.lean, 'card_holds'). Laid BY PROGRAM, IN A SANDBOX (cutbox-door.mjs). By AI agents, Wed Nov 11 2026. No macro, syntax, notation, axiom, sorry.
-/
import Derived.Test.YtaglicdidpgkpaaGreatDoorRows
import GoSem.ClaimSeven
namespace Go.Proofs.YtaglicdidpgkpaaGreatDoor
namespace Rows

/-- THE TIED CARD OF 'portcullislaw24.TokenNarrows'. -/
def tokenNarrowsCard : Claim7 := { stood := { row := tokenNarrowsRow, standIns := [], harness := (true, "47f8a277c8e3cfd9ce27eac7932210a548a9b973cf21b18fcda8470b2cc5eb17"), looks := true }, kinds := [], alts := [], laidByText := true, laidKinds := [.handle], laidTests := true, laidLooks := .later }
def TokenNarrowsCardSaid : Prop := Claim7.holds Tryz.pinned (.plain (OpenSpec.ofChange tokenNarrowsSpec)) tokenNarrowsCard

/-- THE TIED CARD OF 'portcullislaw24.TokenChecks'. -/
def tokenChecksCard : Claim7 := { stood := { row := tokenChecksRow, standIns := [], harness := (true, "47f8a277c8e3cfd9ce27eac7932210a548a9b973cf21b18fcda8470b2cc5eb17"), looks := true }, kinds := [], alts := [], laidByText := true, laidKinds := [.handle], laidTests := true, laidLooks := .later }
def TokenChecksCardSaid : Prop := Claim7.holds Tryz.pinned (.plain (OpenSpec.ofChange tokenChecksSpec)) tokenChecksCard

/-- THE TIED CARD OF 'portcullislaw13.GateNames'. -/
def gateNamesCard : Claim7 := { stood := { row := gateNamesRow, standIns := [], harness := (true, "47f8a277c8e3cfd9ce27eac7932210a548a9b973cf21b18fcda8470b2cc5eb17"), looks := true }, kinds := [], alts := [], laidByText := true, laidKinds := [.handle], laidTests := true, laidLooks := .later }
def GateNamesCardSaid : Prop := Claim7.holds Tryz.pinned (.plain (OpenSpec.ofChange gateNamesSpec)) gateNamesCard

/-- THE TIED CARD OF 'portcullislaw13.GateKeeps'. -/
def gateKeepsCard : Claim7 := { stood := { row := gateKeepsRow, standIns := [], harness := (true, "47f8a277c8e3cfd9ce27eac7932210a548a9b973cf21b18fcda8470b2cc5eb17"), looks := true }, kinds := [], alts := [], laidByText := true, laidKinds := [.handle], laidTests := true, laidLooks := .later }
def GateKeepsCardSaid : Prop := Claim7.holds Tryz.pinned (.plain (OpenSpec.ofChange gateKeepsSpec)) gateKeepsCard

/-- THE TIED CARD OF 'portcullislaw13.GateHands'. -/
def gateHandsCard : Claim7 := { stood := { row := gateHandsRow, standIns := [], harness := (true, "47f8a277c8e3cfd9ce27eac7932210a548a9b973cf21b18fcda8470b2cc5eb17"), looks := true }, kinds := [], alts := [], laidByText := true, laidKinds := [.handle], laidTests := true, laidLooks := .later }
def GateHandsCardSaid : Prop := Claim7.holds Tryz.pinned (.plain (OpenSpec.ofChange gateHandsSpec)) gateHandsCard

/-- THE TIED CARD OF 'portcullislaw13.GateChecks'. -/
def gateChecksCard : Claim7 := { stood := { row := gateChecksRow, standIns := [], harness := (true, "47f8a277c8e3cfd9ce27eac7932210a548a9b973cf21b18fcda8470b2cc5eb17"), looks := true }, kinds := [], alts := [], laidByText := true, laidKinds := [.handle], laidTests := true, laidLooks := .later }
def GateChecksCardSaid : Prop := Claim7.holds Tryz.pinned (.plain (OpenSpec.ofChange gateChecksSpec)) gateChecksCard

/-- THE TIED CARD OF 'portcullislaw13.GateStays'. -/
def gateStaysCard : Claim7 := { stood := { row := gateStaysRow, standIns := [], harness := (true, "47f8a277c8e3cfd9ce27eac7932210a548a9b973cf21b18fcda8470b2cc5eb17"), looks := true }, kinds := [], alts := [], laidByText := true, laidKinds := [.handle], laidTests := true, laidLooks := .later }
def GateStaysCardSaid : Prop := Claim7.holds Tryz.pinned (.plain (OpenSpec.ofChange gateStaysSpec)) gateStaysCard

/-- THE TIED CARD OF 'portcullislaw26.StreamPieces'. -/
def streamPiecesCard : Claim7 := { stood := { row := streamPiecesRow, standIns := [], harness := (true, "47f8a277c8e3cfd9ce27eac7932210a548a9b973cf21b18fcda8470b2cc5eb17"), looks := true }, kinds := [], alts := [], laidByText := true, laidKinds := [.handle], laidTests := true, laidLooks := .later }
def StreamPiecesCardSaid : Prop := Claim7.holds Tryz.pinned (.plain (OpenSpec.ofChange streamPiecesSpec)) streamPiecesCard

/-- THE SECOND FORM's CARD OF 'portcullislaw24.TokenNarrows'. -/
def tokenNarrowsUptoCard : Claim7 := { stood := { row := tokenNarrowsUptoRow, standIns := [], harness := (true, "47f8a277c8e3cfd9ce27eac7932210a548a9b973cf21b18fcda8470b2cc5eb17"), looks := true }, kinds := [], alts := [], laidByText := true, laidKinds := [.handle], laidTests := true, laidLooks := .later }
def TokenNarrowsUptoCardSaid : Prop := Claim7.holds Tryz.pinned (.plain (OpenSpec.upto tokenNarrowsSpec)) tokenNarrowsUptoCard

/-- THE SECOND FORM's CARD OF 'portcullislaw24.TokenChecks'. -/
def tokenChecksUptoCard : Claim7 := { stood := { row := tokenChecksUptoRow, standIns := [], harness := (true, "47f8a277c8e3cfd9ce27eac7932210a548a9b973cf21b18fcda8470b2cc5eb17"), looks := true }, kinds := [], alts := [], laidByText := true, laidKinds := [.handle], laidTests := true, laidLooks := .later }
def TokenChecksUptoCardSaid : Prop := Claim7.holds Tryz.pinned (.plain (OpenSpec.upto tokenChecksSpec)) tokenChecksUptoCard

/-- THE SECOND FORM's CARD OF 'portcullislaw13.GateNames'. -/
def gateNamesUptoCard : Claim7 := { stood := { row := gateNamesUptoRow, standIns := [], harness := (true, "47f8a277c8e3cfd9ce27eac7932210a548a9b973cf21b18fcda8470b2cc5eb17"), looks := true }, kinds := [], alts := [], laidByText := true, laidKinds := [.handle], laidTests := true, laidLooks := .later }
def GateNamesUptoCardSaid : Prop := Claim7.holds Tryz.pinned (.plain (OpenSpec.upto gateNamesSpec)) gateNamesUptoCard

/-- THE SECOND FORM's CARD OF 'portcullislaw13.GateKeeps'. -/
def gateKeepsUptoCard : Claim7 := { stood := { row := gateKeepsUptoRow, standIns := [], harness := (true, "47f8a277c8e3cfd9ce27eac7932210a548a9b973cf21b18fcda8470b2cc5eb17"), looks := true }, kinds := [], alts := [], laidByText := true, laidKinds := [.handle], laidTests := true, laidLooks := .later }
def GateKeepsUptoCardSaid : Prop := Claim7.holds Tryz.pinned (.plain (OpenSpec.upto gateKeepsSpec)) gateKeepsUptoCard

/-- THE SECOND FORM's CARD OF 'portcullislaw13.GateHands'. -/
def gateHandsUptoCard : Claim7 := { stood := { row := gateHandsUptoRow, standIns := [], harness := (true, "47f8a277c8e3cfd9ce27eac7932210a548a9b973cf21b18fcda8470b2cc5eb17"), looks := true }, kinds := [], alts := [], laidByText := true, laidKinds := [.handle], laidTests := true, laidLooks := .later }
def GateHandsUptoCardSaid : Prop := Claim7.holds Tryz.pinned (.plain (OpenSpec.upto gateHandsSpec)) gateHandsUptoCard

/-- THE SECOND FORM's CARD OF 'portcullislaw13.GateChecks'. -/
def gateChecksUptoCard : Claim7 := { stood := { row := gateChecksUptoRow, standIns := [], harness := (true, "47f8a277c8e3cfd9ce27eac7932210a548a9b973cf21b18fcda8470b2cc5eb17"), looks := true }, kinds := [], alts := [], laidByText := true, laidKinds := [.handle], laidTests := true, laidLooks := .later }
def GateChecksUptoCardSaid : Prop := Claim7.holds Tryz.pinned (.plain (OpenSpec.upto gateChecksSpec)) gateChecksUptoCard

/-- THE SECOND FORM's CARD OF 'portcullislaw13.GateStays'. -/
def gateStaysUptoCard : Claim7 := { stood := { row := gateStaysUptoRow, standIns := [], harness := (true, "47f8a277c8e3cfd9ce27eac7932210a548a9b973cf21b18fcda8470b2cc5eb17"), looks := true }, kinds := [], alts := [], laidByText := true, laidKinds := [.handle], laidTests := true, laidLooks := .later }
def GateStaysUptoCardSaid : Prop := Claim7.holds Tryz.pinned (.plain (OpenSpec.upto gateStaysSpec)) gateStaysUptoCard

/-- THE SECOND FORM's CARD OF 'portcullislaw26.StreamPieces'. -/
def streamPiecesUptoCard : Claim7 := { stood := { row := streamPiecesUptoRow, standIns := [], harness := (true, "47f8a277c8e3cfd9ce27eac7932210a548a9b973cf21b18fcda8470b2cc5eb17"), looks := true }, kinds := [], alts := [], laidByText := true, laidKinds := [.handle], laidTests := true, laidLooks := .later }
def StreamPiecesUptoCardSaid : Prop := Claim7.holds Tryz.pinned (.plain (OpenSpec.upto streamPiecesSpec)) streamPiecesUptoCard
end Rows
end Go.Proofs.YtaglicdidpgkpaaGreatDoor
