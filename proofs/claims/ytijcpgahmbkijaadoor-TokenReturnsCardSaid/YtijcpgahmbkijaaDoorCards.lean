/-
  DERIVED. GIVEN WITH THE SEED: THE CARDS: each row of YtijcpgahmbkijaaDoorRows.lean that lists a variable, with what it lists TIED to the program's text (the seventh form; the later family's looks); each row that meets fmt, with fmt's text TOLD by the authors' own Lean function (tested against real Go, not proved from fmt's source: count such statements apart). THE CARD IS WHAT COUNTS. Prove the row's statement (the work); the ties are given (YtijcpgahmbkijaaDoorTie.lean); close each card by the builder's one call (the guide's Derived/Test/ToyasCard.lean, 'card_holds'). Laid BY PROGRAM, IN A SANDBOX (cutbox-door.mjs). By AI agents, Wed Nov 11 2026. No macro, syntax, notation, axiom, sorry.
-/
import Derived.Test.YtijcpgahmbkijaaDoorRows
import GoSem.ClaimSeven
namespace Go.Proofs.YtijcpgahmbkijaaDoor
namespace Rows

/-- THE TIED CARD OF 'portcullislaw24.TokenNames'. -/
def tokenNamesCard : Claim7 := { stood := { row := tokenNamesRow, standIns := [], harness := (true, "2994fe4b98d7e118243331d6a5359c78d1631d26dd24d3a5c23a6caf4959b990"), looks := true }, kinds := [], alts := [], laidByText := true, laidKinds := [.handle], laidTests := true, laidLooks := .later }
def TokenNamesCardSaid : Prop := Claim7.holds Tryd.pinned (.plain (OpenSpec.ofChange tokenNamesSpec)) tokenNamesCard

/-- THE TIED CARD OF 'portcullislaw24.TokenBytes'. -/
def tokenBytesCard : Claim7 := { stood := { row := tokenBytesRow, standIns := [], harness := (true, "2994fe4b98d7e118243331d6a5359c78d1631d26dd24d3a5c23a6caf4959b990"), looks := true }, kinds := [], alts := [], laidByText := true, laidKinds := [.handle], laidTests := true, laidLooks := .later }
def TokenBytesCardSaid : Prop := Claim7.holds Tryd.pinned (.plain (OpenSpec.ofChange tokenBytesSpec)) tokenBytesCard

/-- THE TIED CARD OF 'portcullislaw24.TokenReturns'. -/
def tokenReturnsCard : Claim7 := { stood := { row := tokenReturnsRow, standIns := [], harness := (true, "2994fe4b98d7e118243331d6a5359c78d1631d26dd24d3a5c23a6caf4959b990"), looks := true }, kinds := [], alts := [], laidByText := true, laidKinds := [.handle], laidTests := true, laidLooks := .later }
def TokenReturnsCardSaid : Prop := Claim7.holds Tryd.pinned (.plain (OpenSpec.ofChange tokenReturnsSpec)) tokenReturnsCard

/-- THE SECOND FORM's CARD OF 'portcullislaw24.TokenNames'. -/
def tokenNamesUptoCard : Claim7 := { stood := { row := tokenNamesUptoRow, standIns := [], harness := (true, "2994fe4b98d7e118243331d6a5359c78d1631d26dd24d3a5c23a6caf4959b990"), looks := true }, kinds := [], alts := [], laidByText := true, laidKinds := [.handle], laidTests := true, laidLooks := .later }
def TokenNamesUptoCardSaid : Prop := Claim7.holds Tryd.pinned (.plain (OpenSpec.upto tokenNamesSpec)) tokenNamesUptoCard

/-- THE SECOND FORM's CARD OF 'portcullislaw24.TokenBytes'. -/
def tokenBytesUptoCard : Claim7 := { stood := { row := tokenBytesUptoRow, standIns := [], harness := (true, "2994fe4b98d7e118243331d6a5359c78d1631d26dd24d3a5c23a6caf4959b990"), looks := true }, kinds := [], alts := [], laidByText := true, laidKinds := [.handle], laidTests := true, laidLooks := .later }
def TokenBytesUptoCardSaid : Prop := Claim7.holds Tryd.pinned (.plain (OpenSpec.upto tokenBytesSpec)) tokenBytesUptoCard

/-- THE SECOND FORM's CARD OF 'portcullislaw24.TokenReturns'. -/
def tokenReturnsUptoCard : Claim7 := { stood := { row := tokenReturnsUptoRow, standIns := [], harness := (true, "2994fe4b98d7e118243331d6a5359c78d1631d26dd24d3a5c23a6caf4959b990"), looks := true }, kinds := [], alts := [], laidByText := true, laidKinds := [.handle], laidTests := true, laidLooks := .later }
def TokenReturnsUptoCardSaid : Prop := Claim7.holds Tryd.pinned (.plain (OpenSpec.upto tokenReturnsSpec)) tokenReturnsUptoCard
end Rows
end Go.Proofs.YtijcpgahmbkijaaDoor
