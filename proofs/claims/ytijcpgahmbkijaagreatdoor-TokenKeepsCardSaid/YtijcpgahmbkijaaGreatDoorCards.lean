/-
  DERIVED. GIVEN WITH THE SEED: THE CARDS: each row of YtijcpgahmbkijaaGreatDoorRows.lean that lists a variable, with what it lists TIED to the program's text (the seventh form; the later family's looks); each row that meets fmt, with fmt's text TOLD by the authors' own Lean function (tested against real Go, not proved from fmt's source: count such statements apart). THE CARD IS WHAT COUNTS. Prove the row's statement (the work); the ties are given (YtijcpgahmbkijaaGreatDoorTie.lean); close each card by the builder's one call (the guide's Derived/Test/ToyasCard.lean, 'card_holds'). Laid BY PROGRAM, IN A SANDBOX (cutbox-door.mjs). By AI agents, Wed Nov 11 2026. No macro, syntax, notation, axiom, sorry.
-/
import Derived.Test.YtijcpgahmbkijaaGreatDoorRows
import GoSem.ClaimSeven
namespace Go.Proofs.YtijcpgahmbkijaaGreatDoor
namespace Rows

/-- THE TIED CARD OF 'portcullislaw24.TokenMakes'. -/
def tokenMakesCard : Claim7 := { stood := { row := tokenMakesRow, standIns := [], harness := (true, "cb3c293a06e99962208e11a188cd8bbb0fb5d621f62ae7d288a88ff88e2a3e02"), looks := true }, kinds := [], alts := [], laidByText := true, laidKinds := [.handle], laidTests := true, laidLooks := .later }
def TokenMakesCardSaid : Prop := Claim7.holds Tryz.pinned (.plain (OpenSpec.ofChange tokenMakesSpec)) tokenMakesCard

/-- THE TIED CARD OF 'portcullislaw24.TokenOnly'. -/
def tokenOnlyCard : Claim7 := { stood := { row := tokenOnlyRow, standIns := [], harness := (true, "cb3c293a06e99962208e11a188cd8bbb0fb5d621f62ae7d288a88ff88e2a3e02"), looks := true }, kinds := [], alts := [], laidByText := true, laidKinds := [.handle], laidTests := true, laidLooks := .later }
def TokenOnlyCardSaid : Prop := Claim7.holds Tryz.pinned (.plain (OpenSpec.ofChange tokenOnlySpec)) tokenOnlyCard

/-- THE TIED CARD OF 'portcullislaw24.TokenKeeps'. -/
def tokenKeepsCard : Claim7 := { stood := { row := tokenKeepsRow, standIns := [], harness := (true, "cb3c293a06e99962208e11a188cd8bbb0fb5d621f62ae7d288a88ff88e2a3e02"), looks := true }, kinds := [], alts := [], laidByText := true, laidKinds := [.handle], laidTests := true, laidLooks := .later }
def TokenKeepsCardSaid : Prop := Claim7.holds Tryz.pinned (.plain (OpenSpec.ofChange tokenKeepsSpec)) tokenKeepsCard

/-- THE SECOND FORM's CARD OF 'portcullislaw24.TokenMakes'. -/
def tokenMakesUptoCard : Claim7 := { stood := { row := tokenMakesUptoRow, standIns := [], harness := (true, "cb3c293a06e99962208e11a188cd8bbb0fb5d621f62ae7d288a88ff88e2a3e02"), looks := true }, kinds := [], alts := [], laidByText := true, laidKinds := [.handle], laidTests := true, laidLooks := .later }
def TokenMakesUptoCardSaid : Prop := Claim7.holds Tryz.pinned (.plain (OpenSpec.upto tokenMakesSpec)) tokenMakesUptoCard

/-- THE SECOND FORM's CARD OF 'portcullislaw24.TokenOnly'. -/
def tokenOnlyUptoCard : Claim7 := { stood := { row := tokenOnlyUptoRow, standIns := [], harness := (true, "cb3c293a06e99962208e11a188cd8bbb0fb5d621f62ae7d288a88ff88e2a3e02"), looks := true }, kinds := [], alts := [], laidByText := true, laidKinds := [.handle], laidTests := true, laidLooks := .later }
def TokenOnlyUptoCardSaid : Prop := Claim7.holds Tryz.pinned (.plain (OpenSpec.upto tokenOnlySpec)) tokenOnlyUptoCard

/-- THE SECOND FORM's CARD OF 'portcullislaw24.TokenKeeps'. -/
def tokenKeepsUptoCard : Claim7 := { stood := { row := tokenKeepsUptoRow, standIns := [], harness := (true, "cb3c293a06e99962208e11a188cd8bbb0fb5d621f62ae7d288a88ff88e2a3e02"), looks := true }, kinds := [], alts := [], laidByText := true, laidKinds := [.handle], laidTests := true, laidLooks := .later }
def TokenKeepsUptoCardSaid : Prop := Claim7.holds Tryz.pinned (.plain (OpenSpec.upto tokenKeepsSpec)) tokenKeepsUptoCard
end Rows
end Go.Proofs.YtijcpgahmbkijaaGreatDoor
