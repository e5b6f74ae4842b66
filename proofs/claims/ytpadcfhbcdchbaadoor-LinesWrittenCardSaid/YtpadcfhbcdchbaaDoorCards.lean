/-
  DERIVED. GIVEN WITH THE SEED: THE CARDS: each row of YtpadcfhbcdchbaaDoorRows.lean that lists a variable, with what it lists TIED to the program's text (the seventh form; the later family's looks); each row that meets fmt, with fmt's text TOLD by the authors' own Lean function (tested against real Go, not proved from fmt's source: count such statements apart). THE CARD IS WHAT COUNTS. Prove the row's statement (the work); the ties are given (YtpadcfhbcdchbaaDoorTie.lean); close each card by the builder's one call (the guide's Derived/Test/ToyasCard.lean, 'card_holds'). Laid BY PROGRAM, IN A SANDBOX (cutbox-door.mjs). By AI agents, Wed Nov 11 2026. No macro, syntax, notation, axiom, sorry.
-/
import Derived.Test.YtpadcfhbcdchbaaDoorRows
import GoSem.ClaimSeven
namespace Go.Proofs.YtpadcfhbcdchbaaDoor
namespace Rows

/-- THE TIED CARD OF 'gatelaw1.LinesWritten'. -/
def linesWrittenCard : Claim7 := { stood := { row := linesWrittenRow, standIns := [], harness := (true, "2863b6aea76d936c1a72b69e0b04e4341f1b18421fef798d2c78e50c109e2abb"), looks := false }, kinds := [], alts := [], laidByText := true, laidKinds := [.data, .data, .data], laidTests := true, laidLooks := .later }
def LinesWrittenCardSaid : Prop := Claim7.holds Tryd.pinned (.plain (OpenSpec.ofChange linesWrittenSpec)) linesWrittenCard

/-- THE SECOND FORM's CARD OF 'gatelaw1.LinesWritten'. -/
def linesWrittenUptoCard : Claim7 := { stood := { row := linesWrittenUptoRow, standIns := [], harness := (true, "2863b6aea76d936c1a72b69e0b04e4341f1b18421fef798d2c78e50c109e2abb"), looks := false }, kinds := [], alts := [], laidByText := true, laidKinds := [.data, .data, .data], laidTests := true, laidLooks := .later }
def LinesWrittenUptoCardSaid : Prop := Claim7.holds Tryd.pinned (.plain (OpenSpec.upto linesWrittenSpec)) linesWrittenUptoCard
end Rows
end Go.Proofs.YtpadcfhbcdchbaaDoor
