/-
  DERIVED. GIVEN WITH THE SEED: THE CARDS: each row of YtppjhbjcemnfmaaDoorRows.lean that lists a variable, with what it lists TIED to the program's text (the seventh form; the later family's looks); each row that meets fmt, with fmt's text TOLD by the authors' own Lean function (tested against real Go, not proved from fmt's source: count such statements apart). THE CARD IS WHAT COUNTS. Prove the row's statement (the work); the ties are given (YtppjhbjcemnfmaaDoorTie.lean); close each card by the builder's one call (the guide's Derived/Test/ToyasCard.lean, 'card_holds'). Laid BY PROGRAM, IN A SANDBOX (cutbox-door.mjs). By AI agents, Wed Nov 11 2026. No macro, syntax, notation, axiom, sorry.
-/
import Derived.Test.YtppjhbjcemnfmaaDoorRows
import GoSem.ClaimSeven
namespace Go.Proofs.YtppjhbjcemnfmaaDoor
namespace Rows

/-- THE TIED CARD OF 'laws.FnExactQuotientLoop'. -/
def fnExactQuotientLoopCard : Claim7 := { stood := { row := fnExactQuotientLoopRow, standIns := [], harness := (true, "fd085c0933efc780dde255b3e5e4519127f763fca1b477e17de057c0fafa2d20"), looks := false }, kinds := [], alts := [], laidByText := true, laidKinds := [.data, .data], laidTests := true, laidLooks := .later }
def FnExactQuotientLoopCardSaid : Prop := Claim7.holds Tryd.pinned (.plain (OpenSpec.ofChange fnExactQuotientLoopSpec)) fnExactQuotientLoopCard

/-- THE SECOND FORM's CARD OF 'laws.FnExactQuotientLoop'. -/
def fnExactQuotientLoopUptoCard : Claim7 := { stood := { row := fnExactQuotientLoopUptoRow, standIns := [], harness := (true, "fd085c0933efc780dde255b3e5e4519127f763fca1b477e17de057c0fafa2d20"), looks := false }, kinds := [], alts := [], laidByText := true, laidKinds := [.data, .data], laidTests := true, laidLooks := .later }
def FnExactQuotientLoopUptoCardSaid : Prop := Claim7.holds Tryd.pinned (.plain (OpenSpec.upto fnExactQuotientLoopSpec)) fnExactQuotientLoopUptoCard
end Rows
end Go.Proofs.YtppjhbjcemnfmaaDoor
