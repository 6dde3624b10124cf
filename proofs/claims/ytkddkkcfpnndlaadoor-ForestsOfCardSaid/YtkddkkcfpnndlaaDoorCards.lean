/-
  DERIVED. GIVEN WITH THE SEED: THE CARDS: each row of YtkddkkcfpnndlaaDoorRows.lean that lists a variable, with what it lists TIED to the program's text (the seventh form; the later family's looks); each row that meets fmt, with fmt's text TOLD by the authors' own Lean function (tested against real Go, not proved from fmt's source: count such statements apart). THE CARD IS WHAT COUNTS. Prove the row's statement (the work); the ties are given (YtkddkkcfpnndlaaDoorTie.lean); close each card by the builder's one call (the guide's Derived/Test/ToyasCard.lean, 'card_holds'). Laid BY PROGRAM, IN A SANDBOX (cutbox-door.mjs). By AI agents, Wed Nov 11 2026. No macro, syntax, notation, axiom, sorry.
-/
import Derived.Test.YtkddkkcfpnndlaaDoorRows
import GoSem.ClaimSeven
namespace Go.Proofs.YtkddkkcfpnndlaaDoor
namespace Rows

/-- THE TIED CARD OF 'salesroomlaw16.ForestsOf'. -/
def forestsOfCard : Claim7 := { stood := { row := forestsOfRow, standIns := [], harness := (true, "5a07124ba0c5f2785fe185952b6bc8b7a8d4e67681bd71eff3447f3e0989ed47"), looks := false }, kinds := [], alts := [], laidByText := true, laidKinds := [.data, .data, .data], laidTests := true, laidLooks := .later }
def ForestsOfCardSaid : Prop := Claim7.holds Tryd.pinned (.plain (OpenSpec.ofChange forestsOfSpec)) forestsOfCard

/-- THE SECOND FORM's CARD OF 'salesroomlaw16.ForestsOf'. -/
def forestsOfUptoCard : Claim7 := { stood := { row := forestsOfUptoRow, standIns := [], harness := (true, "5a07124ba0c5f2785fe185952b6bc8b7a8d4e67681bd71eff3447f3e0989ed47"), looks := false }, kinds := [], alts := [], laidByText := true, laidKinds := [.data, .data, .data], laidTests := true, laidLooks := .later }
def ForestsOfUptoCardSaid : Prop := Claim7.holds Tryd.pinned (.plain (OpenSpec.upto forestsOfSpec)) forestsOfUptoCard
end Rows
end Go.Proofs.YtkddkkcfpnndlaaDoor
