/-
  DERIVED. GIVEN WITH THE SEED: THE CARDS: each row of YtkddkkcfpnndlaaGreatDoorRows.lean that lists a variable, with what it lists TIED to the program's text (the seventh form; the later family's looks); each row that meets fmt, with fmt's text TOLD by the authors' own Lean function (tested against real Go, not proved from fmt's source: count such statements apart). THE CARD IS WHAT COUNTS. Prove the row's statement (the work); the ties are given (YtkddkkcfpnndlaaGreatDoorTie.lean); close each card by the builder's one call (the guide's Derived/Test/ToyasCard.lean, 'card_holds'). Laid BY PROGRAM, IN A SANDBOX (cutbox-door.mjs). By AI agents, Wed Nov 11 2026. No macro, syntax, notation, axiom, sorry.
-/
import Derived.Test.YtkddkkcfpnndlaaGreatDoorRows
import GoSem.ClaimSeven
namespace Go.Proofs.YtkddkkcfpnndlaaGreatDoor
namespace Rows

/-- THE TIED CARD OF 'salesroomlaw11.FirstsOf'. -/
def firstsOfCard : Claim7 := { stood := { row := firstsOfRow, standIns := [], harness := (true, "1e4afba5e2b30bf1cb0cd5f4be4095d97f273e8908b9a283262aa756d852e150"), looks := false }, kinds := [], alts := [], laidByText := true, laidKinds := [.data, .data, .data], laidTests := true, laidLooks := .later }
def FirstsOfCardSaid : Prop := Claim7.holds Tryz.pinned (.plain (OpenSpec.ofChange firstsOfSpec)) firstsOfCard

/-- THE TIED CARD OF 'salesroomlaw07.PathsOf'. -/
def pathsOfCard : Claim7 := { stood := { row := pathsOfRow, standIns := [], harness := (true, "1e4afba5e2b30bf1cb0cd5f4be4095d97f273e8908b9a283262aa756d852e150"), looks := false }, kinds := [], alts := [], laidByText := true, laidKinds := [.data, .data, .data], laidTests := true, laidLooks := .later }
def PathsOfCardSaid : Prop := Claim7.holds Tryz.pinned (.plain (OpenSpec.ofChange pathsOfSpec)) pathsOfCard

/-- THE TIED CARD OF 'salesroomlaw14.PaymentsOf'. -/
def paymentsOfCard : Claim7 := { stood := { row := paymentsOfRow, standIns := [], harness := (true, "1e4afba5e2b30bf1cb0cd5f4be4095d97f273e8908b9a283262aa756d852e150"), looks := false }, kinds := [], alts := [], laidByText := true, laidKinds := [.data, .data, .data], laidTests := true, laidLooks := .later }
def PaymentsOfCardSaid : Prop := Claim7.holds Tryz.pinned (.plain (OpenSpec.ofChange paymentsOfSpec)) paymentsOfCard

/-- THE TIED CARD OF 'salesroomlaw24.ViewsOf'. -/
def viewsOfCard : Claim7 := { stood := { row := viewsOfRow, standIns := [], harness := (true, "1e4afba5e2b30bf1cb0cd5f4be4095d97f273e8908b9a283262aa756d852e150"), looks := false }, kinds := [], alts := [], laidByText := true, laidKinds := [.data, .data, .data], laidTests := true, laidLooks := .later }
def ViewsOfCardSaid : Prop := Claim7.holds Tryz.pinned (.plain (OpenSpec.ofChange viewsOfSpec)) viewsOfCard

/-- THE TIED CARD OF 'salesroomlaw15.OutcomesOf'. -/
def outcomesOfCard : Claim7 := { stood := { row := outcomesOfRow, standIns := [], harness := (true, "1e4afba5e2b30bf1cb0cd5f4be4095d97f273e8908b9a283262aa756d852e150"), looks := false }, kinds := [], alts := [], laidByText := true, laidKinds := [.data, .data, .data], laidTests := true, laidLooks := .later }
def OutcomesOfCardSaid : Prop := Claim7.holds Tryz.pinned (.plain (OpenSpec.ofChange outcomesOfSpec)) outcomesOfCard

/-- THE SECOND FORM's CARD OF 'salesroomlaw11.FirstsOf'. -/
def firstsOfUptoCard : Claim7 := { stood := { row := firstsOfUptoRow, standIns := [], harness := (true, "1e4afba5e2b30bf1cb0cd5f4be4095d97f273e8908b9a283262aa756d852e150"), looks := false }, kinds := [], alts := [], laidByText := true, laidKinds := [.data, .data, .data], laidTests := true, laidLooks := .later }
def FirstsOfUptoCardSaid : Prop := Claim7.holds Tryz.pinned (.plain (OpenSpec.upto firstsOfSpec)) firstsOfUptoCard

/-- THE SECOND FORM's CARD OF 'salesroomlaw07.PathsOf'. -/
def pathsOfUptoCard : Claim7 := { stood := { row := pathsOfUptoRow, standIns := [], harness := (true, "1e4afba5e2b30bf1cb0cd5f4be4095d97f273e8908b9a283262aa756d852e150"), looks := false }, kinds := [], alts := [], laidByText := true, laidKinds := [.data, .data, .data], laidTests := true, laidLooks := .later }
def PathsOfUptoCardSaid : Prop := Claim7.holds Tryz.pinned (.plain (OpenSpec.upto pathsOfSpec)) pathsOfUptoCard

/-- THE SECOND FORM's CARD OF 'salesroomlaw14.PaymentsOf'. -/
def paymentsOfUptoCard : Claim7 := { stood := { row := paymentsOfUptoRow, standIns := [], harness := (true, "1e4afba5e2b30bf1cb0cd5f4be4095d97f273e8908b9a283262aa756d852e150"), looks := false }, kinds := [], alts := [], laidByText := true, laidKinds := [.data, .data, .data], laidTests := true, laidLooks := .later }
def PaymentsOfUptoCardSaid : Prop := Claim7.holds Tryz.pinned (.plain (OpenSpec.upto paymentsOfSpec)) paymentsOfUptoCard

/-- THE SECOND FORM's CARD OF 'salesroomlaw24.ViewsOf'. -/
def viewsOfUptoCard : Claim7 := { stood := { row := viewsOfUptoRow, standIns := [], harness := (true, "1e4afba5e2b30bf1cb0cd5f4be4095d97f273e8908b9a283262aa756d852e150"), looks := false }, kinds := [], alts := [], laidByText := true, laidKinds := [.data, .data, .data], laidTests := true, laidLooks := .later }
def ViewsOfUptoCardSaid : Prop := Claim7.holds Tryz.pinned (.plain (OpenSpec.upto viewsOfSpec)) viewsOfUptoCard

/-- THE SECOND FORM's CARD OF 'salesroomlaw15.OutcomesOf'. -/
def outcomesOfUptoCard : Claim7 := { stood := { row := outcomesOfUptoRow, standIns := [], harness := (true, "1e4afba5e2b30bf1cb0cd5f4be4095d97f273e8908b9a283262aa756d852e150"), looks := false }, kinds := [], alts := [], laidByText := true, laidKinds := [.data, .data, .data], laidTests := true, laidLooks := .later }
def OutcomesOfUptoCardSaid : Prop := Claim7.holds Tryz.pinned (.plain (OpenSpec.upto outcomesOfSpec)) outcomesOfUptoCard
end Rows
end Go.Proofs.YtkddkkcfpnndlaaGreatDoor
