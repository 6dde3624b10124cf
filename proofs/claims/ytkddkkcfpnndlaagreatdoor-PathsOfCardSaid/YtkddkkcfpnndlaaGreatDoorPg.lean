/- PathsOf: the tied card: for every input the law returns true; what the listed variables hold is the program's own text. -/
import Derived.Test.YtkddkkcfpnndlaaGreatDoorPg50
import Derived.Test.YtkddkkcfpnndlaaGreatDoorCards
import Derived.Test.YtkddkkcfpnndlaaGreatDoorTie
import Derived.SevenTiedAt
namespace Go.Proofs.YtkddkkcfpnndlaaGreatDoor
open Go

theorem pathsOf_card : Rows.PathsOfCardSaid :=
  Claim7.holds_tied_plain_at .later [] [.data, .data, .data] true (true, "1e4afba5e2b30bf1cb0cd5f4be4095d97f273e8908b9a283262aa756d852e150") false
    pathsOf_holds (fun _ h => by cases h) (by kernel_rfl) (fun _ h => by cases h) pathsOf_row_tie rfl ⟨rfl, rfl⟩ (by kernel_rfl) rfl
    (fun f fn hf hfn => by
      obtain rfl : f = 4 := Option.some.inj ((show Tryz.prog.funcNamed "salesroom/salesroomlaw07.PathsOf" = some 4 by kernel_rfl).symm.trans hf) |>.symm
      obtain rfl : fn = Tryz.f4 := (Option.some.inj (Tryz.func4.symm.trans hfn)).symm
      exact ⟨by kernel_rfl, fun j t ht => by
        rw [Tryz.params4] at ht
        have hm : t ∈ [50, 25, 3] := by simpa using Array.mem_of_getElem? ht
        have hall : ([50, 25, 3].all fun u => !Tryz.prog.wantsStandIn u) = true := by kernel_rfl
        exact (show Tryz.prog.wantsStandIn t = false by simpa using List.all_eq_true.1 hall t hm)⟩)
    (by kernel_rfl)
#print axioms pathsOf_card
end Go.Proofs.YtkddkkcfpnndlaaGreatDoor
