/- ForestsOf: the tied card: for every input the law returns true; what the listed variables hold is the program's own text. -/
import Derived.Test.YtkddkkcfpnndlaaDoorFo50
import Derived.Test.YtkddkkcfpnndlaaDoorCards
import Derived.Test.YtkddkkcfpnndlaaDoorTie
import Derived.SevenTiedAt
namespace Go.Proofs.YtkddkkcfpnndlaaDoor
open Go

theorem forestsOf_card : Rows.ForestsOfCardSaid :=
  Claim7.holds_tied_plain_at .later [] [.data, .data, .data] true (true, "5a07124ba0c5f2785fe185952b6bc8b7a8d4e67681bd71eff3447f3e0989ed47") false
    forestsOf_holds (fun _ h => by cases h) (by kernel_rfl) (fun _ h => by cases h) forestsOf_row_tie rfl ⟨rfl, rfl⟩ (by kernel_rfl) rfl
    (fun f fn hf hfn => by
      obtain rfl : f = 3 := Option.some.inj ((show Tryd.prog.funcNamed "salesroom/salesroomlaw16.ForestsOf" = some 3 by kernel_rfl).symm.trans hf) |>.symm
      obtain rfl : fn = Tryd.f3 := (Option.some.inj (Tryd.func3.symm.trans hfn)).symm
      exact ⟨by kernel_rfl, fun j t ht => by
        rw [Tryd.params3] at ht
        have hm : t ∈ [25, 27, 28] := by simpa using Array.mem_of_getElem? ht
        have hall : ([25, 27, 28].all fun u => !Tryd.prog.wantsStandIn u) = true := by kernel_rfl
        exact (show Tryd.prog.wantsStandIn t = false by simpa using List.all_eq_true.1 hall t hm)⟩)
    (by kernel_rfl)
#print axioms forestsOf_card
end Go.Proofs.YtkddkkcfpnndlaaDoor
