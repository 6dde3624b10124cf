/-
  No cell of these rows narrows 'for every input' (looked for: loops, veiled, ifaces, maps, wideKeys, modest, calm, conditions, laid).
  DERIVED. THE GIVEN ROWS OF THIS SEAT. 12 by the template 'for every input the law returns true; each argument reads behind the call as it read before'; 0 by the template 'total and deterministic' (their statements: YtbnjeegicbffeaaGreatTotals.lean).
  GIVEN WITH THE SEED: the statements are not yours to turn. If you find one false, say at which input.
  Laid BY PROGRAM, IN A SANDBOX (cutbox-rows.mjs): the forced cells as the released guide's own fill.sh prints them over the translation e21afa478b1db057… (all of the seat's roots in one cut). By AI agents, Wed Nov 11 2026. No macro, syntax, notation, axiom, sorry.
-/
import Derived.Test.YtbnjeegicbffeaaGreatChecked
import GoSem.Claim
import GoSem.ClaimJoined
import GoSem.ClaimMapViews
import Derived.JoinedTies
import Derived.KernelRfl
namespace Go.Proofs.YtbnjeegicbffeaaGreat
/- THE CELL 'sum', in the pinned program and in every row, IS THE sha256 OF THE DUMP (.gsa) THAT YtbnjeegicbffeaaGreatProg.lean LOADS. Nothing in Lean hashes anything: it is a label: what it is worth is what the hold of that sum in a sandbox is worth. -/
noncomputable def Tryz.pinned : Pinned := { name := "ytbnjeegicbffeaagreat", sum := "e21afa478b1db0572140142a718d2627d542e3cf5819c212af43f9ef81b97ca1", checked := Tryz.checked }
namespace Rows
def none {H : Type} : Left H := { results := [], args := [] }

/-- 'salesroomlaw24.ViewsOwn': WHATEVER THE INPUT: true; the input reads as it did. -/
def viewsOwnSpec : ChangeSpec := { name := "viewsOwn", fn := fun _ => fun
  | [d1, d2] => { results := [.lit (.bool true)], args := [d1, d2] }
  | _ => none }
def viewsOwnRow : OpenClaim := { program := "ytbnjeegicbffeaagreat", sum := "e21afa478b1db0572140142a718d2627d542e3cf5819c212af43f9ef81b97ca1", func := "salesroom/salesroomlaw24.ViewsOwn", spec := "viewsOwn", unfollowed := true, recurses := true, apart := false }
def ViewsOwnSaid : Prop := viewsOwnRow.holds Tryz.pinned (OpenSpec.ofChange viewsOwnSpec)

/-- ITS FALSE NEIGHBOUR: 'it returns false'. Refute it at one input. -/
def viewsOwnWrong : ChangeSpec := { name := "viewsOwn", fn := fun _ => fun
  | [d1, d2] => { results := [.lit (.bool false)], args := [d1, d2] }
  | _ => none }
def ViewsOwnWrongFalsely : Prop := viewsOwnRow.holds Tryz.pinned (OpenSpec.ofChange viewsOwnWrong)

/-- 'salesroomlaw24.ViewsMine': WHATEVER THE INPUT: true; the input reads as it did. -/
def viewsMineSpec : ChangeSpec := { name := "viewsMine", fn := fun _ => fun
  | [d] => { results := [.lit (.bool true)], args := [d] }
  | _ => none }
def viewsMineRow : OpenClaim := { program := "ytbnjeegicbffeaagreat", sum := "e21afa478b1db0572140142a718d2627d542e3cf5819c212af43f9ef81b97ca1", func := "salesroom/salesroomlaw24.ViewsMine", spec := "viewsMine", unfollowed := true, recurses := true, apart := false }
def ViewsMineSaid : Prop := viewsMineRow.holds Tryz.pinned (OpenSpec.ofChange viewsMineSpec)

/-- ITS FALSE NEIGHBOUR: 'it returns false'. Refute it at one input. -/
def viewsMineWrong : ChangeSpec := { name := "viewsMine", fn := fun _ => fun
  | [d] => { results := [.lit (.bool false)], args := [d] }
  | _ => none }
def ViewsMineWrongFalsely : Prop := viewsMineRow.holds Tryz.pinned (OpenSpec.ofChange viewsMineWrong)

/-- 'salesroomlaw15.OutcomesLeast': WHATEVER THE INPUT: true; the input reads as it did. -/
def outcomesLeastSpec : ChangeSpec := { name := "outcomesLeast", fn := fun _ => fun
  | [d1, d2] => { results := [.lit (.bool true)], args := [d1, d2] }
  | _ => none }
def outcomesLeastRow : OpenClaim := { program := "ytbnjeegicbffeaagreat", sum := "e21afa478b1db0572140142a718d2627d542e3cf5819c212af43f9ef81b97ca1", func := "salesroom/salesroomlaw15.OutcomesLeast", spec := "outcomesLeast", unfollowed := true, recurses := true, apart := false }
def OutcomesLeastSaid : Prop := outcomesLeastRow.holds Tryz.pinned (OpenSpec.ofChange outcomesLeastSpec)

/-- ITS FALSE NEIGHBOUR: 'it returns false'. Refute it at one input. -/
def outcomesLeastWrong : ChangeSpec := { name := "outcomesLeast", fn := fun _ => fun
  | [d1, d2] => { results := [.lit (.bool false)], args := [d1, d2] }
  | _ => none }
def OutcomesLeastWrongFalsely : Prop := outcomesLeastRow.holds Tryz.pinned (OpenSpec.ofChange outcomesLeastWrong)

/-- 'salesroomlaw15.OutcomesMeet': WHATEVER THE INPUT: true; the input reads as it did. -/
def outcomesMeetSpec : ChangeSpec := { name := "outcomesMeet", fn := fun _ => fun
  | [d] => { results := [.lit (.bool true)], args := [d] }
  | _ => none }
def outcomesMeetRow : OpenClaim := { program := "ytbnjeegicbffeaagreat", sum := "e21afa478b1db0572140142a718d2627d542e3cf5819c212af43f9ef81b97ca1", func := "salesroom/salesroomlaw15.OutcomesMeet", spec := "outcomesMeet", unfollowed := true, recurses := true, apart := false }
def OutcomesMeetSaid : Prop := outcomesMeetRow.holds Tryz.pinned (OpenSpec.ofChange outcomesMeetSpec)

/-- ITS FALSE NEIGHBOUR: 'it returns false'. Refute it at one input. -/
def outcomesMeetWrong : ChangeSpec := { name := "outcomesMeet", fn := fun _ => fun
  | [d] => { results := [.lit (.bool false)], args := [d] }
  | _ => none }
def OutcomesMeetWrongFalsely : Prop := outcomesMeetRow.holds Tryz.pinned (OpenSpec.ofChange outcomesMeetWrong)

/-- 'salesroomlaw15.OutcomesFirst': WHATEVER THE INPUT: true; the input reads as it did. -/
def outcomesFirstSpec : ChangeSpec := { name := "outcomesFirst", fn := fun _ => fun
  | [d1, d2] => { results := [.lit (.bool true)], args := [d1, d2] }
  | _ => none }
def outcomesFirstRow : OpenClaim := { program := "ytbnjeegicbffeaagreat", sum := "e21afa478b1db0572140142a718d2627d542e3cf5819c212af43f9ef81b97ca1", func := "salesroom/salesroomlaw15.OutcomesFirst", spec := "outcomesFirst", unfollowed := true, recurses := true, apart := false }
def OutcomesFirstSaid : Prop := outcomesFirstRow.holds Tryz.pinned (OpenSpec.ofChange outcomesFirstSpec)

/-- ITS FALSE NEIGHBOUR: 'it returns false'. Refute it at one input. -/
def outcomesFirstWrong : ChangeSpec := { name := "outcomesFirst", fn := fun _ => fun
  | [d1, d2] => { results := [.lit (.bool false)], args := [d1, d2] }
  | _ => none }
def OutcomesFirstWrongFalsely : Prop := outcomesFirstRow.holds Tryz.pinned (OpenSpec.ofChange outcomesFirstWrong)

/-- 'salesroomlaw15.OutcomesNone': WHATEVER THE INPUT: true; the input reads as it did. -/
def outcomesNoneSpec : ChangeSpec := { name := "outcomesNone", fn := fun _ => fun
  | [d1, d2] => { results := [.lit (.bool true)], args := [d1, d2] }
  | _ => none }
def outcomesNoneRow : OpenClaim := { program := "ytbnjeegicbffeaagreat", sum := "e21afa478b1db0572140142a718d2627d542e3cf5819c212af43f9ef81b97ca1", func := "salesroom/salesroomlaw15.OutcomesNone", spec := "outcomesNone", unfollowed := true, recurses := true, apart := false }
def OutcomesNoneSaid : Prop := outcomesNoneRow.holds Tryz.pinned (OpenSpec.ofChange outcomesNoneSpec)

/-- ITS FALSE NEIGHBOUR: 'it returns false'. Refute it at one input. -/
def outcomesNoneWrong : ChangeSpec := { name := "outcomesNone", fn := fun _ => fun
  | [d1, d2] => { results := [.lit (.bool false)], args := [d1, d2] }
  | _ => none }
def OutcomesNoneWrongFalsely : Prop := outcomesNoneRow.holds Tryz.pinned (OpenSpec.ofChange outcomesNoneWrong)

/-- 'salesroomlaw14.PaymentsPrices': WHATEVER THE INPUT: true; the input reads as it did. -/
def paymentsPricesSpec : ChangeSpec := { name := "paymentsPrices", fn := fun _ => fun
  | [d] => { results := [.lit (.bool true)], args := [d] }
  | _ => none }
def paymentsPricesRow : OpenClaim := { program := "ytbnjeegicbffeaagreat", sum := "e21afa478b1db0572140142a718d2627d542e3cf5819c212af43f9ef81b97ca1", func := "salesroom/salesroomlaw14.PaymentsPrices", spec := "paymentsPrices", unfollowed := true, recurses := true, apart := false }
def PaymentsPricesSaid : Prop := paymentsPricesRow.holds Tryz.pinned (OpenSpec.ofChange paymentsPricesSpec)

/-- ITS FALSE NEIGHBOUR: 'it returns false'. Refute it at one input. -/
def paymentsPricesWrong : ChangeSpec := { name := "paymentsPrices", fn := fun _ => fun
  | [d] => { results := [.lit (.bool false)], args := [d] }
  | _ => none }
def PaymentsPricesWrongFalsely : Prop := paymentsPricesRow.holds Tryz.pinned (OpenSpec.ofChange paymentsPricesWrong)

/-- 'salesroomlaw15.OutcomesGone': WHATEVER THE INPUT: true; the input reads as it did. -/
def outcomesGoneSpec : ChangeSpec := { name := "outcomesGone", fn := fun _ => fun
  | [d1, d2] => { results := [.lit (.bool true)], args := [d1, d2] }
  | _ => none }
def outcomesGoneRow : OpenClaim := { program := "ytbnjeegicbffeaagreat", sum := "e21afa478b1db0572140142a718d2627d542e3cf5819c212af43f9ef81b97ca1", func := "salesroom/salesroomlaw15.OutcomesGone", spec := "outcomesGone", unfollowed := true, recurses := true, apart := false }
def OutcomesGoneSaid : Prop := outcomesGoneRow.holds Tryz.pinned (OpenSpec.ofChange outcomesGoneSpec)

/-- ITS FALSE NEIGHBOUR: 'it returns false'. Refute it at one input. -/
def outcomesGoneWrong : ChangeSpec := { name := "outcomesGone", fn := fun _ => fun
  | [d1, d2] => { results := [.lit (.bool false)], args := [d1, d2] }
  | _ => none }
def OutcomesGoneWrongFalsely : Prop := outcomesGoneRow.holds Tryz.pinned (OpenSpec.ofChange outcomesGoneWrong)

/-- 'salesroomlaw16.ForestsThere': WHATEVER THE INPUT: true; the input reads as it did. -/
def forestsThereSpec : ChangeSpec := { name := "forestsThere", fn := fun _ => fun
  | [d] => { results := [.lit (.bool true)], args := [d] }
  | _ => none }
def forestsThereRow : OpenClaim := { program := "ytbnjeegicbffeaagreat", sum := "e21afa478b1db0572140142a718d2627d542e3cf5819c212af43f9ef81b97ca1", func := "salesroom/salesroomlaw16.ForestsThere", spec := "forestsThere", unfollowed := true, recurses := true, apart := false }
def ForestsThereSaid : Prop := forestsThereRow.holds Tryz.pinned (OpenSpec.ofChange forestsThereSpec)

/-- ITS FALSE NEIGHBOUR: 'it returns false'. Refute it at one input. -/
def forestsThereWrong : ChangeSpec := { name := "forestsThere", fn := fun _ => fun
  | [d] => { results := [.lit (.bool false)], args := [d] }
  | _ => none }
def ForestsThereWrongFalsely : Prop := forestsThereRow.holds Tryz.pinned (OpenSpec.ofChange forestsThereWrong)

/-- 'salesroomlaw16.ForestsSpoil': WHATEVER THE INPUT: true; the input reads as it did. -/
def forestsSpoilSpec : ChangeSpec := { name := "forestsSpoil", fn := fun _ => fun
  | [d1, d2, d3] => { results := [.lit (.bool true)], args := [d1, d2, d3] }
  | _ => none }
def forestsSpoilRow : OpenClaim := { program := "ytbnjeegicbffeaagreat", sum := "e21afa478b1db0572140142a718d2627d542e3cf5819c212af43f9ef81b97ca1", func := "salesroom/salesroomlaw16.ForestsSpoil", spec := "forestsSpoil", unfollowed := true, recurses := true, apart := false }
def ForestsSpoilSaid : Prop := forestsSpoilRow.holds Tryz.pinned (OpenSpec.ofChange forestsSpoilSpec)

/-- ITS FALSE NEIGHBOUR: 'it returns false'. Refute it at one input. -/
def forestsSpoilWrong : ChangeSpec := { name := "forestsSpoil", fn := fun _ => fun
  | [d1, d2, d3] => { results := [.lit (.bool false)], args := [d1, d2, d3] }
  | _ => none }
def ForestsSpoilWrongFalsely : Prop := forestsSpoilRow.holds Tryz.pinned (OpenSpec.ofChange forestsSpoilWrong)

/-- 'salesroomlaw16.ForestsOnly': WHATEVER THE INPUT: true; the input reads as it did. -/
def forestsOnlySpec : ChangeSpec := { name := "forestsOnly", fn := fun _ => fun
  | [d1, d2] => { results := [.lit (.bool true)], args := [d1, d2] }
  | _ => none }
def forestsOnlyRow : OpenClaim := { program := "ytbnjeegicbffeaagreat", sum := "e21afa478b1db0572140142a718d2627d542e3cf5819c212af43f9ef81b97ca1", func := "salesroom/salesroomlaw16.ForestsOnly", spec := "forestsOnly", unfollowed := true, recurses := true, apart := false }
def ForestsOnlySaid : Prop := forestsOnlyRow.holds Tryz.pinned (OpenSpec.ofChange forestsOnlySpec)

/-- ITS FALSE NEIGHBOUR: 'it returns false'. Refute it at one input. -/
def forestsOnlyWrong : ChangeSpec := { name := "forestsOnly", fn := fun _ => fun
  | [d1, d2] => { results := [.lit (.bool false)], args := [d1, d2] }
  | _ => none }
def ForestsOnlyWrongFalsely : Prop := forestsOnlyRow.holds Tryz.pinned (OpenSpec.ofChange forestsOnlyWrong)

/-- 'salesroomlaw15.OutcomesEven': WHATEVER THE INPUT: true; the input reads as it did. -/
def outcomesEvenSpec : ChangeSpec := { name := "outcomesEven", fn := fun _ => fun
  | [d] => { results := [.lit (.bool true)], args := [d] }
  | _ => none }
def outcomesEvenRow : OpenClaim := { program := "ytbnjeegicbffeaagreat", sum := "e21afa478b1db0572140142a718d2627d542e3cf5819c212af43f9ef81b97ca1", func := "salesroom/salesroomlaw15.OutcomesEven", spec := "outcomesEven", unfollowed := true, recurses := true, apart := false }
def OutcomesEvenSaid : Prop := outcomesEvenRow.holds Tryz.pinned (OpenSpec.ofChange outcomesEvenSpec)

/-- ITS FALSE NEIGHBOUR: 'it returns false'. Refute it at one input. -/
def outcomesEvenWrong : ChangeSpec := { name := "outcomesEven", fn := fun _ => fun
  | [d] => { results := [.lit (.bool false)], args := [d] }
  | _ => none }
def OutcomesEvenWrongFalsely : Prop := outcomesEvenRow.holds Tryz.pinned (OpenSpec.ofChange outcomesEvenWrong)

/- THE SECOND FORM. 'bulk': how many values and letters a reading holds, each counted each time it is reached (what is shared counts as often as it is met; a slice's spare places count too). A statement '..UptoSaid' is the law's where the arguments, and the package variables that the reading takes, are together of bulk at most 1048576: NARROWER than '..Said'. Prove '..Said' where nothing that the law and all that it calls make is longer than what came in: it says more and counts as full. Else prove '..UptoSaid'. A law counts once. -/
mutual
def uptoBulk {H : Type} : DataW H → Nat
  | .lit (.string bytes) => bytes.length + 1
  | .lit _ => 1
  | .nil => 1
  | .ptr d => uptoBulk d + 1
  | .slice elems spare => uptoBulkAll elems + uptoBulkAll spare + 1
  | .agg parts => uptoBulkAll parts + 1
  | .iface _ d => uptoBulk d + 1
  | .map entries => uptoBulkEntries entries + 1
  | .held _ => 1
def uptoBulkAll {H : Type} : List (DataW H) → Nat
  | [] => 0
  | d :: r => uptoBulk d + uptoBulkAll r
def uptoBulkEntries {H : Type} : List (Lit × DataW H) → Nat
  | [] => 0
  | x :: r => uptoBulkEntry x + uptoBulkEntries r
def uptoBulkEntry {H : Type} : Lit × DataW H → Nat
  | (.string bytes, d) => bytes.length + uptoBulk d + 1
  | (_, d) => uptoBulk d + 1
 end
def uptoSmall : (H : Type) → List (DataW H) → Bool := fun _ ds => decide (uptoBulkAll ds ≤ 1048576)
def OpenSpec.upto (s : _root_.Go.ChangeSpec) : _root_.Go.OpenSpec := { _root_.Go.OpenSpec.ofChange s with cond := some uptoSmall }

/-- 'salesroomlaw24.ViewsOwn', WHERE WHAT IT READS IS OF BULK AT MOST 1048576: true; the input reads as it did. -/
def viewsOwnUptoRow : OpenClaim := { program := "ytbnjeegicbffeaagreat", sum := "e21afa478b1db0572140142a718d2627d542e3cf5819c212af43f9ef81b97ca1", func := "salesroom/salesroomlaw24.ViewsOwn", spec := "viewsOwn", unfollowed := true, recurses := true, apart := false, narrowed := true }
def ViewsOwnUptoSaid : Prop := viewsOwnUptoRow.holds Tryz.pinned (OpenSpec.upto viewsOwnSpec)

/-- 'salesroomlaw24.ViewsMine', WHERE WHAT IT READS IS OF BULK AT MOST 1048576: true; the input reads as it did. -/
def viewsMineUptoRow : OpenClaim := { program := "ytbnjeegicbffeaagreat", sum := "e21afa478b1db0572140142a718d2627d542e3cf5819c212af43f9ef81b97ca1", func := "salesroom/salesroomlaw24.ViewsMine", spec := "viewsMine", unfollowed := true, recurses := true, apart := false, narrowed := true }
def ViewsMineUptoSaid : Prop := viewsMineUptoRow.holds Tryz.pinned (OpenSpec.upto viewsMineSpec)

/-- 'salesroomlaw15.OutcomesLeast', WHERE WHAT IT READS IS OF BULK AT MOST 1048576: true; the input reads as it did. -/
def outcomesLeastUptoRow : OpenClaim := { program := "ytbnjeegicbffeaagreat", sum := "e21afa478b1db0572140142a718d2627d542e3cf5819c212af43f9ef81b97ca1", func := "salesroom/salesroomlaw15.OutcomesLeast", spec := "outcomesLeast", unfollowed := true, recurses := true, apart := false, narrowed := true }
def OutcomesLeastUptoSaid : Prop := outcomesLeastUptoRow.holds Tryz.pinned (OpenSpec.upto outcomesLeastSpec)

/-- 'salesroomlaw15.OutcomesMeet', WHERE WHAT IT READS IS OF BULK AT MOST 1048576: true; the input reads as it did. -/
def outcomesMeetUptoRow : OpenClaim := { program := "ytbnjeegicbffeaagreat", sum := "e21afa478b1db0572140142a718d2627d542e3cf5819c212af43f9ef81b97ca1", func := "salesroom/salesroomlaw15.OutcomesMeet", spec := "outcomesMeet", unfollowed := true, recurses := true, apart := false, narrowed := true }
def OutcomesMeetUptoSaid : Prop := outcomesMeetUptoRow.holds Tryz.pinned (OpenSpec.upto outcomesMeetSpec)

/-- 'salesroomlaw15.OutcomesFirst', WHERE WHAT IT READS IS OF BULK AT MOST 1048576: true; the input reads as it did. -/
def outcomesFirstUptoRow : OpenClaim := { program := "ytbnjeegicbffeaagreat", sum := "e21afa478b1db0572140142a718d2627d542e3cf5819c212af43f9ef81b97ca1", func := "salesroom/salesroomlaw15.OutcomesFirst", spec := "outcomesFirst", unfollowed := true, recurses := true, apart := false, narrowed := true }
def OutcomesFirstUptoSaid : Prop := outcomesFirstUptoRow.holds Tryz.pinned (OpenSpec.upto outcomesFirstSpec)

/-- 'salesroomlaw15.OutcomesNone', WHERE WHAT IT READS IS OF BULK AT MOST 1048576: true; the input reads as it did. -/
def outcomesNoneUptoRow : OpenClaim := { program := "ytbnjeegicbffeaagreat", sum := "e21afa478b1db0572140142a718d2627d542e3cf5819c212af43f9ef81b97ca1", func := "salesroom/salesroomlaw15.OutcomesNone", spec := "outcomesNone", unfollowed := true, recurses := true, apart := false, narrowed := true }
def OutcomesNoneUptoSaid : Prop := outcomesNoneUptoRow.holds Tryz.pinned (OpenSpec.upto outcomesNoneSpec)

/-- 'salesroomlaw14.PaymentsPrices', WHERE WHAT IT READS IS OF BULK AT MOST 1048576: true; the input reads as it did. -/
def paymentsPricesUptoRow : OpenClaim := { program := "ytbnjeegicbffeaagreat", sum := "e21afa478b1db0572140142a718d2627d542e3cf5819c212af43f9ef81b97ca1", func := "salesroom/salesroomlaw14.PaymentsPrices", spec := "paymentsPrices", unfollowed := true, recurses := true, apart := false, narrowed := true }
def PaymentsPricesUptoSaid : Prop := paymentsPricesUptoRow.holds Tryz.pinned (OpenSpec.upto paymentsPricesSpec)

/-- 'salesroomlaw15.OutcomesGone', WHERE WHAT IT READS IS OF BULK AT MOST 1048576: true; the input reads as it did. -/
def outcomesGoneUptoRow : OpenClaim := { program := "ytbnjeegicbffeaagreat", sum := "e21afa478b1db0572140142a718d2627d542e3cf5819c212af43f9ef81b97ca1", func := "salesroom/salesroomlaw15.OutcomesGone", spec := "outcomesGone", unfollowed := true, recurses := true, apart := false, narrowed := true }
def OutcomesGoneUptoSaid : Prop := outcomesGoneUptoRow.holds Tryz.pinned (OpenSpec.upto outcomesGoneSpec)

/-- 'salesroomlaw16.ForestsThere', WHERE WHAT IT READS IS OF BULK AT MOST 1048576: true; the input reads as it did. -/
def forestsThereUptoRow : OpenClaim := { program := "ytbnjeegicbffeaagreat", sum := "e21afa478b1db0572140142a718d2627d542e3cf5819c212af43f9ef81b97ca1", func := "salesroom/salesroomlaw16.ForestsThere", spec := "forestsThere", unfollowed := true, recurses := true, apart := false, narrowed := true }
def ForestsThereUptoSaid : Prop := forestsThereUptoRow.holds Tryz.pinned (OpenSpec.upto forestsThereSpec)

/-- 'salesroomlaw16.ForestsSpoil', WHERE WHAT IT READS IS OF BULK AT MOST 1048576: true; the input reads as it did. -/
def forestsSpoilUptoRow : OpenClaim := { program := "ytbnjeegicbffeaagreat", sum := "e21afa478b1db0572140142a718d2627d542e3cf5819c212af43f9ef81b97ca1", func := "salesroom/salesroomlaw16.ForestsSpoil", spec := "forestsSpoil", unfollowed := true, recurses := true, apart := false, narrowed := true }
def ForestsSpoilUptoSaid : Prop := forestsSpoilUptoRow.holds Tryz.pinned (OpenSpec.upto forestsSpoilSpec)

/-- 'salesroomlaw16.ForestsOnly', WHERE WHAT IT READS IS OF BULK AT MOST 1048576: true; the input reads as it did. -/
def forestsOnlyUptoRow : OpenClaim := { program := "ytbnjeegicbffeaagreat", sum := "e21afa478b1db0572140142a718d2627d542e3cf5819c212af43f9ef81b97ca1", func := "salesroom/salesroomlaw16.ForestsOnly", spec := "forestsOnly", unfollowed := true, recurses := true, apart := false, narrowed := true }
def ForestsOnlyUptoSaid : Prop := forestsOnlyUptoRow.holds Tryz.pinned (OpenSpec.upto forestsOnlySpec)

/-- 'salesroomlaw15.OutcomesEven', WHERE WHAT IT READS IS OF BULK AT MOST 1048576: true; the input reads as it did. -/
def outcomesEvenUptoRow : OpenClaim := { program := "ytbnjeegicbffeaagreat", sum := "e21afa478b1db0572140142a718d2627d542e3cf5819c212af43f9ef81b97ca1", func := "salesroom/salesroomlaw15.OutcomesEven", spec := "outcomesEven", unfollowed := true, recurses := true, apart := false, narrowed := true }
def OutcomesEvenUptoSaid : Prop := outcomesEvenUptoRow.holds Tryz.pinned (OpenSpec.upto outcomesEvenSpec)

end Rows
end Go.Proofs.YtbnjeegicbffeaaGreat
