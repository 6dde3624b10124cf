/-
  No cell of these rows narrows 'for every input' (looked for: loops, veiled, ifaces, maps, wideKeys, modest, calm, conditions, laid).
  DERIVED. THE GIVEN ROWS OF THIS SEAT. 17 by the template 'for every input the law returns true; each argument reads behind the call as it read before'; 0 by the template 'total and deterministic' (their statements: YtbnjeegicbffeaaTotals.lean).
  GIVEN WITH THE SEED: the statements are not yours to turn. If you find one false, say at which input.
  Laid BY PROGRAM, IN A SANDBOX (cutbox-rows.mjs): the forced cells as the released guide's own fill.sh prints them over the translation 4d304063eee4cb4e… (all of the seat's roots in one cut). By AI agents, Wed Nov 11 2026. No macro, syntax, notation, axiom, sorry.
-/
import Derived.Test.YtbnjeegicbffeaaChecked
import GoSem.Claim
import GoSem.ClaimJoined
import GoSem.ClaimMapViews
import Derived.JoinedTies
import Derived.KernelRfl
namespace Go.Proofs.Ytbnjeegicbffeaa
/- THE CELL 'sum', in the pinned program and in every row, IS THE sha256 OF THE DUMP (.gsa) THAT YtbnjeegicbffeaaProg.lean LOADS. Nothing in Lean hashes anything: it is a label: what it is worth is what the hold of that sum in a sandbox is worth. -/
noncomputable def Try.pinned : Pinned := { name := "ytbnjeegicbffeaa", sum := "4d304063eee4cb4e12e029271a9edcd4d07c41871af9dcc0d827f4d447f32425", checked := Try.checked }
namespace Rows
def none {H : Type} : Left H := { results := [], args := [] }

/-- 'salesroomlaw16.ForestsRank': WHATEVER THE INPUT: true; the input reads as it did. -/
def forestsRankSpec : ChangeSpec := { name := "forestsRank", fn := fun _ => fun
  | [d1, d2, d3] => { results := [.lit (.bool true)], args := [d1, d2, d3] }
  | _ => none }
def forestsRankRow : OpenClaim := { program := "ytbnjeegicbffeaa", sum := "4d304063eee4cb4e12e029271a9edcd4d07c41871af9dcc0d827f4d447f32425", func := "salesroom/salesroomlaw16.ForestsRank", spec := "forestsRank", unfollowed := true, recurses := true, apart := false }
def ForestsRankSaid : Prop := forestsRankRow.holds Try.pinned (OpenSpec.ofChange forestsRankSpec)

/-- ITS FALSE NEIGHBOUR: 'it returns false'. Refute it at one input. -/
def forestsRankWrong : ChangeSpec := { name := "forestsRank", fn := fun _ => fun
  | [d1, d2, d3] => { results := [.lit (.bool false)], args := [d1, d2, d3] }
  | _ => none }
def ForestsRankWrongFalsely : Prop := forestsRankRow.holds Try.pinned (OpenSpec.ofChange forestsRankWrong)

/-- 'salesroomlaw11.FirstsBest': WHATEVER THE INPUT: true; the input reads as it did. -/
def firstsBestSpec : ChangeSpec := { name := "firstsBest", fn := fun _ => fun
  | [d1, d2] => { results := [.lit (.bool true)], args := [d1, d2] }
  | _ => none }
def firstsBestRow : OpenClaim := { program := "ytbnjeegicbffeaa", sum := "4d304063eee4cb4e12e029271a9edcd4d07c41871af9dcc0d827f4d447f32425", func := "salesroom/salesroomlaw11.FirstsBest", spec := "firstsBest", unfollowed := true, recurses := true, apart := false }
def FirstsBestSaid : Prop := firstsBestRow.holds Try.pinned (OpenSpec.ofChange firstsBestSpec)

/-- ITS FALSE NEIGHBOUR: 'it returns false'. Refute it at one input. -/
def firstsBestWrong : ChangeSpec := { name := "firstsBest", fn := fun _ => fun
  | [d1, d2] => { results := [.lit (.bool false)], args := [d1, d2] }
  | _ => none }
def FirstsBestWrongFalsely : Prop := firstsBestRow.holds Try.pinned (OpenSpec.ofChange firstsBestWrong)

/-- 'salesroomlaw11.FirstsFirst': WHATEVER THE INPUT: true; the input reads as it did. -/
def firstsFirstSpec : ChangeSpec := { name := "firstsFirst", fn := fun _ => fun
  | [d1, d2, d3] => { results := [.lit (.bool true)], args := [d1, d2, d3] }
  | _ => none }
def firstsFirstRow : OpenClaim := { program := "ytbnjeegicbffeaa", sum := "4d304063eee4cb4e12e029271a9edcd4d07c41871af9dcc0d827f4d447f32425", func := "salesroom/salesroomlaw11.FirstsFirst", spec := "firstsFirst", unfollowed := true, recurses := true, apart := false }
def FirstsFirstSaid : Prop := firstsFirstRow.holds Try.pinned (OpenSpec.ofChange firstsFirstSpec)

/-- ITS FALSE NEIGHBOUR: 'it returns false'. Refute it at one input. -/
def firstsFirstWrong : ChangeSpec := { name := "firstsFirst", fn := fun _ => fun
  | [d1, d2, d3] => { results := [.lit (.bool false)], args := [d1, d2, d3] }
  | _ => none }
def FirstsFirstWrongFalsely : Prop := firstsFirstRow.holds Try.pinned (OpenSpec.ofChange firstsFirstWrong)

/-- 'salesroomlaw11.FirstsTaken': WHATEVER THE INPUT: true; the input reads as it did. -/
def firstsTakenSpec : ChangeSpec := { name := "firstsTaken", fn := fun _ => fun
  | [d1, d2] => { results := [.lit (.bool true)], args := [d1, d2] }
  | _ => none }
def firstsTakenRow : OpenClaim := { program := "ytbnjeegicbffeaa", sum := "4d304063eee4cb4e12e029271a9edcd4d07c41871af9dcc0d827f4d447f32425", func := "salesroom/salesroomlaw11.FirstsTaken", spec := "firstsTaken", unfollowed := true, recurses := true, apart := false }
def FirstsTakenSaid : Prop := firstsTakenRow.holds Try.pinned (OpenSpec.ofChange firstsTakenSpec)

/-- ITS FALSE NEIGHBOUR: 'it returns false'. Refute it at one input. -/
def firstsTakenWrong : ChangeSpec := { name := "firstsTaken", fn := fun _ => fun
  | [d1, d2] => { results := [.lit (.bool false)], args := [d1, d2] }
  | _ => none }
def FirstsTakenWrongFalsely : Prop := firstsTakenRow.holds Try.pinned (OpenSpec.ofChange firstsTakenWrong)

/-- 'salesroomlaw11.FirstsNamed': WHATEVER THE INPUT: true; the input reads as it did. -/
def firstsNamedSpec : ChangeSpec := { name := "firstsNamed", fn := fun _ => fun
  | [d1, d2, d3] => { results := [.lit (.bool true)], args := [d1, d2, d3] }
  | _ => none }
def firstsNamedRow : OpenClaim := { program := "ytbnjeegicbffeaa", sum := "4d304063eee4cb4e12e029271a9edcd4d07c41871af9dcc0d827f4d447f32425", func := "salesroom/salesroomlaw11.FirstsNamed", spec := "firstsNamed", unfollowed := true, recurses := true, apart := false }
def FirstsNamedSaid : Prop := firstsNamedRow.holds Try.pinned (OpenSpec.ofChange firstsNamedSpec)

/-- ITS FALSE NEIGHBOUR: 'it returns false'. Refute it at one input. -/
def firstsNamedWrong : ChangeSpec := { name := "firstsNamed", fn := fun _ => fun
  | [d1, d2, d3] => { results := [.lit (.bool false)], args := [d1, d2, d3] }
  | _ => none }
def FirstsNamedWrongFalsely : Prop := firstsNamedRow.holds Try.pinned (OpenSpec.ofChange firstsNamedWrong)

/-- 'salesroomlaw11.FirstsAhead': WHATEVER THE INPUT: true; the input reads as it did. -/
def firstsAheadSpec : ChangeSpec := { name := "firstsAhead", fn := fun _ => fun
  | [d1, d2] => { results := [.lit (.bool true)], args := [d1, d2] }
  | _ => none }
def firstsAheadRow : OpenClaim := { program := "ytbnjeegicbffeaa", sum := "4d304063eee4cb4e12e029271a9edcd4d07c41871af9dcc0d827f4d447f32425", func := "salesroom/salesroomlaw11.FirstsAhead", spec := "firstsAhead", unfollowed := true, recurses := true, apart := false }
def FirstsAheadSaid : Prop := firstsAheadRow.holds Try.pinned (OpenSpec.ofChange firstsAheadSpec)

/-- ITS FALSE NEIGHBOUR: 'it returns false'. Refute it at one input. -/
def firstsAheadWrong : ChangeSpec := { name := "firstsAhead", fn := fun _ => fun
  | [d1, d2] => { results := [.lit (.bool false)], args := [d1, d2] }
  | _ => none }
def FirstsAheadWrongFalsely : Prop := firstsAheadRow.holds Try.pinned (OpenSpec.ofChange firstsAheadWrong)

/-- 'salesroomlaw11.FirstsTimes': WHATEVER THE INPUT: true; the input reads as it did. -/
def firstsTimesSpec : ChangeSpec := { name := "firstsTimes", fn := fun _ => fun
  | [d1, d2, d3] => { results := [.lit (.bool true)], args := [d1, d2, d3] }
  | _ => none }
def firstsTimesRow : OpenClaim := { program := "ytbnjeegicbffeaa", sum := "4d304063eee4cb4e12e029271a9edcd4d07c41871af9dcc0d827f4d447f32425", func := "salesroom/salesroomlaw11.FirstsTimes", spec := "firstsTimes", unfollowed := true, recurses := true, apart := false }
def FirstsTimesSaid : Prop := firstsTimesRow.holds Try.pinned (OpenSpec.ofChange firstsTimesSpec)

/-- ITS FALSE NEIGHBOUR: 'it returns false'. Refute it at one input. -/
def firstsTimesWrong : ChangeSpec := { name := "firstsTimes", fn := fun _ => fun
  | [d1, d2, d3] => { results := [.lit (.bool false)], args := [d1, d2, d3] }
  | _ => none }
def FirstsTimesWrongFalsely : Prop := firstsTimesRow.holds Try.pinned (OpenSpec.ofChange firstsTimesWrong)

/-- 'salesroomlaw11.FirstsIdle': WHATEVER THE INPUT: true; the input reads as it did. -/
def firstsIdleSpec : ChangeSpec := { name := "firstsIdle", fn := fun _ => fun
  | [d1, d2, d3] => { results := [.lit (.bool true)], args := [d1, d2, d3] }
  | _ => none }
def firstsIdleRow : OpenClaim := { program := "ytbnjeegicbffeaa", sum := "4d304063eee4cb4e12e029271a9edcd4d07c41871af9dcc0d827f4d447f32425", func := "salesroom/salesroomlaw11.FirstsIdle", spec := "firstsIdle", unfollowed := true, recurses := true, apart := false }
def FirstsIdleSaid : Prop := firstsIdleRow.holds Try.pinned (OpenSpec.ofChange firstsIdleSpec)

/-- ITS FALSE NEIGHBOUR: 'it returns false'. Refute it at one input. -/
def firstsIdleWrong : ChangeSpec := { name := "firstsIdle", fn := fun _ => fun
  | [d1, d2, d3] => { results := [.lit (.bool false)], args := [d1, d2, d3] }
  | _ => none }
def FirstsIdleWrongFalsely : Prop := firstsIdleRow.holds Try.pinned (OpenSpec.ofChange firstsIdleWrong)

/-- 'salesroomlaw07.PathsReach': WHATEVER THE INPUT: true; the input reads as it did. -/
def pathsReachSpec : ChangeSpec := { name := "pathsReach", fn := fun _ => fun
  | [d1, d2, d3] => { results := [.lit (.bool true)], args := [d1, d2, d3] }
  | _ => none }
def pathsReachRow : OpenClaim := { program := "ytbnjeegicbffeaa", sum := "4d304063eee4cb4e12e029271a9edcd4d07c41871af9dcc0d827f4d447f32425", func := "salesroom/salesroomlaw07.PathsReach", spec := "pathsReach", unfollowed := true, recurses := true, apart := false }
def PathsReachSaid : Prop := pathsReachRow.holds Try.pinned (OpenSpec.ofChange pathsReachSpec)

/-- ITS FALSE NEIGHBOUR: 'it returns false'. Refute it at one input. -/
def pathsReachWrong : ChangeSpec := { name := "pathsReach", fn := fun _ => fun
  | [d1, d2, d3] => { results := [.lit (.bool false)], args := [d1, d2, d3] }
  | _ => none }
def PathsReachWrongFalsely : Prop := pathsReachRow.holds Try.pinned (OpenSpec.ofChange pathsReachWrong)

/-- 'salesroomlaw07.PathsOthers': WHATEVER THE INPUT: true; the input reads as it did. -/
def pathsOthersSpec : ChangeSpec := { name := "pathsOthers", fn := fun _ => fun
  | [d1, d2, d3] => { results := [.lit (.bool true)], args := [d1, d2, d3] }
  | _ => none }
def pathsOthersRow : OpenClaim := { program := "ytbnjeegicbffeaa", sum := "4d304063eee4cb4e12e029271a9edcd4d07c41871af9dcc0d827f4d447f32425", func := "salesroom/salesroomlaw07.PathsOthers", spec := "pathsOthers", unfollowed := true, recurses := true, apart := false }
def PathsOthersSaid : Prop := pathsOthersRow.holds Try.pinned (OpenSpec.ofChange pathsOthersSpec)

/-- ITS FALSE NEIGHBOUR: 'it returns false'. Refute it at one input. -/
def pathsOthersWrong : ChangeSpec := { name := "pathsOthers", fn := fun _ => fun
  | [d1, d2, d3] => { results := [.lit (.bool false)], args := [d1, d2, d3] }
  | _ => none }
def PathsOthersWrongFalsely : Prop := pathsOthersRow.holds Try.pinned (OpenSpec.ofChange pathsOthersWrong)

/-- 'salesroomlaw07.PathsNear': WHATEVER THE INPUT: true; the input reads as it did. -/
def pathsNearSpec : ChangeSpec := { name := "pathsNear", fn := fun _ => fun
  | [d1, d2, d3] => { results := [.lit (.bool true)], args := [d1, d2, d3] }
  | _ => none }
def pathsNearRow : OpenClaim := { program := "ytbnjeegicbffeaa", sum := "4d304063eee4cb4e12e029271a9edcd4d07c41871af9dcc0d827f4d447f32425", func := "salesroom/salesroomlaw07.PathsNear", spec := "pathsNear", unfollowed := true, recurses := true, apart := false }
def PathsNearSaid : Prop := pathsNearRow.holds Try.pinned (OpenSpec.ofChange pathsNearSpec)

/-- ITS FALSE NEIGHBOUR: 'it returns false'. Refute it at one input. -/
def pathsNearWrong : ChangeSpec := { name := "pathsNear", fn := fun _ => fun
  | [d1, d2, d3] => { results := [.lit (.bool false)], args := [d1, d2, d3] }
  | _ => none }
def PathsNearWrongFalsely : Prop := pathsNearRow.holds Try.pinned (OpenSpec.ofChange pathsNearWrong)

/-- 'salesroomlaw07.PathsAgain': WHATEVER THE INPUT: true; the input reads as it did. -/
def pathsAgainSpec : ChangeSpec := { name := "pathsAgain", fn := fun _ => fun
  | [d1, d2, d3] => { results := [.lit (.bool true)], args := [d1, d2, d3] }
  | _ => none }
def pathsAgainRow : OpenClaim := { program := "ytbnjeegicbffeaa", sum := "4d304063eee4cb4e12e029271a9edcd4d07c41871af9dcc0d827f4d447f32425", func := "salesroom/salesroomlaw07.PathsAgain", spec := "pathsAgain", unfollowed := true, recurses := true, apart := false }
def PathsAgainSaid : Prop := pathsAgainRow.holds Try.pinned (OpenSpec.ofChange pathsAgainSpec)

/-- ITS FALSE NEIGHBOUR: 'it returns false'. Refute it at one input. -/
def pathsAgainWrong : ChangeSpec := { name := "pathsAgain", fn := fun _ => fun
  | [d1, d2, d3] => { results := [.lit (.bool false)], args := [d1, d2, d3] }
  | _ => none }
def PathsAgainWrongFalsely : Prop := pathsAgainRow.holds Try.pinned (OpenSpec.ofChange pathsAgainWrong)

/-- 'salesroomlaw07.PathsMore': WHATEVER THE INPUT: true; the input reads as it did. -/
def pathsMoreSpec : ChangeSpec := { name := "pathsMore", fn := fun _ => fun
  | [d1, d2, d3] => { results := [.lit (.bool true)], args := [d1, d2, d3] }
  | _ => none }
def pathsMoreRow : OpenClaim := { program := "ytbnjeegicbffeaa", sum := "4d304063eee4cb4e12e029271a9edcd4d07c41871af9dcc0d827f4d447f32425", func := "salesroom/salesroomlaw07.PathsMore", spec := "pathsMore", unfollowed := true, recurses := true, apart := false }
def PathsMoreSaid : Prop := pathsMoreRow.holds Try.pinned (OpenSpec.ofChange pathsMoreSpec)

/-- ITS FALSE NEIGHBOUR: 'it returns false'. Refute it at one input. -/
def pathsMoreWrong : ChangeSpec := { name := "pathsMore", fn := fun _ => fun
  | [d1, d2, d3] => { results := [.lit (.bool false)], args := [d1, d2, d3] }
  | _ => none }
def PathsMoreWrongFalsely : Prop := pathsMoreRow.holds Try.pinned (OpenSpec.ofChange pathsMoreWrong)

/-- 'salesroomlaw07.PathsNone': WHATEVER THE INPUT: true; the input reads as it did. -/
def pathsNoneSpec : ChangeSpec := { name := "pathsNone", fn := fun _ => fun
  | [d1, d2, d3] => { results := [.lit (.bool true)], args := [d1, d2, d3] }
  | _ => none }
def pathsNoneRow : OpenClaim := { program := "ytbnjeegicbffeaa", sum := "4d304063eee4cb4e12e029271a9edcd4d07c41871af9dcc0d827f4d447f32425", func := "salesroom/salesroomlaw07.PathsNone", spec := "pathsNone", unfollowed := true, recurses := true, apart := false }
def PathsNoneSaid : Prop := pathsNoneRow.holds Try.pinned (OpenSpec.ofChange pathsNoneSpec)

/-- ITS FALSE NEIGHBOUR: 'it returns false'. Refute it at one input. -/
def pathsNoneWrong : ChangeSpec := { name := "pathsNone", fn := fun _ => fun
  | [d1, d2, d3] => { results := [.lit (.bool false)], args := [d1, d2, d3] }
  | _ => none }
def PathsNoneWrongFalsely : Prop := pathsNoneRow.holds Try.pinned (OpenSpec.ofChange pathsNoneWrong)

/-- 'salesroomlaw14.PaymentsBounds': WHATEVER THE INPUT: true; the input reads as it did. -/
def paymentsBoundsSpec : ChangeSpec := { name := "paymentsBounds", fn := fun _ => fun
  | [d1, d2] => { results := [.lit (.bool true)], args := [d1, d2] }
  | _ => none }
def paymentsBoundsRow : OpenClaim := { program := "ytbnjeegicbffeaa", sum := "4d304063eee4cb4e12e029271a9edcd4d07c41871af9dcc0d827f4d447f32425", func := "salesroom/salesroomlaw14.PaymentsBounds", spec := "paymentsBounds", unfollowed := true, recurses := true, apart := false }
def PaymentsBoundsSaid : Prop := paymentsBoundsRow.holds Try.pinned (OpenSpec.ofChange paymentsBoundsSpec)

/-- ITS FALSE NEIGHBOUR: 'it returns false'. Refute it at one input. -/
def paymentsBoundsWrong : ChangeSpec := { name := "paymentsBounds", fn := fun _ => fun
  | [d1, d2] => { results := [.lit (.bool false)], args := [d1, d2] }
  | _ => none }
def PaymentsBoundsWrongFalsely : Prop := paymentsBoundsRow.holds Try.pinned (OpenSpec.ofChange paymentsBoundsWrong)

/-- 'salesroomlaw14.PaymentsAlone': WHATEVER THE INPUT: true; the input reads as it did. -/
def paymentsAloneSpec : ChangeSpec := { name := "paymentsAlone", fn := fun _ => fun
  | [d1, d2] => { results := [.lit (.bool true)], args := [d1, d2] }
  | _ => none }
def paymentsAloneRow : OpenClaim := { program := "ytbnjeegicbffeaa", sum := "4d304063eee4cb4e12e029271a9edcd4d07c41871af9dcc0d827f4d447f32425", func := "salesroom/salesroomlaw14.PaymentsAlone", spec := "paymentsAlone", unfollowed := true, recurses := true, apart := false }
def PaymentsAloneSaid : Prop := paymentsAloneRow.holds Try.pinned (OpenSpec.ofChange paymentsAloneSpec)

/-- ITS FALSE NEIGHBOUR: 'it returns false'. Refute it at one input. -/
def paymentsAloneWrong : ChangeSpec := { name := "paymentsAlone", fn := fun _ => fun
  | [d1, d2] => { results := [.lit (.bool false)], args := [d1, d2] }
  | _ => none }
def PaymentsAloneWrongFalsely : Prop := paymentsAloneRow.holds Try.pinned (OpenSpec.ofChange paymentsAloneWrong)

/-- 'salesroomlaw14.PaymentsNone': WHATEVER THE INPUT: true; the input reads as it did. -/
def paymentsNoneSpec : ChangeSpec := { name := "paymentsNone", fn := fun _ => fun
  | [d1, d2] => { results := [.lit (.bool true)], args := [d1, d2] }
  | _ => none }
def paymentsNoneRow : OpenClaim := { program := "ytbnjeegicbffeaa", sum := "4d304063eee4cb4e12e029271a9edcd4d07c41871af9dcc0d827f4d447f32425", func := "salesroom/salesroomlaw14.PaymentsNone", spec := "paymentsNone", unfollowed := true, recurses := true, apart := false }
def PaymentsNoneSaid : Prop := paymentsNoneRow.holds Try.pinned (OpenSpec.ofChange paymentsNoneSpec)

/-- ITS FALSE NEIGHBOUR: 'it returns false'. Refute it at one input. -/
def paymentsNoneWrong : ChangeSpec := { name := "paymentsNone", fn := fun _ => fun
  | [d1, d2] => { results := [.lit (.bool false)], args := [d1, d2] }
  | _ => none }
def PaymentsNoneWrongFalsely : Prop := paymentsNoneRow.holds Try.pinned (OpenSpec.ofChange paymentsNoneWrong)

/- THE SECOND FORM. 'bulk': how many values and letters a reading holds, each counted each time it is reached (what is shared counts as often as it is met; a slice's spare places count too). A statement '..UptoSaid' is the law's where the arguments, and the package variables that the reading takes, are together of bulk at most 1048576: NARROWER than '..Said'. Prove '..Said' where nothing that the law and all that it calls make is longer than what came in: it says more and counts as full. Else prove '..UptoSaid'. A law counts once. -/
mutual
def uptoBulk {H : Type} : DataW H → Nat
  | .lit (.string bytes) => bytes.length + 1
  | .lit _ => 1
  | .nil => 1
  | .ptr d => uptoBulk d + 1
  | .slice elems spare => uptoBulkAll elems + uptoBulkAll spare + 1
  | .agg parts => uptoBulkAll parts + 1
  | .iface _ d => uptoBulk d + 1
  | .map entries => uptoBulkEntries entries + 1
  | .held _ => 1
def uptoBulkAll {H : Type} : List (DataW H) → Nat
  | [] => 0
  | d :: r => uptoBulk d + uptoBulkAll r
def uptoBulkEntries {H : Type} : List (Lit × DataW H) → Nat
  | [] => 0
  | x :: r => uptoBulkEntry x + uptoBulkEntries r
def uptoBulkEntry {H : Type} : Lit × DataW H → Nat
  | (.string bytes, d) => bytes.length + uptoBulk d + 1
  | (_, d) => uptoBulk d + 1
 end
def uptoSmall : (H : Type) → List (DataW H) → Bool := fun _ ds => decide (uptoBulkAll ds ≤ 1048576)
def OpenSpec.upto (s : _root_.Go.ChangeSpec) : _root_.Go.OpenSpec := { _root_.Go.OpenSpec.ofChange s with cond := some uptoSmall }

/-- 'salesroomlaw16.ForestsRank', WHERE WHAT IT READS IS OF BULK AT MOST 1048576: true; the input reads as it did. -/
def forestsRankUptoRow : OpenClaim := { program := "ytbnjeegicbffeaa", sum := "4d304063eee4cb4e12e029271a9edcd4d07c41871af9dcc0d827f4d447f32425", func := "salesroom/salesroomlaw16.ForestsRank", spec := "forestsRank", unfollowed := true, recurses := true, apart := false, narrowed := true }
def ForestsRankUptoSaid : Prop := forestsRankUptoRow.holds Try.pinned (OpenSpec.upto forestsRankSpec)

/-- 'salesroomlaw11.FirstsBest', WHERE WHAT IT READS IS OF BULK AT MOST 1048576: true; the input reads as it did. -/
def firstsBestUptoRow : OpenClaim := { program := "ytbnjeegicbffeaa", sum := "4d304063eee4cb4e12e029271a9edcd4d07c41871af9dcc0d827f4d447f32425", func := "salesroom/salesroomlaw11.FirstsBest", spec := "firstsBest", unfollowed := true, recurses := true, apart := false, narrowed := true }
def FirstsBestUptoSaid : Prop := firstsBestUptoRow.holds Try.pinned (OpenSpec.upto firstsBestSpec)

/-- 'salesroomlaw11.FirstsFirst', WHERE WHAT IT READS IS OF BULK AT MOST 1048576: true; the input reads as it did. -/
def firstsFirstUptoRow : OpenClaim := { program := "ytbnjeegicbffeaa", sum := "4d304063eee4cb4e12e029271a9edcd4d07c41871af9dcc0d827f4d447f32425", func := "salesroom/salesroomlaw11.FirstsFirst", spec := "firstsFirst", unfollowed := true, recurses := true, apart := false, narrowed := true }
def FirstsFirstUptoSaid : Prop := firstsFirstUptoRow.holds Try.pinned (OpenSpec.upto firstsFirstSpec)

/-- 'salesroomlaw11.FirstsTaken', WHERE WHAT IT READS IS OF BULK AT MOST 1048576: true; the input reads as it did. -/
def firstsTakenUptoRow : OpenClaim := { program := "ytbnjeegicbffeaa", sum := "4d304063eee4cb4e12e029271a9edcd4d07c41871af9dcc0d827f4d447f32425", func := "salesroom/salesroomlaw11.FirstsTaken", spec := "firstsTaken", unfollowed := true, recurses := true, apart := false, narrowed := true }
def FirstsTakenUptoSaid : Prop := firstsTakenUptoRow.holds Try.pinned (OpenSpec.upto firstsTakenSpec)

/-- 'salesroomlaw11.FirstsNamed', WHERE WHAT IT READS IS OF BULK AT MOST 1048576: true; the input reads as it did. -/
def firstsNamedUptoRow : OpenClaim := { program := "ytbnjeegicbffeaa", sum := "4d304063eee4cb4e12e029271a9edcd4d07c41871af9dcc0d827f4d447f32425", func := "salesroom/salesroomlaw11.FirstsNamed", spec := "firstsNamed", unfollowed := true, recurses := true, apart := false, narrowed := true }
def FirstsNamedUptoSaid : Prop := firstsNamedUptoRow.holds Try.pinned (OpenSpec.upto firstsNamedSpec)

/-- 'salesroomlaw11.FirstsAhead', WHERE WHAT IT READS IS OF BULK AT MOST 1048576: true; the input reads as it did. -/
def firstsAheadUptoRow : OpenClaim := { program := "ytbnjeegicbffeaa", sum := "4d304063eee4cb4e12e029271a9edcd4d07c41871af9dcc0d827f4d447f32425", func := "salesroom/salesroomlaw11.FirstsAhead", spec := "firstsAhead", unfollowed := true, recurses := true, apart := false, narrowed := true }
def FirstsAheadUptoSaid : Prop := firstsAheadUptoRow.holds Try.pinned (OpenSpec.upto firstsAheadSpec)

/-- 'salesroomlaw11.FirstsTimes', WHERE WHAT IT READS IS OF BULK AT MOST 1048576: true; the input reads as it did. -/
def firstsTimesUptoRow : OpenClaim := { program := "ytbnjeegicbffeaa", sum := "4d304063eee4cb4e12e029271a9edcd4d07c41871af9dcc0d827f4d447f32425", func := "salesroom/salesroomlaw11.FirstsTimes", spec := "firstsTimes", unfollowed := true, recurses := true, apart := false, narrowed := true }
def FirstsTimesUptoSaid : Prop := firstsTimesUptoRow.holds Try.pinned (OpenSpec.upto firstsTimesSpec)

/-- 'salesroomlaw11.FirstsIdle', WHERE WHAT IT READS IS OF BULK AT MOST 1048576: true; the input reads as it did. -/
def firstsIdleUptoRow : OpenClaim := { program := "ytbnjeegicbffeaa", sum := "4d304063eee4cb4e12e029271a9edcd4d07c41871af9dcc0d827f4d447f32425", func := "salesroom/salesroomlaw11.FirstsIdle", spec := "firstsIdle", unfollowed := true, recurses := true, apart := false, narrowed := true }
def FirstsIdleUptoSaid : Prop := firstsIdleUptoRow.holds Try.pinned (OpenSpec.upto firstsIdleSpec)

/-- 'salesroomlaw07.PathsReach', WHERE WHAT IT READS IS OF BULK AT MOST 1048576: true; the input reads as it did. -/
def pathsReachUptoRow : OpenClaim := { program := "ytbnjeegicbffeaa", sum := "4d304063eee4cb4e12e029271a9edcd4d07c41871af9dcc0d827f4d447f32425", func := "salesroom/salesroomlaw07.PathsReach", spec := "pathsReach", unfollowed := true, recurses := true, apart := false, narrowed := true }
def PathsReachUptoSaid : Prop := pathsReachUptoRow.holds Try.pinned (OpenSpec.upto pathsReachSpec)

/-- 'salesroomlaw07.PathsOthers', WHERE WHAT IT READS IS OF BULK AT MOST 1048576: true; the input reads as it did. -/
def pathsOthersUptoRow : OpenClaim := { program := "ytbnjeegicbffeaa", sum := "4d304063eee4cb4e12e029271a9edcd4d07c41871af9dcc0d827f4d447f32425", func := "salesroom/salesroomlaw07.PathsOthers", spec := "pathsOthers", unfollowed := true, recurses := true, apart := false, narrowed := true }
def PathsOthersUptoSaid : Prop := pathsOthersUptoRow.holds Try.pinned (OpenSpec.upto pathsOthersSpec)

/-- 'salesroomlaw07.PathsNear', WHERE WHAT IT READS IS OF BULK AT MOST 1048576: true; the input reads as it did. -/
def pathsNearUptoRow : OpenClaim := { program := "ytbnjeegicbffeaa", sum := "4d304063eee4cb4e12e029271a9edcd4d07c41871af9dcc0d827f4d447f32425", func := "salesroom/salesroomlaw07.PathsNear", spec := "pathsNear", unfollowed := true, recurses := true, apart := false, narrowed := true }
def PathsNearUptoSaid : Prop := pathsNearUptoRow.holds Try.pinned (OpenSpec.upto pathsNearSpec)

/-- 'salesroomlaw07.PathsAgain', WHERE WHAT IT READS IS OF BULK AT MOST 1048576: true; the input reads as it did. -/
def pathsAgainUptoRow : OpenClaim := { program := "ytbnjeegicbffeaa", sum := "4d304063eee4cb4e12e029271a9edcd4d07c41871af9dcc0d827f4d447f32425", func := "salesroom/salesroomlaw07.PathsAgain", spec := "pathsAgain", unfollowed := true, recurses := true, apart := false, narrowed := true }
def PathsAgainUptoSaid : Prop := pathsAgainUptoRow.holds Try.pinned (OpenSpec.upto pathsAgainSpec)

/-- 'salesroomlaw07.PathsMore', WHERE WHAT IT READS IS OF BULK AT MOST 1048576: true; the input reads as it did. -/
def pathsMoreUptoRow : OpenClaim := { program := "ytbnjeegicbffeaa", sum := "4d304063eee4cb4e12e029271a9edcd4d07c41871af9dcc0d827f4d447f32425", func := "salesroom/salesroomlaw07.PathsMore", spec := "pathsMore", unfollowed := true, recurses := true, apart := false, narrowed := true }
def PathsMoreUptoSaid : Prop := pathsMoreUptoRow.holds Try.pinned (OpenSpec.upto pathsMoreSpec)

/-- 'salesroomlaw07.PathsNone', WHERE WHAT IT READS IS OF BULK AT MOST 1048576: true; the input reads as it did. -/
def pathsNoneUptoRow : OpenClaim := { program := "ytbnjeegicbffeaa", sum := "4d304063eee4cb4e12e029271a9edcd4d07c41871af9dcc0d827f4d447f32425", func := "salesroom/salesroomlaw07.PathsNone", spec := "pathsNone", unfollowed := true, recurses := true, apart := false, narrowed := true }
def PathsNoneUptoSaid : Prop := pathsNoneUptoRow.holds Try.pinned (OpenSpec.upto pathsNoneSpec)

/-- 'salesroomlaw14.PaymentsBounds', WHERE WHAT IT READS IS OF BULK AT MOST 1048576: true; the input reads as it did. -/
def paymentsBoundsUptoRow : OpenClaim := { program := "ytbnjeegicbffeaa", sum := "4d304063eee4cb4e12e029271a9edcd4d07c41871af9dcc0d827f4d447f32425", func := "salesroom/salesroomlaw14.PaymentsBounds", spec := "paymentsBounds", unfollowed := true, recurses := true, apart := false, narrowed := true }
def PaymentsBoundsUptoSaid : Prop := paymentsBoundsUptoRow.holds Try.pinned (OpenSpec.upto paymentsBoundsSpec)

/-- 'salesroomlaw14.PaymentsAlone', WHERE WHAT IT READS IS OF BULK AT MOST 1048576: true; the input reads as it did. -/
def paymentsAloneUptoRow : OpenClaim := { program := "ytbnjeegicbffeaa", sum := "4d304063eee4cb4e12e029271a9edcd4d07c41871af9dcc0d827f4d447f32425", func := "salesroom/salesroomlaw14.PaymentsAlone", spec := "paymentsAlone", unfollowed := true, recurses := true, apart := false, narrowed := true }
def PaymentsAloneUptoSaid : Prop := paymentsAloneUptoRow.holds Try.pinned (OpenSpec.upto paymentsAloneSpec)

/-- 'salesroomlaw14.PaymentsNone', WHERE WHAT IT READS IS OF BULK AT MOST 1048576: true; the input reads as it did. -/
def paymentsNoneUptoRow : OpenClaim := { program := "ytbnjeegicbffeaa", sum := "4d304063eee4cb4e12e029271a9edcd4d07c41871af9dcc0d827f4d447f32425", func := "salesroom/salesroomlaw14.PaymentsNone", spec := "paymentsNone", unfollowed := true, recurses := true, apart := false, narrowed := true }
def PaymentsNoneUptoSaid : Prop := paymentsNoneUptoRow.holds Try.pinned (OpenSpec.upto paymentsNoneSpec)

end Rows
end Go.Proofs.Ytbnjeegicbffeaa
