/- The closed facts of a row over listed variables, parted; what the door lays. -/
import Derived.Test.YtkddkkcfpnndlaaGreatDoorRows
import Derived.ProofKit
import Derived.JoinedOf
import Derived.LaidMore
namespace Go.Proofs.YtkddkkcfpnndlaaGreatDoor
open Go.RowKit
set_option maxRecDepth 100000 in
theorem door_metZ (os : Os) (args : Array Value) : laidMetH Tryz.prog Rows.firstsOfRow.laid ((World.doorLaid Tryz.prog 400 os).forCall (fun _ _ => 0) ⟨#[], args, []⟩).memory :=
  laidMetH_of_parts3 (fuel := 8) (laidMet_of_run' 8 (by kernel_rfl) (by kernel_rfl)) (by kernel_rfl) (by kernel_rfl)
theorem joined_ofZ {P : Program} {f : FuncId} {fn : Func} {s : ChangeSpec} {c : OpenClaim}
    (hA : (c.wf (OpenSpec.ofChange s) && laidOutB P && mapsRowed P && fn.params.all (P.readableRec ·) && namedTie P c.named s.vars && (c.stops == []) && (P.stops == []) && (c.knobs == []) && (P.stopKnobs == [])) = true)
    (h1 : (c.inPlace == P.inPlace f) = true) (h2 : (c.unfollowed == P.unfollowed f) = true) (h3 : (c.recurses == P.recurses f) = true) (h4 : (c.named == P.varsNamed f) = true)
    (hN : P.mayEnter = true) (hL : (c.lifted == P.liftsFinal) = true) (hM : (P.make == some c.make) = true)
    (hB : ((c.maps == (fn.params.toList ++ s.plain.varTypes P).any (P.mapsRec ·)) && (c.ifaces == (fn.params.toList ++ s.plain.varTypes P).any (P.ifacesRec ·)) && (c.mapsOut == P.mapsAmong fn.resultTypes.toList) &&
      (c.loops == (fn.params.toList ++ s.plain.varTypes P).any (P.loopsFrom ·)) && (c.wideKeys == (fn.params.toList ++ s.plain.varTypes P ++ fn.resultTypes.toList).any (P.wideKeysFrom ·)) &&
      s.vars.all (P.varReadable ·) && fn.resultTypes.all (fun t => P.readableRec t && decide (t < P.types.size)) && (c.ifacesOut == fn.resultTypes.toList.any (P.ifacesRec ·)) && (c.loopsOut == fn.resultTypes.toList.any (P.loopsFrom ·)) && (c.plainKeys == P.plainKeys) && c.shortTexts.isNone && P.stopsHeard) = true)
    (hC : (c.kinds == (if c.domain.isEmpty then [] else fn.params.toList.map fun t => match P.underlying t with | some (.int k) => some k | _ => none)) = true) (hD : (c.pinned == c.pinnedBy) = true)
    (hE : (c.veiled == (fn.params.toList ++ s.plain.varTypes P ++ fn.resultTypes.toList).any (P.veiledRec ·)) = true)
    (hF : c.veiledFits P fn.params.toList (fn.params.toList ++ s.plain.varTypes P ++ fn.resultTypes.toList) = true) : joinedFacts P f fn s c = true := by
  simp only [Bool.and_eq_true] at hA hB
  obtain ⟨⟨⟨⟨⟨⟨⟨⟨a1, a2⟩, a3⟩, a4⟩, a5⟩, a6⟩, a7⟩, a8⟩, a9⟩ := hA
  obtain ⟨⟨⟨⟨⟨⟨⟨⟨⟨⟨⟨b1, b2⟩, b3⟩, b4⟩, b5⟩, b6⟩, b7⟩, b8⟩, b9⟩, b10⟩, b11⟩, b12⟩ := hB
  simp only [joinedFacts, Bool.and_eq_true]
  exact ⟨⟨⟨⟨⟨⟨⟨⟨⟨⟨⟨⟨⟨⟨⟨⟨⟨⟨⟨⟨⟨⟨⟨⟨⟨⟨⟨⟨⟨⟨⟨a1, a2⟩, a3⟩, a4⟩, a5⟩, a6⟩, a7⟩, a8⟩, a9⟩, h1⟩, h2⟩, h3⟩, h4⟩, b1⟩, b2⟩, b3⟩, b4⟩, b5⟩, b6⟩, b7⟩, b8⟩, b9⟩, b10⟩, b11⟩, b12⟩, hN⟩, hL⟩, hM⟩, hC⟩, hD⟩, hE⟩, hF⟩
theorem prog_mayEnterZ : Tryz.checked.prog.mayEnter = true := by kernel_rfl
theorem prog_liftsZ : Tryz.checked.prog.liftsFinal = Rows.firstsOfRow.lifted := by kernel_rfl
theorem prog_makeZ : Tryz.checked.prog.make = some Rows.firstsOfRow.make := by kernel_rfl
theorem prog_liftsZ' {c : OpenClaim} (hl : c.lifted = Rows.firstsOfRow.lifted) : (c.lifted == Tryz.checked.prog.liftsFinal) = true := by rw [hl, prog_liftsZ]; exact beq_self_eq_true _
theorem prog_makeZ' {c : OpenClaim} (hm : c.make = Rows.firstsOfRow.make) : (Tryz.checked.prog.make == some c.make) = true := by rw [hm, prog_makeZ]; exact beq_self_eq_true _
end Go.Proofs.YtkddkkcfpnndlaaGreatDoor
