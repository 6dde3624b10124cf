/- The closed facts of a row over listed variables, parted; what the door lays. ViewsOf: for every input the law returns true. ViewsOf: the tied card: for every input the law returns true; what the listed variables hold is the program's own text. -/
import Derived.Test.YtkddkkcfpnndlaaGreatDoorRows
import Derived.Test.YtkddkkcfpnndlaaGreatDoorVq47
import Derived.Test.YtkddkkcfpnndlaaGreatDoorVq48
import Derived.Test.YtkddkkcfpnndlaaGreatDoorVq12
import Derived.Test.YtkddkkcfpnndlaaGreatDoorCards
import Derived.Test.YtkddkkcfpnndlaaGreatDoorTie
import Derived.ProofKit
import Derived.JoinedOf
import Derived.LaidMore
import Derived.SevenTiedAt
namespace Go.Proofs.YtkddkkcfpnndlaaGreatDoor
open Go.RowKit
set_option maxRecDepth 100000 in
theorem door_metZ (os : Os) (args : Array Value) : laidMetH Tryz.prog Rows.firstsOfRow.laid ((World.doorLaid Tryz.prog 400 os).forCall (fun _ _ => 0) ⟨#[], args, []⟩).memory :=
  laidMetH_of_parts3 (fuel := 8) (laidMet_of_run' 8 (by kernel_rfl) (by kernel_rfl)) (by kernel_rfl) (by kernel_rfl)
theorem joined_ofZ {P : Program} {f : FuncId} {fn : Func} {s : ChangeSpec} {c : OpenClaim}
    (hA : (c.wf (OpenSpec.ofChange s) && laidOutB P && mapsRowed P && fn.params.all (P.readableRec ·) && namedTie P c.named s.vars && (c.stops == []) && (P.stops == []) && (c.knobs == []) && (P.stopKnobs == [])) = true)
    (h1 : (c.inPlace == P.inPlace f) = true) (h2 : (c.unfollowed == P.unfollowed f) = true) (h3 : (c.recurses == P.recurses f) = true) (h4 : (c.named == P.varsNamed f) = true)
    (hN : P.mayEnter = true) (hL : (c.lifted == P.liftsFinal) = true) (hM : (P.make == some c.make) = true)
    (hB : ((c.maps == (fn.params.toList ++ s.plain.varTypes P).any (P.mapsRec ·)) && (c.ifaces == (fn.params.toList ++ s.plain.varTypes P).any (P.ifacesRec ·)) && (c.mapsOut == P.mapsAmong fn.resultTypes.toList) &&
      (c.loops == (fn.params.toList ++ s.plain.varTypes P).any (P.loopsFrom ·)) && (c.wideKeys == (fn.params.toList ++ s.plain.varTypes P ++ fn.resultTypes.toList).any (P.wideKeysFrom ·)) &&
      s.vars.all (P.varReadable ·) && fn.resultTypes.all (fun t => P.readableRec t && decide (t < P.types.size)) && (c.ifacesOut == fn.resultTypes.toList.any (P.ifacesRec ·)) && (c.loopsOut == fn.resultTypes.toList.any (P.loopsFrom ·)) && (c.plainKeys == P.plainKeys) && c.shortTexts.isNone && P.stopsHeard) = true)
    (hC : (c.kinds == (if c.domain.isEmpty then [] else fn.params.toList.map fun t => match P.underlying t with | some (.int k) => some k | _ => none)) = true) (hD : (c.pinned == c.pinnedBy) = true)
    (hE : (c.veiled == (fn.params.toList ++ s.plain.varTypes P ++ fn.resultTypes.toList).any (P.veiledRec ·)) = true)
    (hF : c.veiledFits P fn.params.toList (fn.params.toList ++ s.plain.varTypes P ++ fn.resultTypes.toList) = true) : joinedFacts P f fn s c = true := by
  simp only [Bool.and_eq_true] at hA hB
  obtain ⟨⟨⟨⟨⟨⟨⟨⟨a1, a2⟩, a3⟩, a4⟩, a5⟩, a6⟩, a7⟩, a8⟩, a9⟩ := hA
  obtain ⟨⟨⟨⟨⟨⟨⟨⟨⟨⟨⟨b1, b2⟩, b3⟩, b4⟩, b5⟩, b6⟩, b7⟩, b8⟩, b9⟩, b10⟩, b11⟩, b12⟩ := hB
  simp only [joinedFacts, Bool.and_eq_true]
  exact ⟨⟨⟨⟨⟨⟨⟨⟨⟨⟨⟨⟨⟨⟨⟨⟨⟨⟨⟨⟨⟨⟨⟨⟨⟨⟨⟨⟨⟨⟨⟨a1, a2⟩, a3⟩, a4⟩, a5⟩, a6⟩, a7⟩, a8⟩, a9⟩, h1⟩, h2⟩, h3⟩, h4⟩, b1⟩, b2⟩, b3⟩, b4⟩, b5⟩, b6⟩, b7⟩, b8⟩, b9⟩, b10⟩, b11⟩, b12⟩, hN⟩, hL⟩, hM⟩, hC⟩, hD⟩, hE⟩, hF⟩
theorem prog_mayEnterZ : Tryz.checked.prog.mayEnter = true := by kernel_rfl
theorem prog_liftsZ : Tryz.checked.prog.liftsFinal = Rows.firstsOfRow.lifted := by kernel_rfl
theorem prog_makeZ : Tryz.checked.prog.make = some Rows.firstsOfRow.make := by kernel_rfl
theorem prog_liftsZ' {c : OpenClaim} (hl : c.lifted = Rows.firstsOfRow.lifted) : (c.lifted == Tryz.checked.prog.liftsFinal) = true := by rw [hl, prog_liftsZ]; exact beq_self_eq_true _
theorem prog_makeZ' {c : OpenClaim} (hm : c.make = Rows.firstsOfRow.make) : (Tryz.checked.prog.make == some c.make) = true := by rw [hm, prog_makeZ]; exact beq_self_eq_true _
end Go.Proofs.YtkddkkcfpnndlaaGreatDoor

namespace Go.Proofs.YtkddkkcfpnndlaaGreatDoor
open Go.ChangeShapes Go.WideShapes Go.ChangeAt Go.RowKit Go.Joins Go.Deep

set_option maxRecDepth 100000 in
theorem viewsOf_lifted (os : Os) (started : os.Started) (H : Type) (enc : TypeId × Value → H) :
    ReturnsInHanded {} Tryz.checked os 6 .any (fun w args => (Rows.viewsOfSpec.pre enc Tryz.prog Tryz.f6 [] false w args ∧ laidMetH Tryz.prog Rows.viewsOfRow.laid w) ∧ sizedMet enc Tryz.prog Tryz.f6 (OpenSpec.ofChange Rows.viewsOfSpec) false w args)
      (Rows.viewsOfSpec.post enc Tryz.prog Tryz.f6 false true false false) := by
  refine returnsInHanded_of_change_and (C := Tryz.checked) (X := fun w _ => laidMetH Tryz.prog Rows.viewsOfRow.laid w) (fun _ _ _ hh h => h.of_heap hh) Tryz.ownL started (by kernel_rfl) Tryz.func6
    (ChangeSpec.witness_shaped (enc := enc) (C := Tryz.checked) (os := os) (X := fun w _ => laidMetH Tryz.prog Rows.viewsOfRow.laid w) false (World.doorLaid Tryz.prog 400 os) #[.agg #[.int .u32 0, .bool false, .slice none 0 0, .slice none 0 0, .slice none 0 0, .slice none 0 0, .slice none 0 0, .slice none 0 0, .int .i64 0, .int .u8 0, .int .u64 0]] 8 rfl (World.shaped_of_RefB (by kernel_rfl) (by kernel_rfl)) (by kernel_rfl) (by kernel_rfl) (by kernel_rfl) (door_metZ os _)) ?_
  intro W base args ds gs before hval0 hW _ hsz0 _ _
  have hval : ∀ (j : Nat) t v, Tryz.f6.params[j]? = some t → args[j]? = some v → Value.okWide Tryz.prog W .any base t v := hval0
  have hsz : (DataW.weightsEach Tryz.prog (Tryz.f6.params.toList ++ []) (ds ++ gs)).all (· ≤ reachBytes) = true := hsz0
  have hW' := hW
  obtain ⟨p, q, hA0, hV, rfl, hfz, hnd⟩ := hW
  have hA : DataW.TrodAll enc Tryz.prog W 0 (fun _ => true) true Tryz.f6.params.toList args.toList ds p := hA0
  rw [Tryz.params6] at hA hval hsz
  obtain ⟨v0, d0, rfl, rfl, h0⟩ := trodAll_one hA
  obtain ⟨rfl, rfl⟩ := trodVars_none hV
  have hs0 : Sized 74 d0 := fun n hn => by simpa using List.all_eq_true.1 hsz n (DataW.weights_mem_each (j := 0) rfl rfl n hn)
  obtain ⟨seq, st, ea, en, ec, bid, ra, ba, oa, rn, rc, bn, bc, on, oc, m, za, ya, zn, zc, yn, yc, zo, zi, ph, now, rfl, he, hen, hm, hsh, hzo, q5, q6, hzi, hph, hnow⟩ := seen_read2 (hval 0 _ _ rfl rfl) h0 hs0
  have hr := reachBytes_lt
  refine (viewsOf_any ea ra ba oa za ya en ec rn rc bn bc on oc zn zc yn yc seq st bid m zo zi ph now W he hm hzo hsh (by omega) (by omega) (by omega) hzi).mono ?_
  rintro e W' ⟨rfl, hB⟩
  exact ⟨_, rfl, law_post (f := Tryz.f6) hW' rfl (by kernel_rfl) (by decide) rfl hB⟩

set_option maxRecDepth 100000 in
set_option maxHeartbeats 4000000 in
theorem viewsOf_joined : joinedFacts Tryz.checked.prog 6 Tryz.f6 Rows.viewsOfSpec Rows.viewsOfRow = true :=
  joined_ofZ (P := Tryz.checked.prog) (f := 6) (fn := Tryz.f6) (s := Rows.viewsOfSpec) (c := Rows.viewsOfRow) (by kernel_rfl) (by as_aux_lemma => kernel_rfl) (by as_aux_lemma => kernel_rfl) (by as_aux_lemma => kernel_rfl) (by as_aux_lemma => kernel_rfl)
    prog_mayEnterZ (prog_liftsZ' rfl) (prog_makeZ' rfl) (by kernel_rfl) (by kernel_rfl) (by kernel_rfl) (by kernel_rfl) (by kernel_rfl)

theorem viewsOf_holds : Rows.ViewsOfSaid :=
  OpenClaim.holds_of_wide 6 Tryz.f6 rfl rfl rfl rfl rfl rfl rfl ⟨rfl, rfl, rfl, rfl, rfl⟩ rfl rfl rfl rfl rfl (by kernel_rfl) Tryz.func6
    viewsOf_joined
    (of_decide_eq_true (by kernel_rfl)) (by unfold Func.isWrapper; first | (rw [if_pos (by decide +kernel)]; kernel_rfl) | (rw [if_neg (by decide +kernel)]; exact ⟨rfl, rfl⟩))
    (fun os started H enc _ => viewsOf_lifted os started H enc)
end Go.Proofs.YtkddkkcfpnndlaaGreatDoor

namespace Go.Proofs.YtkddkkcfpnndlaaGreatDoor
open Go

theorem viewsOf_card : Rows.ViewsOfCardSaid :=
  Claim7.holds_tied_plain_at .later [] [.data, .data, .data] true (true, "1e4afba5e2b30bf1cb0cd5f4be4095d97f273e8908b9a283262aa756d852e150") false
    viewsOf_holds (fun _ h => by cases h) (by kernel_rfl) (fun _ h => by cases h) viewsOf_row_tie rfl ⟨rfl, rfl⟩ (by kernel_rfl) rfl
    (fun f fn hf hfn => by
      obtain rfl : f = 6 := Option.some.inj ((show Tryz.prog.funcNamed "salesroom/salesroomlaw24.ViewsOf" = some 6 by kernel_rfl).symm.trans hf) |>.symm
      obtain rfl : fn = Tryz.f6 := (Option.some.inj (Tryz.func6.symm.trans hfn)).symm
      exact ⟨by kernel_rfl, fun j t ht => by
        rw [Tryz.params6] at ht
        have hm : t ∈ [74] := by simpa using Array.mem_of_getElem? ht
        have hall : ([74].all fun u => !Tryz.prog.wantsStandIn u) = true := by kernel_rfl
        exact (show Tryz.prog.wantsStandIn t = false by simpa using List.all_eq_true.1 hall t hm)⟩)
    (by kernel_rfl)
#print axioms viewsOf_card
end Go.Proofs.YtkddkkcfpnndlaaGreatDoor
