/- Reading of a market, with its sizes. The reading of an outcome: a law's argument. The closed facts of a row over listed variables, parted; what the door lays. OutcomesOf: for every input the law returns true. OutcomesOf: the tied card: for every input the law returns true; what the listed variables hold is the program's own text. -/
import Derived.Test.YtkddkkcfpnndlaaGreatDoorOq07
import Derived.Test.YtkddkkcfpnndlaaGreatDoorOq09
import Derived.Test.YtkddkkcfpnndlaaGreatDoorOq32
import Derived.Test.YtkddkkcfpnndlaaGreatDoorOq45
import Derived.Test.YtkddkkcfpnndlaaGreatDoorRows
import Derived.Test.YtkddkkcfpnndlaaGreatDoorOq47
import Derived.Test.YtkddkkcfpnndlaaGreatDoorCards
import Derived.Test.YtkddkkcfpnndlaaGreatDoorTie
import Derived.ProofKit
import Derived.JoinedOf
import Derived.LaidMore
import Derived.SevenTiedAt
namespace Go.Proofs.YtkddkkcfpnndlaaGreatDoor
open Go.ChangeShapes Go.WideShapes Go.ChangeAt Go.RowKit Go.Joins Go.Deep

section
variable {H : Type} {enc : TypeId × Value → H}
set_option maxRecDepth 100000 in
theorem market_read3 {W : World} {r : Reach} {b0 : Nat} {v : Value} {d : DataW H} {p : List MemPlace} (hv : Value.okWide Tryz.prog W r b0 57 v)
   (h : DataW.Trod enc Tryz.prog W 0 (fun _ => true) true 57 v d p) (hs : Sized 57 d) :
   ∃ (ra ba oa : Option Addr) (rn rc bn bc on oc : Nat) (m : Mkt), v = .agg #[.slice ra rn rc, .slice ba bn bc, .slice oa on oc] ∧ MktAt W ra ba oa rn rc bn bc on oc m ∧ Short rn bn on m := by
 have hr := reachBytes_lt
 obtain ⟨v0, v1, v2, y0, y1, y2, n, rfl, rfl, rfl, h0, h1, h2⟩ := open_agg3 Tryz.underlying57 (by kernel_rfl) (by kernel_rfl) hv h
 obtain ⟨ra, rn, rc, res, rfl, hre, hrn⟩ := ints_read h0 (fun n hn => hs n (by
   simp only [DataW.weights, Tryz.underlying57]
   exact DataW.weights_mem_each (j := 0) rfl rfl n hn))
 obtain ⟨ba, bn, bc, bids, rfl, hb, hbn, hx⟩ := rows_read h1 (fun n hn => hs n (by
   simp only [DataW.weights, Tryz.underlying57]
   exact DataW.weights_mem_each (j := 1) rfl rfl n hn))
 obtain ⟨oa, on, oc, ord, rfl, ho, hon⟩ := ints_read h2 (fun n hn => hs n (by
   simp only [DataW.weights, Tryz.underlying57]
   exact DataW.weights_mem_each (j := 2) rfl rfl n hn))
 exact ⟨ra, ba, oa, rn, rc, bn, bc, on, oc, ⟨res, bids, ord⟩, rfl, ⟨hre, hb, ho⟩, ⟨by omega, by omega, by omega, fun xs hm => by have := hx xs hm; omega⟩⟩
end
end Go.Proofs.YtkddkkcfpnndlaaGreatDoor

namespace Go.Proofs.YtkddkkcfpnndlaaGreatDoor
open Go.ChangeShapes Go.WideShapes Go.ChangeAt Go.RowKit Go.Joins Go.Deep Sale
section
variable {H : Type} {enc : TypeId × Value → H}
set_option maxRecDepth 100000 in
theorem outcome_read {W : World} {r : Reach} {b0 : Nat} {v : Value} {d : DataW H} {p : List MemPlace} (hv : Value.okWide Tryz.prog W r b0 70 v)
   (h : DataW.Trod enc Tryz.prog W 0 (fun _ => true) true 70 v d p) (hs : Sized 70 d) :
   ∃ (ha pa : Option Addr) (hn hc pn pc : Nat) (o : Outc), v = .agg #[.slice ha hn hc, .slice pa pn pc] ∧ OutAt W ha pa hn hc pn pc o ∧ hn * 8 ≤ reachBytes ∧ pn * 8 ≤ reachBytes := by
 obtain ⟨v0, v1, y0, y1, n, rfl, rfl, rfl, h0, h1⟩ := open_agg2 Tryz.underlying70 (by kernel_rfl) (by kernel_rfl) hv h
 obtain ⟨ha, hn, hc, has, rfl, hr, hrn⟩ := ints_read h0 (fun n hn => hs n (by
   simp only [DataW.weights, Tryz.underlying70]
   exact DataW.weights_mem_each (j := 0) rfl rfl n hn))
 obtain ⟨pa, pn, pc, prices, rfl, ho, hon⟩ := ints_read h1 (fun n hn => hs n (by
   simp only [DataW.weights, Tryz.underlying70]
   exact DataW.weights_mem_each (j := 1) rfl rfl n hn))
 exact ⟨ha, pa, hn, hc, pn, pc, ⟨has, prices⟩, rfl, ⟨hr, ho⟩, hrn, hon⟩
end
end Go.Proofs.YtkddkkcfpnndlaaGreatDoor

namespace Go.Proofs.YtkddkkcfpnndlaaGreatDoor
open Go.RowKit
set_option maxRecDepth 100000 in
theorem door_metZ (os : Os) (args : Array Value) : laidMetH Tryz.prog Rows.firstsOfRow.laid ((World.doorLaid Tryz.prog 400 os).forCall (fun _ _ => 0) ⟨#[], args, []⟩).memory :=
 laidMetH_of_parts3 (fuel := 8) (laidMet_of_run' 8 (by kernel_rfl) (by kernel_rfl)) (by kernel_rfl) (by kernel_rfl)
theorem joined_ofZ {P : Program} {f : FuncId} {fn : Func} {s : ChangeSpec} {c : OpenClaim}
   (hA : (c.wf (OpenSpec.ofChange s) && laidOutB P && mapsRowed P && fn.params.all (P.readableRec ·) && namedTie P c.named s.vars && (c.stops == []) && (P.stops == []) && (c.knobs == []) && (P.stopKnobs == [])) = true)
   (h1 : (c.inPlace == P.inPlace f) = true) (h2 : (c.unfollowed == P.unfollowed f) = true) (h3 : (c.recurses == P.recurses f) = true) (h4 : (c.named == P.varsNamed f) = true)
   (hN : P.mayEnter = true) (hL : (c.lifted == P.liftsFinal) = true) (hM : (P.make == some c.make) = true)
   (hB : ((c.maps == (fn.params.toList ++ s.plain.varTypes P).any (P.mapsRec ·)) && (c.ifaces == (fn.params.toList ++ s.plain.varTypes P).any (P.ifacesRec ·)) && (c.mapsOut == P.mapsAmong fn.resultTypes.toList) &&
     (c.loops == (fn.params.toList ++ s.plain.varTypes P).any (P.loopsFrom ·)) && (c.wideKeys == (fn.params.toList ++ s.plain.varTypes P ++ fn.resultTypes.toList).any (P.wideKeysFrom ·)) &&
     s.vars.all (P.varReadable ·) && fn.resultTypes.all (fun t => P.readableRec t && decide (t < P.types.size)) && (c.ifacesOut == fn.resultTypes.toList.any (P.ifacesRec ·)) && (c.loopsOut == fn.resultTypes.toList.any (P.loopsFrom ·)) && (c.plainKeys == P.plainKeys) && c.shortTexts.isNone && P.stopsHeard) = true)
   (hC : (c.kinds == (if c.domain.isEmpty then [] else fn.params.toList.map fun t => match P.underlying t with | some (.int k) => some k | _ => none)) = true) (hD : (c.pinned == c.pinnedBy) = true)
   (hE : (c.veiled == (fn.params.toList ++ s.plain.varTypes P ++ fn.resultTypes.toList).any (P.veiledRec ·)) = true)
   (hF : c.veiledFits P fn.params.toList (fn.params.toList ++ s.plain.varTypes P ++ fn.resultTypes.toList) = true) : joinedFacts P f fn s c = true := by
 simp only [Bool.and_eq_true] at hA hB
 obtain ⟨⟨⟨⟨⟨⟨⟨⟨a1, a2⟩, a3⟩, a4⟩, a5⟩, a6⟩, a7⟩, a8⟩, a9⟩ := hA
 obtain ⟨⟨⟨⟨⟨⟨⟨⟨⟨⟨⟨b1, b2⟩, b3⟩, b4⟩, b5⟩, b6⟩, b7⟩, b8⟩, b9⟩, b10⟩, b11⟩, b12⟩ := hB
 simp only [joinedFacts, Bool.and_eq_true]
 exact ⟨⟨⟨⟨⟨⟨⟨⟨⟨⟨⟨⟨⟨⟨⟨⟨⟨⟨⟨⟨⟨⟨⟨⟨⟨⟨⟨⟨⟨⟨⟨a1, a2⟩, a3⟩, a4⟩, a5⟩, a6⟩, a7⟩, a8⟩, a9⟩, h1⟩, h2⟩, h3⟩, h4⟩, b1⟩, b2⟩, b3⟩, b4⟩, b5⟩, b6⟩, b7⟩, b8⟩, b9⟩, b10⟩, b11⟩, b12⟩, hN⟩, hL⟩, hM⟩, hC⟩, hD⟩, hE⟩, hF⟩
theorem prog_mayEnterZ : Tryz.checked.prog.mayEnter = true := by kernel_rfl
theorem prog_liftsZ : Tryz.checked.prog.liftsFinal = Rows.firstsOfRow.lifted := by kernel_rfl
theorem prog_makeZ : Tryz.checked.prog.make = some Rows.firstsOfRow.make := by kernel_rfl
theorem prog_liftsZ' {c : OpenClaim} (hl : c.lifted = Rows.firstsOfRow.lifted) : (c.lifted == Tryz.checked.prog.liftsFinal) = true := by rw [hl, prog_liftsZ]; exact beq_self_eq_true _
theorem prog_makeZ' {c : OpenClaim} (hm : c.make = Rows.firstsOfRow.make) : (Tryz.checked.prog.make == some c.make) = true := by rw [hm, prog_makeZ]; exact beq_self_eq_true _
end Go.Proofs.YtkddkkcfpnndlaaGreatDoor

namespace Go.Proofs.YtkddkkcfpnndlaaGreatDoor
open Go.ChangeShapes Go.WideShapes Go.ChangeAt Go.RowKit Go.Joins Go.Deep

set_option maxRecDepth 100000 in
theorem outcomesOf_lifted (os : Os) (started : os.Started) (H : Type) (enc : TypeId × Value → H) :
   ReturnsInHanded {} Tryz.checked os 7 .any (fun w args => (Rows.outcomesOfSpec.pre enc Tryz.prog Tryz.f7 [] false w args ∧ laidMetH Tryz.prog Rows.outcomesOfRow.laid w) ∧ sizedMet enc Tryz.prog Tryz.f7 (OpenSpec.ofChange Rows.outcomesOfSpec) false w args)
     (Rows.outcomesOfSpec.post enc Tryz.prog Tryz.f7 false true false false) := by
 refine returnsInHanded_of_change_and (C := Tryz.checked) (X := fun w _ => laidMetH Tryz.prog Rows.outcomesOfRow.laid w) (fun _ _ _ hh h => h.of_heap hh) Tryz.ownL started (by kernel_rfl) Tryz.func7
   (ChangeSpec.witness_shaped (enc := enc) (C := Tryz.checked) (os := os) (X := fun w _ => laidMetH Tryz.prog Rows.outcomesOfRow.laid w) false (World.doorLaid Tryz.prog 400 os) #[.agg #[.slice none 0 0, .slice none 0 0, .slice none 0 0], .agg #[.slice none 0 0, .slice none 0 0], .int .i64 0] 8 rfl (World.shaped_of_RefB (by kernel_rfl) (by kernel_rfl)) (by kernel_rfl) (by kernel_rfl) (by kernel_rfl) (door_metZ os _)) ?_
 intro W base args ds gs before hval0 hW _ hsz0 _ _
 have hval : ∀ (j : Nat) t v, Tryz.f7.params[j]? = some t → args[j]? = some v → Value.okWide Tryz.prog W .any base t v := hval0
 have hsz : (DataW.weightsEach Tryz.prog (Tryz.f7.params.toList ++ []) (ds ++ gs)).all (· ≤ reachBytes) = true := hsz0
 have hW' := hW
 obtain ⟨p, q, hA0, hV, rfl, hfz, hnd⟩ := hW
 have hA : DataW.TrodAll enc Tryz.prog W 0 (fun _ => true) true Tryz.f7.params.toList args.toList ds p := hA0
 rw [Tryz.params7] at hA hval hsz
 obtain ⟨v0, v1, v2, d0, d1, d2, p0, p1, p2, rfl, rfl, rfl, h0, h1, h2⟩ := trodAll_three hA
 obtain ⟨rfl, rfl⟩ := trodVars_none hV
 have hs0 : Sized 57 d0 := fun n hn => by simpa using List.all_eq_true.1 hsz n (DataW.weights_mem_each (j := 0) rfl rfl n hn)
 have hs1 : Sized 70 d1 := fun n hn => by simpa using List.all_eq_true.1 hsz n (DataW.weights_mem_each (j := 1) rfl rfl n hn)
 obtain ⟨ra, ba, oa, rn, rc, bn, bc, on, oc, m, rfl, hm, hsh⟩ := market_read3 (hval 0 _ _ rfl rfl) h0 hs0
 obtain ⟨za, ya, zn, zc, yn, yc, zo, rfl, ho, ho1, ho2⟩ := outcome_read (hval 1 _ _ rfl rfl) h1 hs1
 obtain ⟨z, rfl, rfl, rfl, hw⟩ := open_int Tryz.underlying3 (hval 2 _ _ rfl rfl) h2
 have hr := reachBytes_lt
 refine (outcomesOf_any ra ba oa za ya rn rc bn bc on oc zn zc yn yc m zo z W hm ho hsh (by omega) (by omega)).mono ?_
 rintro e W' ⟨rfl, hB⟩
 exact ⟨_, rfl, law_post (f := Tryz.f7) hW' rfl (by kernel_rfl) (by decide) rfl hB⟩

set_option maxRecDepth 100000 in
set_option maxHeartbeats 4000000 in
theorem outcomesOf_joined : joinedFacts Tryz.checked.prog 7 Tryz.f7 Rows.outcomesOfSpec Rows.outcomesOfRow = true :=
 joined_ofZ (P := Tryz.checked.prog) (f := 7) (fn := Tryz.f7) (s := Rows.outcomesOfSpec) (c := Rows.outcomesOfRow) (by kernel_rfl) (by as_aux_lemma => kernel_rfl) (by as_aux_lemma => kernel_rfl) (by as_aux_lemma => kernel_rfl) (by as_aux_lemma => kernel_rfl)
   prog_mayEnterZ (prog_liftsZ' rfl) (prog_makeZ' rfl) (by kernel_rfl) (by kernel_rfl) (by kernel_rfl) (by kernel_rfl) (by kernel_rfl)

theorem outcomesOf_holds : Rows.OutcomesOfSaid :=
 OpenClaim.holds_of_wide 7 Tryz.f7 rfl rfl rfl rfl rfl rfl rfl ⟨rfl, rfl, rfl, rfl, rfl⟩ rfl rfl rfl rfl rfl (by kernel_rfl) Tryz.func7
   outcomesOf_joined
   (of_decide_eq_true (by kernel_rfl)) (by unfold Func.isWrapper; first | (rw [if_pos (by decide +kernel)]; kernel_rfl) | (rw [if_neg (by decide +kernel)]; exact ⟨rfl, rfl⟩))
   (fun os started H enc _ => outcomesOf_lifted os started H enc)
end Go.Proofs.YtkddkkcfpnndlaaGreatDoor

namespace Go.Proofs.YtkddkkcfpnndlaaGreatDoor
open Go

theorem outcomesOf_card : Rows.OutcomesOfCardSaid :=
 Claim7.holds_tied_plain_at .later [] [.data, .data, .data] true (true, "1e4afba5e2b30bf1cb0cd5f4be4095d97f273e8908b9a283262aa756d852e150") false
   outcomesOf_holds (fun _ h => by cases h) (by kernel_rfl) (fun _ h => by cases h) outcomesOf_row_tie rfl ⟨rfl, rfl⟩ (by kernel_rfl) rfl
   (fun f fn hf hfn => by
     obtain rfl : f = 7 := Option.some.inj ((show Tryz.prog.funcNamed "salesroom/salesroomlaw15.OutcomesOf" = some 7 by kernel_rfl).symm.trans hf) |>.symm
     obtain rfl : fn = Tryz.f7 := (Option.some.inj (Tryz.func7.symm.trans hfn)).symm
     exact ⟨by kernel_rfl, fun j t ht => by
       rw [Tryz.params7] at ht
       have hm : t ∈ [57, 70, 3] := by simpa using Array.mem_of_getElem? ht
       have hall : ([57, 70, 3].all fun u => !Tryz.prog.wantsStandIn u) = true := by kernel_rfl
       exact (show Tryz.prog.wantsStandIn t = false by simpa using List.all_eq_true.1 hall t hm)⟩)
   (by kernel_rfl)
#print axioms outcomesOf_card
end Go.Proofs.YtkddkkcfpnndlaaGreatDoor
