/- ForestsOf: for every input the law returns true. -/
import Derived.Test.YtkddkkcfpnndlaaDoorFo47
import Derived.Test.YtkddkkcfpnndlaaDoorFo11
import Derived.Test.YtkddkkcfpnndlaaDoorFo16
import Derived.Test.YtkddkkcfpnndlaaDoorFo48
import Derived.Test.YtkddkkcfpnndlaaDoorFo49
import Derived.LaidMore
namespace Go.Proofs.YtkddkkcfpnndlaaDoor
open Go.ChangeShapes Go.WideShapes Go.ChangeAt Go.RowKit Go.Joins Go.Deep

section
variable {H : Type} {enc : TypeId × Value → H}
set_option maxRecDepth 100000 in
theorem market_read2 {W : World} {r : Reach} {b0 : Nat} {v : Value} {d : DataW H} {p : List MemPlace} (hv : Value.okWide Tryd.prog W r b0 25 v)
    (h : DataW.Trod enc Tryd.prog W 0 (fun _ => true) true 25 v d p) (hs : Sized 25 d) :
    ∃ (ra ba oa : Option Addr) (rn rc bn bc on oc : Nat) (m : Mkt), v = .agg #[.slice ra rn rc, .slice ba bn bc, .slice oa on oc] ∧ MktAt W ra ba oa rn rc bn bc on oc m ∧ Short rn bn on m := by
  have hr := reachBytes_lt
  obtain ⟨v0, v1, v2, y0, y1, y2, n, rfl, rfl, rfl, h0, h1, h2⟩ := open_agg3 Tryd.underlying25 (by kernel_rfl) (by kernel_rfl) hv h
  obtain ⟨ra, rn, rc, res, rfl, hre, hrn⟩ := ints_read h0 (fun n hn => hs n (by
    simp only [DataW.weights, Tryd.underlying25]
    exact DataW.weights_mem_each (j := 0) rfl rfl n hn))
  obtain ⟨ba, bn, bc, bids, rfl, hb, hbn, hx⟩ := rows_read h1 (fun n hn => hs n (by
    simp only [DataW.weights, Tryd.underlying25]
    exact DataW.weights_mem_each (j := 1) rfl rfl n hn))
  obtain ⟨oa, on, oc, ord, rfl, ho, hon⟩ := ints_read h2 (fun n hn => hs n (by
    simp only [DataW.weights, Tryd.underlying25]
    exact DataW.weights_mem_each (j := 2) rfl rfl n hn))
  exact ⟨ra, ba, oa, rn, rc, bn, bc, on, oc, ⟨res, bids, ord⟩, rfl, ⟨hre, hb, ho⟩, ⟨by omega, by omega, by omega, fun xs hm => by have := hx xs hm; omega⟩⟩
set_option maxRecDepth 100000 in
theorem whys_nil {w : World} {fuel : Nat} {a : Option Addr} {n c : Nat} {x : DataW H × List MemPlace} (h : DataW.trod enc Tryd.prog w 0 (fun _ => true) true fuel 28 [.slice a n c] = some x) : a = none → n = 0 ∧ c = 0 := by
  intro ha
  subst ha
  rcases open_slice_pairs Tryd.underlying28 Tryd.underlying38 Tryd.cellsWhyL rfl rfl Tryd.cellsIntL Tryd.cellsIntL h with ⟨hcs, hx⟩ | ⟨a, len, cap, m, n, V0, V1, D0, D1, P0, P1, hcs, _⟩
  · simp at hcs; exact hcs
  · simp at hcs
end

set_option maxRecDepth 100000 in
theorem forestsOf_lifted (os : Os) (started : os.Started) (H : Type) (enc : TypeId × Value → H) :
    ReturnsInHanded {} Tryd.checked os 3 .any (fun w args => (Rows.forestsOfSpec.pre enc Tryd.prog Tryd.f3 [] false w args ∧ laidMetH Tryd.prog Rows.forestsOfRow.laid w) ∧ sizedMet enc Tryd.prog Tryd.f3 (OpenSpec.ofChange Rows.forestsOfSpec) false w args)
      (Rows.forestsOfSpec.post enc Tryd.prog Tryd.f3 false true false false) := by
  refine returnsInHanded_of_change_and (C := Tryd.checked) (X := fun w _ => laidMetH Tryd.prog Rows.forestsOfRow.laid w) (fun _ _ _ hh h => h.of_heap hh) Tryd.ownL started (by kernel_rfl) Tryd.func3
    (ChangeSpec.witness_shaped (enc := enc) (C := Tryd.checked) (os := os) (X := fun w _ => laidMetH Tryd.prog Rows.forestsOfRow.laid w) false (World.doorLaid Tryd.prog 400 os) #[.agg #[.slice none 0 0, .slice none 0 0, .slice none 0 0], .agg #[.slice none 0 0, .slice none 0 0], .slice none 0 0] 8 rfl (World.shaped_of_RefB (by kernel_rfl) (by kernel_rfl)) (by kernel_rfl) (by kernel_rfl) (by kernel_rfl) (door_met os _)) ?_
  intro W base args ds gs before hval0 hW _ hsz0 _ _
  have hval : ∀ (j : Nat) t v, Tryd.f3.params[j]? = some t → args[j]? = some v → Value.okWide Tryd.prog W .any base t v := hval0
  have hsz : (DataW.weightsEach Tryd.prog (Tryd.f3.params.toList ++ []) (ds ++ gs)).all (· ≤ reachBytes) = true := hsz0
  have hW' := hW
  obtain ⟨p, q, hA0, hV, rfl, hfz, hnd⟩ := hW
  have hA : DataW.TrodAll enc Tryd.prog W 0 (fun _ => true) true Tryd.f3.params.toList args.toList ds p := hA0
  rw [Tryd.params3] at hA hval hsz
  obtain ⟨v0, v1, v2, d0, d1, d2, p0, p1, p2, rfl, rfl, rfl, h0, h1, h2⟩ := trodAll_three hA
  obtain ⟨rfl, rfl⟩ := trodVars_none hV
  have hs0 : Sized 25 d0 := fun n hn => by simpa using List.all_eq_true.1 hsz n (DataW.weights_mem_each (j := 0) rfl rfl n hn)
  have hs1 : Sized 27 d1 := fun n hn => by simpa using List.all_eq_true.1 hsz n (DataW.weights_mem_each (j := 1) rfl rfl n hn)
  have hs2 : Sized 28 d2 := fun n hn => by simpa using List.all_eq_true.1 hsz n (DataW.weights_mem_each (j := 2) rfl rfl n hn)
  obtain ⟨ra, ba, oa, rn, rc, bn, bc, on, oc, m, rfl, hm, hsh⟩ := market_read2 (hval 0 _ _ rfl rfl) h0 hs0
  obtain ⟨ha, pa, hn, hc, pn, pc, o, rfl, ho, ho1, ho2⟩ := outcome_read (hval 1 _ _ rfl rfl) h1 hs1
  obtain ⟨la, ln, lc, l, rfl, hl, hl1⟩ := whys_arg (hval 2 _ _ rfl rfl) h2 hs2
  have hr := reachBytes_lt
  have hnil : la = none → ln = 0 ∧ lc = 0 := by
    obtain ⟨fuel, hf⟩ := h2
    exact whys_nil (by simpa [Value.cells] using hf)
  refine (forestsOf_any ra ba oa ha pa la rn rc bn bc on oc hn hc pn pc ln lc m o l W hm ho hl hnil hsh (by omega) (by omega) (by omega)).mono ?_
  rintro e W' ⟨rfl, hB⟩
  exact ⟨_, rfl, law_post (f := Tryd.f3) hW' rfl (by kernel_rfl) (by decide) rfl hB⟩

theorem forestsOf_joined : joinedFacts Tryd.checked.prog 3 Tryd.f3 Rows.forestsOfSpec Rows.forestsOfRow = true :=
  joined_of (P := Tryd.checked.prog) (f := 3) (fn := Tryd.f3) (s := Rows.forestsOfSpec) (c := Rows.forestsOfRow) (by kernel_rfl) (by as_aux_lemma => kernel_rfl) (by as_aux_lemma => kernel_rfl) (by as_aux_lemma => kernel_rfl) (by as_aux_lemma => kernel_rfl)
    prog_mayEnter (prog_lifts' rfl) (prog_make' rfl) (by kernel_rfl) (by kernel_rfl) (by kernel_rfl) (by kernel_rfl) (by kernel_rfl)

theorem forestsOf_holds : Rows.ForestsOfSaid :=
  OpenClaim.holds_of_wide 3 Tryd.f3 rfl rfl rfl rfl rfl rfl rfl ⟨rfl, rfl, rfl, rfl, rfl⟩ rfl rfl rfl rfl rfl (by kernel_rfl) Tryd.func3
    forestsOf_joined
    (of_decide_eq_true (by kernel_rfl)) (by unfold Func.isWrapper; first | (rw [if_pos (by decide +kernel)]; kernel_rfl) | (rw [if_neg (by decide +kernel)]; exact ⟨rfl, rfl⟩))
    (fun os started H enc _ => forestsOf_lifted os started H enc)
end Go.Proofs.YtkddkkcfpnndlaaDoor
