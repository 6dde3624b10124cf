/- PathsOf: for every input the law returns true. -/
import Derived.Test.YtkddkkcfpnndlaaGreatDoorPg48
import Derived.Test.YtkddkkcfpnndlaaGreatDoorPg16
import Derived.Test.YtkddkkcfpnndlaaGreatDoorPg49
import Derived.LaidMore
namespace Go.Proofs.YtkddkkcfpnndlaaGreatDoor
open Go.ChangeShapes Go.WideShapes Go.ChangeAt Go.RowKit Go.Joins Go.Deep

set_option maxRecDepth 100000 in
theorem pathsOf_lifted (os : Os) (started : os.Started) (H : Type) (enc : TypeId × Value → H) :
    ReturnsInHanded {} Tryz.checked os 4 .any (fun w args => (Rows.pathsOfSpec.pre enc Tryz.prog Tryz.f4 [] false w args ∧ laidMetH Tryz.prog Rows.pathsOfRow.laid w) ∧ sizedMet enc Tryz.prog Tryz.f4 (OpenSpec.ofChange Rows.pathsOfSpec) false w args)
      (Rows.pathsOfSpec.post enc Tryz.prog Tryz.f4 false true false false) := by
  refine returnsInHanded_of_change_and (C := Tryz.checked) (X := fun w _ => laidMetH Tryz.prog Rows.pathsOfRow.laid w) (fun _ _ _ hh h => h.of_heap hh) Tryz.ownL started (by kernel_rfl) Tryz.func4
    (ChangeSpec.witness_shaped (enc := enc) (C := Tryz.checked) (os := os) (X := fun w _ => laidMetH Tryz.prog Rows.pathsOfRow.laid w) false (World.doorLaid Tryz.prog 400 os) #[.agg #[.slice none 0 0, .int .i64 0], .slice none 0 0, .int .i64 0] 8 rfl (World.shaped_of_RefB (by kernel_rfl) (by kernel_rfl)) (by kernel_rfl) (by kernel_rfl) (by kernel_rfl) (door_metZ os _)) ?_
  intro W base args ds gs before hval0 hW _ hsz0 _ _
  have hval : ∀ (j : Nat) t v, Tryz.f4.params[j]? = some t → args[j]? = some v → Value.okWide Tryz.prog W .any base t v := hval0
  have hsz : (DataW.weightsEach Tryz.prog (Tryz.f4.params.toList ++ []) (ds ++ gs)).all (· ≤ reachBytes) = true := hsz0
  have hW' := hW
  obtain ⟨p, q, hA0, hV, rfl, hfz, hnd⟩ := hW
  have hA : DataW.TrodAll enc Tryz.prog W 0 (fun _ => true) true Tryz.f4.params.toList args.toList ds p := hA0
  rw [Tryz.params4] at hA hval hsz
  obtain ⟨v0, v1, v2, d0, d1, d2, p0, p1, p2, rfl, rfl, rfl, h0, h1, h2⟩ := trodAll_three hA
  obtain ⟨rfl, rfl⟩ := trodVars_none hV
  have hs0 : Sized 50 d0 := fun n hn => by simpa using List.all_eq_true.1 hsz n (DataW.weights_mem_each (j := 0) rfl rfl n hn)
  have hs1 : Sized 25 d1 := fun n hn => by simpa using List.all_eq_true.1 hsz n (DataW.weights_mem_each (j := 1) rfl rfl n hn)
  obtain ⟨ga, gn, gc, xss, items, rfl, hg, hgn, hgx, -, -⟩ := graph_read (hval 0 _ _ rfl rfl) h0 hs0
  obtain ⟨oa, o_n, oc, xs, rfl, ho, hon⟩ := ints_arg (hval 1 _ _ rfl rfl) h1 hs1
  obtain ⟨z, rfl, rfl, rfl, hw⟩ := open_int Tryz.underlying3 (hval 2 _ _ rfl rfl) h2
  have hr := reachBytes_lt
  refine (pathsOf_any ga oa gn gc o_n oc xss items xs z W hg ho (by omega) (by omega) (fun ys hy => by have := hgx ys hy; omega)).mono ?_
  rintro e W' ⟨rfl, hB⟩
  exact ⟨_, rfl, law_post (f := Tryz.f4) hW' rfl (by kernel_rfl) (by decide) rfl hB⟩

set_option maxRecDepth 100000 in
set_option maxHeartbeats 4000000 in
theorem pathsOf_joined : joinedFacts Tryz.checked.prog 4 Tryz.f4 Rows.pathsOfSpec Rows.pathsOfRow = true :=
  joined_ofZ (P := Tryz.checked.prog) (f := 4) (fn := Tryz.f4) (s := Rows.pathsOfSpec) (c := Rows.pathsOfRow) (by kernel_rfl) (by as_aux_lemma => kernel_rfl) (by as_aux_lemma => kernel_rfl) (by as_aux_lemma => kernel_rfl) (by as_aux_lemma => kernel_rfl)
    prog_mayEnterZ (prog_liftsZ' rfl) (prog_makeZ' rfl) (by kernel_rfl) (by kernel_rfl) (by kernel_rfl) (by kernel_rfl) (by kernel_rfl)

theorem pathsOf_holds : Rows.PathsOfSaid :=
  OpenClaim.holds_of_wide 4 Tryz.f4 rfl rfl rfl rfl rfl rfl rfl ⟨rfl, rfl, rfl, rfl, rfl⟩ rfl rfl rfl rfl rfl (by kernel_rfl) Tryz.func4
    pathsOf_joined
    (of_decide_eq_true (by kernel_rfl)) (by unfold Func.isWrapper; first | (rw [if_pos (by decide +kernel)]; kernel_rfl) | (rw [if_neg (by decide +kernel)]; exact ⟨rfl, rfl⟩))
    (fun os started H enc _ => pathsOf_lifted os started H enc)
end Go.Proofs.YtkddkkcfpnndlaaGreatDoor
