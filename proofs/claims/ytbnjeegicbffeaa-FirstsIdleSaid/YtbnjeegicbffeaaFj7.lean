/- FirstsIdle: for every input the law returns true. -/
import Derived.Test.YtbnjeegicbffeaaFa7
namespace Go.Proofs.Ytbnjeegicbffeaa
open Go.ChangeShapes Go.WideShapes Go.ChangeAt Go.RowKit Go.Joins

set_option maxRecDepth 100000 in
theorem firstsIdle_lifted (os : Os) (started : os.Started) (H : Type) (enc : TypeId × Value → H) :
    ReturnsInHanded {} Try.checked os 10 .any (Rows.firstsIdleSpec.pre6 enc Try.prog Try.f10 Rows.firstsIdleRow.domain false) (Rows.firstsIdleSpec.post enc Try.prog Try.f10 false true false false) := by
  refine returnsInHanded_of_change_sized (C := Try.checked) Try.ownL started (by kernel_rfl) Try.func10
    (ChangeSpec.witness6 (enc := enc) (C := Try.checked) false ⟨#[], #[.agg #[.slice none 0 0, .int .i64 0], .slice none 0 0, .int .u8 0], []⟩ 8 (by kernel_rfl) (by kernel_rfl) (by kernel_rfl) (by kernel_rfl)) ?_
  intro W base args ds gs before hval0 hW _ hsz0 _
  have hval : ∀ (j : Nat) t v, Try.f10.params[j]? = some t → args[j]? = some v → Value.okWide Try.prog W .any base t v := hval0
  have hsz : (DataW.weightsEach Try.prog (Try.f10.params.toList ++ []) (ds ++ gs)).all (· ≤ reachBytes) = true := hsz0
  have hW' := hW
  obtain ⟨p, q, hA0, hV, rfl, hfz, hnd⟩ := hW
  have hA : DataW.TrodAll enc Try.prog W 0 (fun _ => true) true Try.f10.params.toList args.toList ds p := hA0
  rw [Try.params10] at hA hval hsz
  obtain ⟨v0, v1, v2, d0, d1, d2, p0, p1, p2, rfl, rfl, rfl, h0, h1, h2⟩ := trodAll_three hA
  obtain ⟨rfl, rfl⟩ := trodVars_none hV
  have hs0 : Sized 37 d0 := fun n hn => by simpa using List.all_eq_true.1 hsz n (DataW.weights_mem_each (j := 0) rfl rfl n hn)
  have hs1 : Sized 22 d1 := fun n hn => by simpa using List.all_eq_true.1 hsz n (DataW.weights_mem_each (j := 1) rfl rfl n hn)
  obtain ⟨ga, gn, gc, xss, items, rfl, hg, _, _, _, _⟩ := gains_read (hval 0 _ _ rfl rfl) h0 hs0
  obtain ⟨oa, o_n, oc, xs, rfl, ho, hon⟩ := ints_arg (hval 1 _ _ rfl rfl) h1 hs1
  obtain ⟨z, rfl, rfl, rfl, hw⟩ := open_int Try.underlying5 (hval 2 _ _ rfl rfl) h2
  simp only [Lit.wf, Bool.and_eq_true, decide_eq_true_eq, show IntKind.u8.min = 0 by decide, show IntKind.u8.max = 255 by decide] at hw
  obtain ⟨by', rfl⟩ := Int.eq_ofNat_of_zero_le hw.1
  refine (firstsIdle_any ga oa gn gc o_n oc xss items xs by' W hg ho hon (by omega)).mono ?_
  rintro e W' ⟨rfl, hB⟩
  exact ⟨_, rfl, law_post (f := Try.f10) hW' rfl (by kernel_rfl) (by decide) rfl hB⟩

theorem firstsIdle_holds : Rows.FirstsIdleSaid :=
  OpenClaim.holds_of_wide 10 Try.f10 rfl rfl rfl rfl rfl rfl rfl ⟨rfl, rfl, rfl, rfl, rfl⟩ rfl rfl rfl rfl rfl (by kernel_rfl) Try.func10 (by kernel_rfl)
    (of_decide_eq_true (by kernel_rfl)) (by unfold Func.isWrapper; first | (rw [if_pos (by decide +kernel)]; kernel_rfl) | (rw [if_neg (by decide +kernel)]; exact ⟨rfl, rfl⟩))
    (fun os started H enc _ => firstsIdle_lifted os started H enc)
end Go.Proofs.Ytbnjeegicbffeaa
