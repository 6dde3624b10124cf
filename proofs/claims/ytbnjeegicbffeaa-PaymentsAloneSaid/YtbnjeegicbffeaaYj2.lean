/- PaymentsAlone: for every input the law returns true. -/
import Derived.Test.YtbnjeegicbffeaaPy7
import Derived.Test.YtbnjeegicbffeaaLiftM
import Derived.Test.YtbnjeegicbffeaaJf
namespace Go.Proofs.Ytbnjeegicbffeaa
open Go.ChangeShapes Go.WideShapes Go.ChangeAt Go.RowKit Go.Joins

set_option maxRecDepth 100000 in
theorem paymentsAlone_lifted (os : Os) (started : os.Started) (H : Type) (enc : TypeId × Value → H) :
    ReturnsInHanded {} Try.checked os 18 .any (Rows.paymentsAloneSpec.pre6 enc Try.prog Try.f18 Rows.paymentsAloneRow.domain false) (Rows.paymentsAloneSpec.post enc Try.prog Try.f18 false true false false) := by
  refine returnsInHanded_of_change_sized (C := Try.checked) Try.ownL started (by kernel_rfl) Try.func18
    (ChangeSpec.witness6 (enc := enc) (C := Try.checked) false ⟨#[], #[.agg #[.slice none 0 0, .slice none 0 0, .slice none 0 0], .int .u8 0], []⟩ 8 (by kernel_rfl) (by kernel_rfl) (by kernel_rfl) (by kernel_rfl)) ?_
  intro W base args ds gs before hval0 hW _ hsz0 _
  have hval : ∀ (j : Nat) t v, Try.f18.params[j]? = some t → args[j]? = some v → Value.okWide Try.prog W .any base t v := hval0
  have hsz : (DataW.weightsEach Try.prog (Try.f18.params.toList ++ []) (ds ++ gs)).all (· ≤ reachBytes) = true := hsz0
  have hW' := hW
  obtain ⟨p, q, hA0, hV, rfl, hfz, hnd⟩ := hW
  have hA : DataW.TrodAll enc Try.prog W 0 (fun _ => true) true Try.f18.params.toList args.toList ds p := hA0
  rw [Try.params18] at hA hval hsz
  obtain ⟨v0, v1, d0, d1, p0, p1, rfl, rfl, rfl, h0, h1⟩ := trodAll_two hA
  obtain ⟨rfl, rfl⟩ := trodVars_none hV
  have hs0 : Sized 25 d0 := fun n hn => by simpa using List.all_eq_true.1 hsz n (DataW.weights_mem_each (j := 0) rfl rfl n hn)
  obtain ⟨ra, ba, oa, rn, rc, bn, bc, on, oc, m, rfl, hm, _, _, _⟩ := market_read (hval 0 _ _ rfl rfl) h0 hs0
  obtain ⟨z, rfl, rfl, rfl, hw⟩ := open_int Try.underlying5 (hval 1 _ _ rfl rfl) h1
  simp only [Lit.wf, Bool.and_eq_true, decide_eq_true_eq, show IntKind.u8.min = 0 by decide, show IntKind.u8.max = 255 by decide] at hw
  obtain ⟨bd, rfl⟩ := Int.eq_ofNat_of_zero_le hw.1
  refine (paymentsAlone_any ra ba oa rn rc bn bc on oc m bd W hm (by omega)).mono ?_
  rintro e W' ⟨rfl, hB⟩
  exact ⟨_, rfl, law_post (f := Try.f18) hW' rfl (by kernel_rfl) (by decide) rfl hB⟩

theorem paymentsAlone_joined : joinedFacts Try.checked.prog 18 Try.f18 Rows.paymentsAloneSpec Rows.paymentsAloneRow = true :=
  joined_of (P := Try.checked.prog) (f := 18) (fn := Try.f18) (s := Rows.paymentsAloneSpec) (c := Rows.paymentsAloneRow) (by kernel_rfl) (by as_aux_lemma => kernel_rfl) (by as_aux_lemma => kernel_rfl) (by as_aux_lemma => kernel_rfl) (by as_aux_lemma => kernel_rfl)
    prog_mayEnter (prog_lifts' rfl) (prog_make' rfl) (by kernel_rfl) (by kernel_rfl) (by kernel_rfl) (by kernel_rfl) (by kernel_rfl)

theorem paymentsAlone_holds : Rows.PaymentsAloneSaid :=
  OpenClaim.holds_of_wide 18 Try.f18 rfl rfl rfl rfl rfl rfl rfl ⟨rfl, rfl, rfl, rfl, rfl⟩ rfl rfl rfl rfl rfl (by kernel_rfl) Try.func18
    paymentsAlone_joined
    (of_decide_eq_true (by kernel_rfl)) (by unfold Func.isWrapper; first | (rw [if_pos (by decide +kernel)]; kernel_rfl) | (rw [if_neg (by decide +kernel)]; exact ⟨rfl, rfl⟩))
    (fun os started H enc _ => paymentsAlone_lifted os started H enc)
end Go.Proofs.Ytbnjeegicbffeaa
