/- OutcomesEven: for every input the law returns true. -/
import Derived.Test.YtbnjeegicbffeaaGreatOu3Q
import Derived.Test.YtbnjeegicbffeaaGreatG29
import Derived.Test.YtbnjeegicbffeaaGreatG30
/- OutcomesEven: for every input the law returns true. -/
namespace Go.Proofs.YtbnjeegicbffeaaGreat
open Go.ChangeShapes Go.WideShapes Go.ChangeAt Go.RowKit Go.Joins

set_option maxRecDepth 100000 in
theorem outcomesEven_lifted (os : Os) (started : os.Started) (H : Type) (enc : TypeId × Value → H) :
    ReturnsInHanded {} Tryz.checked os 14 .any (Rows.outcomesEvenSpec.pre6 enc Tryz.prog Tryz.f14 Rows.outcomesEvenRow.domain false) (Rows.outcomesEvenSpec.post enc Tryz.prog Tryz.f14 false true false false) := by
  refine returnsInHanded_of_change_sized (C := Tryz.checked) Tryz.ownL started (by kernel_rfl) Tryz.func14
    (ChangeSpec.witness6 (enc := enc) (C := Tryz.checked) false ⟨#[], #[.agg #[.slice none 0 0, .slice none 0 0, .slice none 0 0]], []⟩ 8 (by kernel_rfl) (by kernel_rfl) (by kernel_rfl) (by kernel_rfl)) ?_
  intro W base args ds gs before hval0 hW _ hsz0 _
  have hval : ∀ (j : Nat) t v, Tryz.f14.params[j]? = some t → args[j]? = some v → Value.okWide Tryz.prog W .any base t v := hval0
  have hsz : (DataW.weightsEach Tryz.prog (Tryz.f14.params.toList ++ []) (ds ++ gs)).all (· ≤ reachBytes) = true := hsz0
  have hW' := hW
  obtain ⟨p, q, hA0, hV, rfl, hfz, hnd⟩ := hW
  have hA : DataW.TrodAll enc Tryz.prog W 0 (fun _ => true) true Tryz.f14.params.toList args.toList ds p := hA0
  rw [Tryz.params14] at hA hval hsz
  obtain ⟨v0, d0, rfl, rfl, h0⟩ := trodAll_one hA
  obtain ⟨rfl, rfl⟩ := trodVars_none hV
  have hs0 : Sized 28 d0 := fun n hn => by simpa using List.all_eq_true.1 hsz n (DataW.weights_mem_each (j := 0) rfl rfl n hn)
  obtain ⟨ra, ba, oa, rn, rc, bn, bc, on, oc, m, rfl, hm, hb1, hb2, hb3⟩ := market_read (hval 0 _ _ rfl rfl) h0 hs0
  refine (outcomesEven_any ra ba oa rn rc bn bc on oc m W hm).mono ?_
  rintro e W' ⟨rfl, hB⟩
  exact ⟨_, rfl, law_post (f := Tryz.f14) hW' rfl (by kernel_rfl) (by decide) rfl hB⟩

theorem outcomesEven_joined : joinedFacts Tryz.checked.prog 14 Tryz.f14 Rows.outcomesEvenSpec Rows.outcomesEvenRow = true :=
  joined_of (P := Tryz.checked.prog) (f := 14) (fn := Tryz.f14) (s := Rows.outcomesEvenSpec) (c := Rows.outcomesEvenRow) (by kernel_rfl) (by as_aux_lemma => kernel_rfl) (by as_aux_lemma => kernel_rfl) (by as_aux_lemma => kernel_rfl) (by as_aux_lemma => kernel_rfl)
    prog_mayEnter (prog_lifts' rfl) (prog_make' rfl) (by kernel_rfl) (by kernel_rfl) (by kernel_rfl) (by kernel_rfl) (by kernel_rfl)

theorem outcomesEven_holds : Rows.OutcomesEvenSaid :=
  OpenClaim.holds_of_wide 14 Tryz.f14 rfl rfl rfl rfl rfl rfl rfl ⟨rfl, rfl, rfl, rfl, rfl⟩ rfl rfl rfl rfl rfl (by kernel_rfl) Tryz.func14
    outcomesEven_joined
    (of_decide_eq_true (by kernel_rfl)) (by unfold Func.isWrapper; first | (rw [if_pos (by decide +kernel)]; kernel_rfl) | (rw [if_neg (by decide +kernel)]; exact ⟨rfl, rfl⟩))
    (fun os started H enc _ => outcomesEven_lifted os started H enc)
end Go.Proofs.YtbnjeegicbffeaaGreat
