/- OutcomesFirst: for every input the law returns true. -/
import Derived.Test.YtbnjeegicbffeaaGreatG47
import Derived.Test.YtbnjeegicbffeaaGreatG29
import Derived.Test.YtbnjeegicbffeaaGreatG30
/- OutcomesFirst: for every input the law returns true. -/
namespace Go.Proofs.YtbnjeegicbffeaaGreat
open Go.ChangeShapes Go.WideShapes Go.ChangeAt Go.RowKit Go.Joins

set_option maxRecDepth 100000 in
theorem outcomesFirst_lifted (os : Os) (started : os.Started) (H : Type) (enc : TypeId × Value → H) :
    ReturnsInHanded {} Tryz.checked os 7 .any (Rows.outcomesFirstSpec.pre6 enc Tryz.prog Tryz.f7 Rows.outcomesFirstRow.domain false) (Rows.outcomesFirstSpec.post enc Tryz.prog Tryz.f7 false true false false) := by
  refine returnsInHanded_of_change_sized (C := Tryz.checked) Tryz.ownL started (by kernel_rfl) Tryz.func7
    (ChangeSpec.witness6 (enc := enc) (C := Tryz.checked) false ⟨#[], #[.agg #[.slice none 0 0, .slice none 0 0, .slice none 0 0], .int .u8 0], []⟩ 8 (by kernel_rfl) (by kernel_rfl) (by kernel_rfl) (by kernel_rfl)) ?_
  intro W base args ds gs before hval0 hW _ hsz0 _
  have hval : ∀ (j : Nat) t v, Tryz.f7.params[j]? = some t → args[j]? = some v → Value.okWide Tryz.prog W .any base t v := hval0
  have hsz : (DataW.weightsEach Tryz.prog (Tryz.f7.params.toList ++ []) (ds ++ gs)).all (· ≤ reachBytes) = true := hsz0
  have hW' := hW
  obtain ⟨p, q, hA0, hV, rfl, hfz, hnd⟩ := hW
  have hA : DataW.TrodAll enc Tryz.prog W 0 (fun _ => true) true Tryz.f7.params.toList args.toList ds p := hA0
  rw [Tryz.params7] at hA hval hsz
  obtain ⟨v0, v1, d0, d1, p0, p1, rfl, rfl, rfl, h0, h1⟩ := trodAll_two hA
  obtain ⟨rfl, rfl⟩ := trodVars_none hV
  have hs0 : Sized 28 d0 := fun n hn => by simpa using List.all_eq_true.1 hsz n (DataW.weights_mem_each (j := 0) rfl rfl n hn)
  obtain ⟨ra, ba, oa, rn, rc, bn, bc, on, oc, m, rfl, hm, hb1, hb2, hb3⟩ := market_read (hval 0 _ _ rfl rfl) h0 hs0
  obtain ⟨z1, rfl, rfl, rfl, hw1⟩ := open_int Tryz.underlying5 (hval 1 _ _ rfl rfl) h1
  simp only [Lit.wf, Bool.and_eq_true, decide_eq_true_eq, show IntKind.u8.min = 0 by decide, show IntKind.u8.max = 255 by decide] at hw1
  obtain ⟨bd, rfl⟩ := Int.eq_ofNat_of_zero_le hw1.1
  refine (outcomesFirst_any ra ba oa rn rc bn bc on oc m bd W hm (by omega)).mono ?_
  rintro e W' ⟨rfl, hB⟩
  exact ⟨_, rfl, law_post (f := Tryz.f7) hW' rfl (by kernel_rfl) (by decide) rfl hB⟩

theorem outcomesFirst_joined : joinedFacts Tryz.checked.prog 7 Tryz.f7 Rows.outcomesFirstSpec Rows.outcomesFirstRow = true :=
  joined_of (P := Tryz.checked.prog) (f := 7) (fn := Tryz.f7) (s := Rows.outcomesFirstSpec) (c := Rows.outcomesFirstRow) (by kernel_rfl) (by as_aux_lemma => kernel_rfl) (by as_aux_lemma => kernel_rfl) (by as_aux_lemma => kernel_rfl) (by as_aux_lemma => kernel_rfl)
    prog_mayEnter (prog_lifts' rfl) (prog_make' rfl) (by kernel_rfl) (by kernel_rfl) (by kernel_rfl) (by kernel_rfl) (by kernel_rfl)

theorem outcomesFirst_holds : Rows.OutcomesFirstSaid :=
  OpenClaim.holds_of_wide 7 Tryz.f7 rfl rfl rfl rfl rfl rfl rfl ⟨rfl, rfl, rfl, rfl, rfl⟩ rfl rfl rfl rfl rfl (by kernel_rfl) Tryz.func7
    outcomesFirst_joined
    (of_decide_eq_true (by kernel_rfl)) (by unfold Func.isWrapper; first | (rw [if_pos (by decide +kernel)]; kernel_rfl) | (rw [if_neg (by decide +kernel)]; exact ⟨rfl, rfl⟩))
    (fun os started H enc _ => outcomesFirst_lifted os started H enc)
end Go.Proofs.YtbnjeegicbffeaaGreat
