/- ForestsRank: for every input the law returns true. -/
import Derived.Test.YtbnjeegicbffeaaFk1
import Derived.Test.YtbnjeegicbffeaaLiftO
import Derived.Test.YtbnjeegicbffeaaJf
namespace Go.Proofs.Ytbnjeegicbffeaa
open Go.ChangeShapes Go.WideShapes Go.ChangeAt Go.RowKit Go.Joins

set_option maxRecDepth 100000 in
theorem forestsRank_lifted (os : Os) (started : os.Started) (H : Type) (enc : TypeId × Value → H) :
    ReturnsInHanded {} Try.checked os 3 .any (Rows.forestsRankSpec.pre6 enc Try.prog Try.f3 Rows.forestsRankRow.domain false) (Rows.forestsRankSpec.post enc Try.prog Try.f3 false true false false) := by
  refine returnsInHanded_of_change_sized (C := Try.checked) Try.ownL started (by kernel_rfl) Try.func3
    (ChangeSpec.witness6 (enc := enc) (C := Try.checked) false ⟨#[], #[.agg #[.slice none 0 0, .slice none 0 0, .slice none 0 0], .agg #[.slice none 0 0, .slice none 0 0], .slice none 0 0], []⟩ 8 (by kernel_rfl) (by kernel_rfl) (by kernel_rfl) (by kernel_rfl)) ?_
  intro W base args ds gs before hval0 hW _ hsz0 _
  have hval : ∀ (j : Nat) t v, Try.f3.params[j]? = some t → args[j]? = some v → Value.okWide Try.prog W .any base t v := hval0
  have hsz : (DataW.weightsEach Try.prog (Try.f3.params.toList ++ []) (ds ++ gs)).all (· ≤ reachBytes) = true := hsz0
  have hW' := hW
  obtain ⟨p, q, hA0, hV, rfl, hfz, hnd⟩ := hW
  have hA : DataW.TrodAll enc Try.prog W 0 (fun _ => true) true Try.f3.params.toList args.toList ds p := hA0
  rw [Try.params3] at hA hval hsz
  obtain ⟨v0, v1, v2, d0, d1, d2, p0, p1, p2, rfl, rfl, rfl, h0, h1, h2⟩ := trodAll_three hA
  obtain ⟨rfl, rfl⟩ := trodVars_none hV
  have hs0 : Sized 25 d0 := fun n hn => by simpa using List.all_eq_true.1 hsz n (DataW.weights_mem_each (j := 0) rfl rfl n hn)
  have hs1 : Sized 27 d1 := fun n hn => by simpa using List.all_eq_true.1 hsz n (DataW.weights_mem_each (j := 1) rfl rfl n hn)
  have hs2 : Sized 28 d2 := fun n hn => by simpa using List.all_eq_true.1 hsz n (DataW.weights_mem_each (j := 2) rfl rfl n hn)
  obtain ⟨ra, ba, oa, rn, rc, bn, bc, on, oc, m, rfl, hm, _, _, _⟩ := market_read (hval 0 _ _ rfl rfl) h0 hs0
  obtain ⟨ha, pa, hn, hc, pn, pc, o, rfl, ho, _, _⟩ := outcome_read (hval 1 _ _ rfl rfl) h1 hs1
  obtain ⟨la, ln, lc, l, rfl, hl, _⟩ := whys_arg (hval 2 _ _ rfl rfl) h2 hs2
  refine (forestsRank_any ra ba oa ha pa la rn rc bn bc on oc hn hc pn pc ln lc m o l W hm ho hl).mono ?_
  rintro e W' ⟨rfl, hB⟩
  exact ⟨_, rfl, law_post (f := Try.f3) hW' rfl (by kernel_rfl) (by decide) rfl hB⟩

theorem forestsRank_joined : joinedFacts Try.checked.prog 3 Try.f3 Rows.forestsRankSpec Rows.forestsRankRow = true :=
  joined_of (P := Try.checked.prog) (f := 3) (fn := Try.f3) (s := Rows.forestsRankSpec) (c := Rows.forestsRankRow) (by kernel_rfl) (by as_aux_lemma => kernel_rfl) (by as_aux_lemma => kernel_rfl) (by as_aux_lemma => kernel_rfl) (by as_aux_lemma => kernel_rfl)
    prog_mayEnter (prog_lifts' rfl) (prog_make' rfl) (by kernel_rfl) (by kernel_rfl) (by kernel_rfl) (by kernel_rfl) (by kernel_rfl)

theorem forestsRank_holds : Rows.ForestsRankSaid :=
  OpenClaim.holds_of_wide 3 Try.f3 rfl rfl rfl rfl rfl rfl rfl ⟨rfl, rfl, rfl, rfl, rfl⟩ rfl rfl rfl rfl rfl (by kernel_rfl) Try.func3
    forestsRank_joined
    (of_decide_eq_true (by kernel_rfl)) (by unfold Func.isWrapper; first | (rw [if_pos (by decide +kernel)]; kernel_rfl) | (rw [if_neg (by decide +kernel)]; exact ⟨rfl, rfl⟩))
    (fun os started H enc _ => forestsRank_lifted os started H enc)
end Go.Proofs.Ytbnjeegicbffeaa
