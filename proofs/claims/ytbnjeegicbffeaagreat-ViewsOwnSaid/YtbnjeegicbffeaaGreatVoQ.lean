/- ViewsOwn: for every input the law returns true. -/
import Derived.Test.YtbnjeegicbffeaaGreatG51
import Derived.Test.YtbnjeegicbffeaaGreatG31
import Derived.Test.YtbnjeegicbffeaaGreatG50
import Derived.Test.YtbnjeegicbffeaaGreatG30
/- ViewsOwn: for every input the law returns true. -/
namespace Go.Proofs.YtbnjeegicbffeaaGreat
open Go.ChangeShapes Go.WideShapes Go.ChangeAt Go.RowKit Go.Joins

set_option maxRecDepth 100000 in
theorem viewsOwn_lifted (os : Os) (started : os.Started) (H : Type) (enc : TypeId × Value → H) :
    ReturnsInHanded {} Tryz.checked os 3 .any (Rows.viewsOwnSpec.pre6 enc Tryz.prog Tryz.f3 Rows.viewsOwnRow.domain false) (Rows.viewsOwnSpec.post enc Tryz.prog Tryz.f3 false true false false) := by
  refine returnsInHanded_of_change_sized (C := Tryz.checked) Tryz.ownL started (by kernel_rfl) Tryz.func3
    (ChangeSpec.witness6 (enc := enc) (C := Tryz.checked) false ⟨#[], #[.agg #[.int .u32 0, .bool false, .slice none 0 0, .slice none 0 0, .slice none 0 0, .slice none 0 0, .slice none 0 0, .slice none 0 0, .int .i64 0, .int .u8 0, .int .u64 0], .agg #[.slice none 0 0, .slice none 0 0]], []⟩ 8 (by kernel_rfl) (by kernel_rfl) (by kernel_rfl) (by kernel_rfl)) ?_
  intro W base args ds gs before hval0 hW _ hsz0 _
  have hval : ∀ (j : Nat) t v, Tryz.f3.params[j]? = some t → args[j]? = some v → Value.okWide Tryz.prog W .any base t v := hval0
  have hsz : (DataW.weightsEach Tryz.prog (Tryz.f3.params.toList ++ []) (ds ++ gs)).all (· ≤ reachBytes) = true := hsz0
  have hW' := hW
  obtain ⟨p, q, hA0, hV, rfl, hfz, hnd⟩ := hW
  have hA : DataW.TrodAll enc Tryz.prog W 0 (fun _ => true) true Tryz.f3.params.toList args.toList ds p := hA0
  rw [Tryz.params3] at hA hval hsz
  obtain ⟨v0, v1, d0, d1, p0, p1, rfl, rfl, rfl, h0, h1⟩ := trodAll_two hA
  obtain ⟨rfl, rfl⟩ := trodVars_none hV
  have hs0 : Sized 34 d0 := fun n hn => by simpa using List.all_eq_true.1 hsz n (DataW.weights_mem_each (j := 0) rfl rfl n hn)
  obtain ⟨seq, st, ea, en, ec, bid, ra, ba, oa, rn, rc, bn, bc, on, oc, m, za, ya, zn, zc, yn, yc, zo, zi, ph, now, rfl, he, hen, hm, hzo, hzi, hph, hnow⟩ := seen_read (hval 0 _ _ rfl rfl) h0 hs0
  have hs1 : Sized 30 d1 := fun n hn => by simpa using List.all_eq_true.1 hsz n (DataW.weights_mem_each (j := 1) rfl rfl n hn)
  obtain ⟨ha, pa, hn, hc, pn, pc, o, rfl, ho, ho1, ho2⟩ := outcome_read (hval 1 _ _ rfl rfl) h1 hs1
  refine (viewsOwn_any ea ra ba oa za ya ha pa en ec rn rc bn bc on oc zn zc yn yc hn hc pn pc seq st bid m zo zi ph now o W he (by have : reachBytes = 0x7ffffffff000 := rfl; omega) hm hzo hzi ho).mono ?_
  rintro e W' ⟨rfl, hB⟩
  exact ⟨_, rfl, law_post (f := Tryz.f3) hW' rfl (by kernel_rfl) (by decide) rfl hB⟩

theorem viewsOwn_joined : joinedFacts Tryz.checked.prog 3 Tryz.f3 Rows.viewsOwnSpec Rows.viewsOwnRow = true :=
  joined_of (P := Tryz.checked.prog) (f := 3) (fn := Tryz.f3) (s := Rows.viewsOwnSpec) (c := Rows.viewsOwnRow) (by kernel_rfl) (by as_aux_lemma => kernel_rfl) (by as_aux_lemma => kernel_rfl) (by as_aux_lemma => kernel_rfl) (by as_aux_lemma => kernel_rfl)
    prog_mayEnter (prog_lifts' rfl) (prog_make' rfl) (by kernel_rfl) (by kernel_rfl) (by kernel_rfl) (by kernel_rfl) (by kernel_rfl)

theorem viewsOwn_holds : Rows.ViewsOwnSaid :=
  OpenClaim.holds_of_wide 3 Tryz.f3 rfl rfl rfl rfl rfl rfl rfl ⟨rfl, rfl, rfl, rfl, rfl⟩ rfl rfl rfl rfl rfl (by kernel_rfl) Tryz.func3
    viewsOwn_joined
    (of_decide_eq_true (by kernel_rfl)) (by unfold Func.isWrapper; first | (rw [if_pos (by decide +kernel)]; kernel_rfl) | (rw [if_neg (by decide +kernel)]; exact ⟨rfl, rfl⟩))
    (fun os started H enc _ => viewsOwn_lifted os started H enc)
end Go.Proofs.YtbnjeegicbffeaaGreat
