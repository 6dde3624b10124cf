/- ViewsMine: for every input the law returns true. -/
import Derived.Test.YtbnjeegicbffeaaGreatG49
import Derived.Test.YtbnjeegicbffeaaGreatG50
import Derived.Test.YtbnjeegicbffeaaGreatG30
/- ViewsMine: for every input the law returns true. -/
namespace Go.Proofs.YtbnjeegicbffeaaGreat
open Go.ChangeShapes Go.WideShapes Go.ChangeAt Go.RowKit Go.Joins

set_option maxRecDepth 100000 in
theorem viewsMine_lifted (os : Os) (started : os.Started) (H : Type) (enc : TypeId × Value → H) :
    ReturnsInHanded {} Tryz.checked os 4 .any (Rows.viewsMineSpec.pre6 enc Tryz.prog Tryz.f4 Rows.viewsMineRow.domain false) (Rows.viewsMineSpec.post enc Tryz.prog Tryz.f4 false true false false) := by
  refine returnsInHanded_of_change_sized (C := Tryz.checked) Tryz.ownL started (by kernel_rfl) Tryz.func4
    (ChangeSpec.witness6 (enc := enc) (C := Tryz.checked) false ⟨#[], #[.agg #[.int .u32 0, .bool false, .slice none 0 0]], []⟩ 8 (by kernel_rfl) (by kernel_rfl) (by kernel_rfl) (by kernel_rfl)) ?_
  intro W base args ds gs before hval0 hW _ hsz0 _
  have hval : ∀ (j : Nat) t v, Tryz.f4.params[j]? = some t → args[j]? = some v → Value.okWide Tryz.prog W .any base t v := hval0
  have hsz : (DataW.weightsEach Tryz.prog (Tryz.f4.params.toList ++ []) (ds ++ gs)).all (· ≤ reachBytes) = true := hsz0
  have hW' := hW
  obtain ⟨p, q, hA0, hV, rfl, hfz, hnd⟩ := hW
  have hA : DataW.TrodAll enc Tryz.prog W 0 (fun _ => true) true Tryz.f4.params.toList args.toList ds p := hA0
  rw [Tryz.params4] at hA hval hsz
  obtain ⟨v0, d0, rfl, rfl, h0⟩ := trodAll_one hA
  obtain ⟨rfl, rfl⟩ := trodVars_none hV
  have hs0 : Sized 25 d0 := fun n hn => by simpa using List.all_eq_true.1 hsz n (DataW.weights_mem_each (j := 0) rfl rfl n hn)
  obtain ⟨seq, st, ea, en, ec, bid, rfl, hi, hen⟩ := record_read (hval 0 _ _ rfl rfl) h0 hs0
  refine (viewsMine_any ea en ec seq st bid W hi (by have : reachBytes = 0x7ffffffff000 := rfl; omega)).mono ?_
  rintro e W' ⟨rfl, hB⟩
  exact ⟨_, rfl, law_post (f := Tryz.f4) hW' rfl (by kernel_rfl) (by decide) rfl hB⟩

theorem viewsMine_joined : joinedFacts Tryz.checked.prog 4 Tryz.f4 Rows.viewsMineSpec Rows.viewsMineRow = true :=
  joined_of (P := Tryz.checked.prog) (f := 4) (fn := Tryz.f4) (s := Rows.viewsMineSpec) (c := Rows.viewsMineRow) (by kernel_rfl) (by as_aux_lemma => kernel_rfl) (by as_aux_lemma => kernel_rfl) (by as_aux_lemma => kernel_rfl) (by as_aux_lemma => kernel_rfl)
    prog_mayEnter (prog_lifts' rfl) (prog_make' rfl) (by kernel_rfl) (by kernel_rfl) (by kernel_rfl) (by kernel_rfl) (by kernel_rfl)

theorem viewsMine_holds : Rows.ViewsMineSaid :=
  OpenClaim.holds_of_wide 4 Tryz.f4 rfl rfl rfl rfl rfl rfl rfl ⟨rfl, rfl, rfl, rfl, rfl⟩ rfl rfl rfl rfl rfl (by kernel_rfl) Tryz.func4
    viewsMine_joined
    (of_decide_eq_true (by kernel_rfl)) (by unfold Func.isWrapper; first | (rw [if_pos (by decide +kernel)]; kernel_rfl) | (rw [if_neg (by decide +kernel)]; exact ⟨rfl, rfl⟩))
    (fun os started H enc _ => viewsMine_lifted os started H enc)
end Go.Proofs.YtbnjeegicbffeaaGreat
