/- Walks: the law ForestsOnly. ForestsOnly: for every input the law returns true. -/
import Derived.Test.YtbnjeegicbffeaaGreatG36
import Derived.Test.YtbnjeegicbffeaaGreatG35
import Derived.Test.YtbnjeegicbffeaaGreatG38
import Derived.Test.YtbnjeegicbffeaaGreatG29
import Derived.Test.YtbnjeegicbffeaaGreatG31
import Derived.Test.YtbnjeegicbffeaaGreatG30
/- Walks: the law ForestsOnly. -/
namespace Go.Proofs.YtbnjeegicbffeaaGreat
open Go.RowKit Sale Tree

theorem MoAt.new (w : World) {ra ba oa ha pa : Option Addr} {rn rc bn bc on oc hn hc pn pc : Nat} {m : Mkt} {o : Outc} (hm : MktAt w ra ba oa rn rc bn bc on oc m) (ho : OutAt w ha pa hn hc pn pc o) :
    MoAt w w.heap.size (w.heap.size + 1) ra ba oa ha pa rn rc bn bc on oc hn hc pn pc m o ((w.alloc (.cells #[.slice ra rn rc, .slice ba bn bc, .slice oa on oc] 28)).alloc (.cells #[.slice ha hn hc, .slice pa pn pc] 30)) := by
  have hb : Below w.heap.size w ((w.alloc (.cells #[.slice ra rn rc, .slice ba bn bc, .slice oa on oc] 28)).alloc (.cells #[.slice ha hn hc, .slice pa pn pc] 30)) := ((Below.refl _ w).alloc (Nat.le_refl _) _).alloc (by simp) _
  have h1 := VRow.new w 28 [.slice ra rn rc, .slice ba bn bc, .slice oa on oc]
  have h2 := VRow.new (w.alloc (.cells #[.slice ra rn rc, .slice ba bn bc, .slice oa on oc] 28)) 30 [.slice ha hn hc, .slice pa pn pc]
  rw [show (w.alloc (.cells #[.slice ra rn rc, .slice ba bn bc, .slice oa on oc] 28)).heap.size = w.heap.size + 1 by simp] at h2
  exact ⟨h1.alloc _, h2, hm.below hb (Nat.le_refl _), ho.below hb (Nat.le_refl _), hb⟩

set_option maxRecDepth 100000 in
set_option maxHeartbeats 4000000 in
theorem forestsOnly_any (ra ba oa ha pa : Option Addr) (rn rc bn bc on oc hn hc pn pc : Nat) (m : Mkt) (o : Outc) (w : World) (hm : MktAt w ra ba oa rn rc bn bc on oc m) (ho : OutAt w ha pa hn hc pn pc o) :
    Calls Tryz.prog 13 #[.agg #[.slice ra rn rc, .slice ba bn bc, .slice oa on oc], .agg #[.slice ha hn hc, .slice pa pn pc]] w fun e w' => e = .returned (.bool true) ∧ Below w.heap.size w w' := by
  have HB0 := Lib.hid (MoAt.new w hm ho)
  have HE := Lib.hid (Even_any ra ba oa ha pa rn rc bn bc on oc hn hc pn pc m o _ HB0.out.mkt HB0.out.out)
  clear hm ho
  go_enter Tryz.func13, Tryz.ntmps13
  go_wp2_with fail
  refine HE.out.mono ?_
  cases hev : evenB m o with
  | false =>
    clear hev
    rintro e w1 ⟨rfl, hb⟩
    have HB1 := Lib.hid (HB0.out.step hb); clear hb
    go_wp2_with fail
    refine (lives16_any w1).mono ?_
    rintro e w2 ⟨rfl, hb⟩
    have HB2 := Lib.hid (HB1.out.step hb); clear hb
    go_wp2_with fail
    go_ret
    exact ⟨rfl, HB2.out.below⟩
  | true =>
    have hok := evenB_ok hev
    have HOK := Lib.hid hok; clear hok hev
    rintro e w1 ⟨rfl, hb⟩
    have hmo := HB0.out.step hb
    have p0 := hmo.v1.cell (k := 0) rfl
    have p1 := hmo.v1.cell (k := 1) rfl
    have p2 := hmo.v1.cell (k := 2) rfl
    have HOF := Lib.hid (Oof_yes ra ba oa rn rc bn bc on oc m w1 hmo.mkt HOK.out.fit.chk)
    have HB1 := Lib.hid hmo; clear hb hmo HE HB0
    go_wp2_with fail
    refine HOF.out.mono ?_
    rintro e w2 ⟨ha2, pa2, hcp, rfl, ho2, hb2⟩
    have hmo2 := HB1.out.step hb2
    have hal : Below w2.heap.size w2 (w2.alloc (.cells #[.slice ha2 bn hcp, .slice pa2 rn rn] 30)) := (Below.refl _ _).alloc (Nat.le_refl _) _
    have hmo3 := hmo2.step hal
    have hx3 : VRow (w2.alloc (.cells #[.slice ha2 bn hcp, .slice pa2 rn rn] 30)) w2.heap.size 30 [.slice ha2 bn hcp, .slice pa2 rn rn] := VRow.new w2 _ _
    have hxo := ho2.below hal (Nat.le_refl _)
    clear p0 p1 p2
    have p0 := hmo3.v1.cell (k := 0) rfl
    have p1 := hmo3.v1.cell (k := 1) rfl
    have p2 := hmo3.v1.cell (k := 2) rfl
    have q0 := hmo3.v2.cell (k := 0) rfl
    have q1 := hmo3.v2.cell (k := 1) rfl
    have HFO := Lib.hid (fof_any ra ba oa ha pa rn rc bn bc on oc hn hc pn pc m o _ hmo3.mkt hmo3.out (ofitsB_of HOK.out.fit))
    have H3 := Lib.hid (And.intro hmo3 (And.intro hx3 hxo)); clear hmo2 hmo3 hx3 hxo ho2 hb2 hal HOF HB1
    go_wp2_with fail
    refine HFO.out.mono ?_
    intro e w4 hf
    obtain ⟨hb4, (⟨hall, xa, xn, xc, rfl, _⟩ | ⟨hno, rfl⟩)⟩ := hf
    · have heq := low_allB HOK.out hall
      have hmo4 := H3.out.1.step hb4
      have hx4 := H3.out.2.1.step hb4
      have hxo4 := H3.out.2.2.below hb4 (Nat.le_refl _)
      have r1 := hx4.cell (k := 1) rfl
      have s1 := hmo4.v2.cell (k := 1) rfl
      have HSM := Lib.hid (same_any pa2 pa rn rn pn pc (leastM m) o.prices w4 hxo4.prices hmo4.out.prices)
      rw [decide_eq_true heq.symm] at HSM
      have H4 := Lib.hid hmo4; clear heq hmo4 hx4 hxo4 hb4 hall p0 p1 p2 q0 q1
      go_wp2_with fail
      refine HSM.out.mono ?_
      rintro e w5 ⟨rfl, hb5⟩
      have H5 := Lib.hid (H4.out.step hb5); clear hb5
      go_wp2_with fail
      refine (lives16_any w5).mono ?_
      rintro e w6 ⟨rfl, hb6⟩
      have H6 := Lib.hid (H5.out.step hb6); clear hb6
      go_wp2_with fail
      go_ret
      exact ⟨rfl, H6.out.below⟩
    · have hne : leastM m ≠ o.prices := fun e => by
        have := allB_low HOK.out e.symm
        rw [hno] at this; cases this
      have hmo4 := H3.out.1.step hb4
      have hx4 := H3.out.2.1.step hb4
      have hxo4 := H3.out.2.2.below hb4 (Nat.le_refl _)
      have r1 := hx4.cell (k := 1) rfl
      have s1 := hmo4.v2.cell (k := 1) rfl
      have HSM := Lib.hid (same_any pa2 pa rn rn pn pc (leastM m) o.prices w4 hxo4.prices hmo4.out.prices)
      rw [decide_eq_false hne] at HSM
      have H4 := Lib.hid hmo4; clear hne hmo4 hx4 hxo4 hb4 hno p0 p1 p2 q0 q1
      go_wp2_with fail
      refine HSM.out.mono ?_
      rintro e w5 ⟨rfl, hb5⟩
      have H5 := Lib.hid (H4.out.step hb5); clear hb5
      go_wp2_with fail
      refine (lives16_any w5).mono ?_
      rintro e w6 ⟨rfl, hb6⟩
      have H6 := Lib.hid (H5.out.step hb6); clear hb6
      go_wp2_with fail
      go_ret
      exact ⟨rfl, H6.out.below⟩
end Go.Proofs.YtbnjeegicbffeaaGreat

/- ForestsOnly: for every input the law returns true. -/
namespace Go.Proofs.YtbnjeegicbffeaaGreat
open Go.ChangeShapes Go.WideShapes Go.ChangeAt Go.RowKit Go.Joins

set_option maxRecDepth 100000 in
theorem forestsOnly_lifted (os : Os) (started : os.Started) (H : Type) (enc : TypeId × Value → H) :
    ReturnsInHanded {} Tryz.checked os 13 .any (Rows.forestsOnlySpec.pre6 enc Tryz.prog Tryz.f13 Rows.forestsOnlyRow.domain false) (Rows.forestsOnlySpec.post enc Tryz.prog Tryz.f13 false true false false) := by
  refine returnsInHanded_of_change_sized (C := Tryz.checked) Tryz.ownL started (by kernel_rfl) Tryz.func13
    (ChangeSpec.witness6 (enc := enc) (C := Tryz.checked) false ⟨#[], #[.agg #[.slice none 0 0, .slice none 0 0, .slice none 0 0], .agg #[.slice none 0 0, .slice none 0 0]], []⟩ 8 (by kernel_rfl) (by kernel_rfl) (by kernel_rfl) (by kernel_rfl)) ?_
  intro W base args ds gs before hval0 hW _ hsz0 _
  have hval : ∀ (j : Nat) t v, Tryz.f13.params[j]? = some t → args[j]? = some v → Value.okWide Tryz.prog W .any base t v := hval0
  have hsz : (DataW.weightsEach Tryz.prog (Tryz.f13.params.toList ++ []) (ds ++ gs)).all (· ≤ reachBytes) = true := hsz0
  have hW' := hW
  obtain ⟨p, q, hA0, hV, rfl, hfz, hnd⟩ := hW
  have hA : DataW.TrodAll enc Tryz.prog W 0 (fun _ => true) true Tryz.f13.params.toList args.toList ds p := hA0
  rw [Tryz.params13] at hA hval hsz
  obtain ⟨v0, v1, d0, d1, p0, p1, rfl, rfl, rfl, h0, h1⟩ := trodAll_two hA
  obtain ⟨rfl, rfl⟩ := trodVars_none hV
  have hs0 : Sized 28 d0 := fun n hn => by simpa using List.all_eq_true.1 hsz n (DataW.weights_mem_each (j := 0) rfl rfl n hn)
  obtain ⟨ra, ba, oa, rn, rc, bn, bc, on, oc, m, rfl, hm, hb1, hb2, hb3⟩ := market_read (hval 0 _ _ rfl rfl) h0 hs0
  have hs1 : Sized 30 d1 := fun n hn => by simpa using List.all_eq_true.1 hsz n (DataW.weights_mem_each (j := 1) rfl rfl n hn)
  obtain ⟨ha, pa, hn, hc, pn, pc, o, rfl, ho, ho1, ho2⟩ := outcome_read (hval 1 _ _ rfl rfl) h1 hs1
  refine (forestsOnly_any ra ba oa ha pa rn rc bn bc on oc hn hc pn pc m o W hm ho).mono ?_
  rintro e W' ⟨rfl, hB⟩
  exact ⟨_, rfl, law_post (f := Tryz.f13) hW' rfl (by kernel_rfl) (by decide) rfl hB⟩

theorem forestsOnly_joined : joinedFacts Tryz.checked.prog 13 Tryz.f13 Rows.forestsOnlySpec Rows.forestsOnlyRow = true :=
  joined_of (P := Tryz.checked.prog) (f := 13) (fn := Tryz.f13) (s := Rows.forestsOnlySpec) (c := Rows.forestsOnlyRow) (by kernel_rfl) (by as_aux_lemma => kernel_rfl) (by as_aux_lemma => kernel_rfl) (by as_aux_lemma => kernel_rfl) (by as_aux_lemma => kernel_rfl)
    prog_mayEnter (prog_lifts' rfl) (prog_make' rfl) (by kernel_rfl) (by kernel_rfl) (by kernel_rfl) (by kernel_rfl) (by kernel_rfl)

theorem forestsOnly_holds : Rows.ForestsOnlySaid :=
  OpenClaim.holds_of_wide 13 Tryz.f13 rfl rfl rfl rfl rfl rfl rfl ⟨rfl, rfl, rfl, rfl, rfl⟩ rfl rfl rfl rfl rfl (by kernel_rfl) Tryz.func13
    forestsOnly_joined
    (of_decide_eq_true (by kernel_rfl)) (by unfold Func.isWrapper; first | (rw [if_pos (by decide +kernel)]; kernel_rfl) | (rw [if_neg (by decide +kernel)]; exact ⟨rfl, rfl⟩))
    (fun os started H enc _ => forestsOnly_lifted os started H enc)
end Go.Proofs.YtbnjeegicbffeaaGreat
