/- Walks: the law ForestsThere. ForestsThere: for every input the law returns true. -/
import Derived.Test.YtbnjeegicbffeaaGreatG36
import Derived.Test.YtbnjeegicbffeaaGreatG35
import Derived.Test.YtbnjeegicbffeaaGreatG29
import Derived.Test.YtbnjeegicbffeaaGreatG30
/- Walks: the law ForestsThere. -/
namespace Go.Proofs.YtbnjeegicbffeaaGreat
open Go.RowKit Sale Tree

set_option maxRecDepth 100000 in
set_option maxHeartbeats 4000000 in
theorem forestsThere_any (ra ba oa : Option Addr) (rn rc bn bc on oc : Nat) (m : Mkt) (w : World) (hm : MktAt w ra ba oa rn rc bn bc on oc m) :
    Calls Tryz.prog 11 #[.agg #[.slice ra rn rc, .slice ba bn bc, .slice oa on oc]] w fun e w' => e = .returned (.bool true) ∧ Below w.heap.size w w' := by
  have hb0 : Below w.heap.size w (mw w ra ba oa rn rc bn bc on oc) := (Below.refl _ _).alloc (Nat.le_refl _) _
  have hv0 : VRow (mw w ra ba oa rn rc bn bc on oc) w.heap.size 28 [.slice ra rn rc, .slice ba bn bc, .slice oa on oc] := VRow.new w _ _
  have hm1 := hm.below hb0 (Nat.le_refl _)
  have hrl := hm.res.len
  have hbl := hm.bids.len
  by_cases hc : mcheck m = true
  · have HO := Lib.hid (Oof_yes ra ba oa rn rc bn bc on oc m _ hm1 hc)
    have hok := mcheck_ok hc
    have hn8 := hok.n8
    rw [hrl] at hn8
    have hev := hok.outEven hc
    have HF := Lib.hid (And.intro (ofitsB_of hev.fit) (allB_out hc))
    have HPL := Lib.hid (hev.fit.plen.trans hrl)
    have HV := Lib.hid (And.intro hv0 (And.intro hm1 hb0)); clear hv0 hm1 hb0 hm hok hev hc hrl hbl
    go_enter Tryz.func11, Tryz.ntmps11
    go_wp2_with fail
    refine HO.out.mono ?_
    rintro e w1 ⟨ha, pa, hcp, rfl, ho, hb1⟩
    have hmo := MoAt.box (HV.out.1.step hb1) (HV.out.2.1.below hb1 (Nat.le_refl _)) ho (HV.out.2.2.trans (hb1.mono HV.out.2.2.size))
    have c0 := hmo.v1.cell (k := 0) rfl
    have c1 := hmo.v1.cell (k := 1) rfl
    have c2 := hmo.v1.cell (k := 2) rfl
    have HFO := Lib.hid (fof_any ra ba oa ha pa rn rc bn bc on oc bn hcp rn rn m (outM m) _ hmo.mkt hmo.out HF.out.1)
    have HMO := Lib.hid hmo; clear hmo ho hb1 HO
    go_wp2_with fail
    refine HFO.out.mono ?_
    intro e w2 hf
    obtain ⟨hb, (⟨_, xa, xn, xc, rfl, hx⟩ | ⟨hno, _⟩)⟩ := hf
    case inr => rw [HF.out.2] at hno; cases hno
    have hxn : xn = rn := by rw [← hx.len, outL_length]; exact HPL.out
    subst hxn
    have hx : Whys w2 xa xn xc (foundL m (outM m)) := hx
    have HM2 := Lib.hid (HMO.out.step hb)
    have HX2 := Lib.hid hx
    have hbig := hx.big
    clear hb HMO hx c0 c1 c2
    have c0 := HM2.out.v1.cell (k := 0) rfl
    have c1 := HM2.out.v1.cell (k := 1) rfl
    have q0 := HM2.out.v2.cell (k := 0) rfl
    have q1 := HM2.out.v2.cell (k := 1) rfl
    go_wp2_with fail
    clear c0 c1 q0 q1
    go_loopg [7] xn (fun g' s7 wr => ∃ j : Nat, j + g' = xn ∧ s7 = .int .i64 j ∧ Below w2.heap.size w2 wr)
    case atStart => exact ⟨0, by omega, rfl, Below.refl _ _⟩
    case round =>
      obtain ⟨j, hj, rfl, hb⟩ := hrel
      have HJ := Lib.hid hj; clear hj
      by_cases hlt : j < xn
      · obtain ⟨p, hp, hp0, hpn, hpz, hpb, hpl, hph⟩ := found_at HF.out.1 HF.out.2 (j := j) (by rw [HPL.out]; exact hlt)
        have hmo := HM2.out.step hb
        obtain ⟨y, hy, _⟩ := hmo.out.prices.get hlt
        obtain ⟨z, hz, _⟩ := hmo.mkt.res.get hlt
        rw [getD_at hy, getD_at hz] at hpz
        rw [HPL.out] at hpn
        obtain ⟨xb, xo, rfl⟩ := HX2.out.addr (by omega)
        obtain ⟨pb, po, rfl⟩ := hmo.out.prices.addr (by omega)
        obtain ⟨rb, ro, rfl⟩ := hmo.mkt.res.addr (by omega)
        obtain ⟨cx0, cx1⟩ := (HX2.out.below hb (Nat.le_refl _)).cell xb xo rfl j p hp
        have cy := hmo.out.prices.cell pb po rfl j y hy
        have cz := hmo.mkt.res.cell rb ro rfl j z hz
        have c0 := hmo.v1.cell (k := 0) rfl
        have q1 := hmo.v2.cell (k := 1) rfl
        have i0 : (0 : Int) ≤ (j : Int) := by omega
        have i1 : (j : Int) < (xn : Int) := by omega
        have HB := Lib.hid hb; clear hb hp hy hz hmo
        obtain ⟨b, r⟩ := p
        simp only at hp0 hpn hpz hpb hpl hph cx0 cx1
        have e9 : decide ((xn : Int) < r) = false := by simp; omega
        have HPP := Lib.hid (And.intro hpz hpb); clear hpz hpb
        by_cases hr : r = 0
        · have e1 : (r == 0) = true := by simp [hr]
          have e2 : (y == z) = true := by simpa using HPP.out.1.1 hr
          have e3 : (b == -1) = true := by simpa using HPP.out.2.2 hr
          have hr' := Lib.hid hr; clear hr
          go_wp2_with fail
          go_quiet (fail)
          go_wp2_with fail
          go_roundg (gk - 1)
          case measure => have := HJ.out; omega
          case rel => exact ⟨j + 1, by have := HJ.out; omega, by go_num, below_drewN HB.out _⟩
        · have e1 : (r == 0) = false := by simpa using hr
          have e2 : (y == z) = false := by
            rw [Bool.eq_false_iff]; intro h; exact hr (HPP.out.1.2 (by simpa using h))
          have e3 : (b == -1) = false := by
            rw [Bool.eq_false_iff]; intro h; exact hr (HPP.out.2.1 (by simpa using h))
          have hr' := Lib.hid hr; clear hr
          go_wp2_with fail
          go_quiet (fail)
          go_wp2_with fail
          go_roundg (gk - 1)
          case measure => have := HJ.out; omega
          case rel => exact ⟨j + 1, by have := HJ.out; omega, by go_num, below_drewN HB.out _⟩
      · obtain rfl : j = xn := by have := HJ.out; omega
        have hmo := HM2.out.step hb
        have c0 := hmo.v1.cell (k := 0) rfl
        have c1 := hmo.v1.cell (k := 1) rfl
        have c2 := hmo.v1.cell (k := 2) rfl
        have q0 := hmo.v2.cell (k := 0) rfl
        have q1 := hmo.v2.cell (k := 1) rfl
        have HCK := Lib.hid (fcheck_any _ _ _ _ _ xa _ _ _ _ _ _ _ _ _ _ j xc m (outM m) (foundL m (outM m)) wr hmo.mkt hmo.out (HX2.out.below hb (Nat.le_refl _)))
        rw [found_check HF.out.1 HF.out.2] at HCK
        have HMO := Lib.hid hmo; clear hb hmo
        go_wp2_with fail
        refine HCK.out.mono ?_
        rintro e w3 ⟨rfl, hb3⟩
        have HM3 := Lib.hid (HMO.out.step hb3); clear hb3
        go_wp2_with fail
        refine (lives16_any w3).mono ?_
        rintro e w4 ⟨rfl, hb4⟩
        have HM4 := Lib.hid (HM3.out.step hb4); clear hb4
        go_wp2_with fail
        go_ret
        exact ⟨rfl, HM4.out.below⟩
  · have HO := Lib.hid (Oof_no ra ba oa rn rc bn bc on oc m _ hm1 (by simpa using hc))
    have HB0 := Lib.hid hb0; clear hb0 hv0 hm1 hm hc
    go_enter Tryz.func11, Tryz.ntmps11
    go_wp2_with fail
    refine HO.out.mono ?_
    rintro e w1 ⟨rfl, hb⟩
    have HB1 := Lib.hid (HB0.out.trans (hb.mono HB0.out.size)); clear hb HO
    go_wp2_with fail
    refine (lives16_any _).mono ?_
    rintro e w2 ⟨rfl, hb⟩
    have HB2 := Lib.hid ((HB1.out.alloc HB1.out.size _).trans (hb.mono (by have := HB1.out.size; simp; omega))); clear hb
    go_wp2_with fail
    go_ret
    exact ⟨rfl, HB2.out⟩
end Go.Proofs.YtbnjeegicbffeaaGreat

/- ForestsThere: for every input the law returns true. -/
namespace Go.Proofs.YtbnjeegicbffeaaGreat
open Go.ChangeShapes Go.WideShapes Go.ChangeAt Go.RowKit Go.Joins

set_option maxRecDepth 100000 in
theorem forestsThere_lifted (os : Os) (started : os.Started) (H : Type) (enc : TypeId × Value → H) :
    ReturnsInHanded {} Tryz.checked os 11 .any (Rows.forestsThereSpec.pre6 enc Tryz.prog Tryz.f11 Rows.forestsThereRow.domain false) (Rows.forestsThereSpec.post enc Tryz.prog Tryz.f11 false true false false) := by
  refine returnsInHanded_of_change_sized (C := Tryz.checked) Tryz.ownL started (by kernel_rfl) Tryz.func11
    (ChangeSpec.witness6 (enc := enc) (C := Tryz.checked) false ⟨#[], #[.agg #[.slice none 0 0, .slice none 0 0, .slice none 0 0]], []⟩ 8 (by kernel_rfl) (by kernel_rfl) (by kernel_rfl) (by kernel_rfl)) ?_
  intro W base args ds gs before hval0 hW _ hsz0 _
  have hval : ∀ (j : Nat) t v, Tryz.f11.params[j]? = some t → args[j]? = some v → Value.okWide Tryz.prog W .any base t v := hval0
  have hsz : (DataW.weightsEach Tryz.prog (Tryz.f11.params.toList ++ []) (ds ++ gs)).all (· ≤ reachBytes) = true := hsz0
  have hW' := hW
  obtain ⟨p, q, hA0, hV, rfl, hfz, hnd⟩ := hW
  have hA : DataW.TrodAll enc Tryz.prog W 0 (fun _ => true) true Tryz.f11.params.toList args.toList ds p := hA0
  rw [Tryz.params11] at hA hval hsz
  obtain ⟨v0, d0, rfl, rfl, h0⟩ := trodAll_one hA
  obtain ⟨rfl, rfl⟩ := trodVars_none hV
  have hs0 : Sized 28 d0 := fun n hn => by simpa using List.all_eq_true.1 hsz n (DataW.weights_mem_each (j := 0) rfl rfl n hn)
  obtain ⟨ra, ba, oa, rn, rc, bn, bc, on, oc, m, rfl, hm, hb1, hb2, hb3⟩ := market_read (hval 0 _ _ rfl rfl) h0 hs0
  refine (forestsThere_any ra ba oa rn rc bn bc on oc m W hm).mono ?_
  rintro e W' ⟨rfl, hB⟩
  exact ⟨_, rfl, law_post (f := Tryz.f11) hW' rfl (by kernel_rfl) (by decide) rfl hB⟩

theorem forestsThere_joined : joinedFacts Tryz.checked.prog 11 Tryz.f11 Rows.forestsThereSpec Rows.forestsThereRow = true :=
  joined_of (P := Tryz.checked.prog) (f := 11) (fn := Tryz.f11) (s := Rows.forestsThereSpec) (c := Rows.forestsThereRow) (by kernel_rfl) (by as_aux_lemma => kernel_rfl) (by as_aux_lemma => kernel_rfl) (by as_aux_lemma => kernel_rfl) (by as_aux_lemma => kernel_rfl)
    prog_mayEnter (prog_lifts' rfl) (prog_make' rfl) (by kernel_rfl) (by kernel_rfl) (by kernel_rfl) (by kernel_rfl) (by kernel_rfl)

theorem forestsThere_holds : Rows.ForestsThereSaid :=
  OpenClaim.holds_of_wide 11 Tryz.f11 rfl rfl rfl rfl rfl rfl rfl ⟨rfl, rfl, rfl, rfl, rfl⟩ rfl rfl rfl rfl rfl (by kernel_rfl) Tryz.func11
    forestsThere_joined
    (of_decide_eq_true (by kernel_rfl)) (by unfold Func.isWrapper; first | (rw [if_pos (by decide +kernel)]; kernel_rfl) | (rw [if_neg (by decide +kernel)]; exact ⟨rfl, rfl⟩))
    (fun os started H enc _ => forestsThere_lifted os started H enc)
end Go.Proofs.YtbnjeegicbffeaaGreat
