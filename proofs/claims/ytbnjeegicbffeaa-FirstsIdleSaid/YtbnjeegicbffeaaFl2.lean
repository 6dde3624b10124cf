/- Walks: what a matching gains. -/
import Derived.Test.YtbnjeegicbffeaaFl1
import Derived.BigRegion
namespace Go.Proofs.Ytbnjeegicbffeaa
open Go.RowKit Sale

def okHas (gains : List (List Int)) (has : List Int) (i : Nat) (h : Int) : Bool :=
  h == -1 || (decide (0 ≤ h) && decide (h < ((gains[i]?.getD []).length : Int)) && decide (0 ≤ gi gains i h.toNat) && !((has.take i).contains h))
def isM (gains : List (List Int)) (has : List Int) (k : Nat) : Bool := (List.range k).all fun i => okHas gains has i (has[i]?.getD (-1))
def addHas (gains : List (List Int)) (i : Nat) (h : Int) : Int := if h = -1 then 0 else gi gains i h.toNat
def sumTo (f : Nat → Int) : Nat → Int
  | 0 => 0
  | k + 1 => sumTo f k + f k
def mSum (gains : List (List Int)) (has : List Int) (k : Nat) : Int := sumTo (fun i => addHas gains i (has[i]?.getD (-1))) k
theorem isM_succ {gains : List (List Int)} {has : List Int} {k : Nat} {h : Int} (e : has[k]? = some h) : isM gains has (k + 1) = (isM gains has k && okHas gains has k h) := by
  unfold isM; rw [List.range_succ, List.all_append]; simp [e]
theorem isM_mono {gains : List (List Int)} {has : List Int} {k : Nat} : ∀ {n : Nat}, k ≤ n → isM gains has k = false → isM gains has n = false := by
  intro n hkn h
  unfold isM at h ⊢
  rw [Bool.eq_false_iff, ne_eq, List.all_eq_true] at h ⊢
  intro h2
  exact h fun i hi => h2 i (List.mem_range.2 (by have := List.mem_range.1 hi; omega))
theorem mSum_succ {gains : List (List Int)} {has : List Int} {k : Nat} {h : Int} (e : has[k]? = some h) : mSum gains has (k + 1) = mSum gains has k + addHas gains k h := by simp [mSum, sumTo, e]
theorem gi_bd {gains : List (List Int)} (hb : ∀ l, l ∈ gains → ∀ x, x ∈ l → -1000000 ≤ x ∧ x ≤ 1000000) (i k : Nat) : -1000000 ≤ gi gains i k ∧ gi gains i k ≤ 1000000 := by
  unfold gi
  cases h : gains[i]? with
  | none => simp
  | some l =>
    simp only [Option.getD_some]
    cases hx : l[k]? with
    | none => simp
    | some x => exact hb l (List.mem_of_getElem? h) x (List.mem_of_getElem? hx)
theorem mSum_bd {gains : List (List Int)} {has : List Int} (hb : ∀ l, l ∈ gains → ∀ x, x ∈ l → -1000000 ≤ x ∧ x ≤ 1000000) : ∀ k : Nat, -1000000 * (k : Int) ≤ mSum gains has k ∧ mSum gains has k ≤ 1000000 * (k : Int)
  | 0 => by simp [mSum, sumTo]
  | k + 1 => by
    have h1 := mSum_bd (has := has) hb k
    have h2 := gi_bd hb k (has[k]?.getD (-1)).toNat
    have h3 : mSum gains has (k + 1) = mSum gains has k + addHas gains k (has[k]?.getD (-1)) := rfl
    have h4 : -1000000 ≤ addHas gains k (has[k]?.getD (-1)) ∧ addHas gains k (has[k]?.getD (-1)) ≤ 1000000 := by unfold addHas; split <;> omega
    rw [h3]; omega

/-- what the function says of a list: what it gains, if it is a matching -/
def gainsOf (gains : List (List Int)) (has : List Int) : Int × Bool := if isM gains has gains.length = true then (mSum gains has gains.length, true) else (0, false)

set_option maxRecDepth 100000 in
set_option maxHeartbeats 1000000 in
theorem gains_any (ga ha : Option Addr) (gn gc hn hc : Nat) (gains : List (List Int)) (items : Int) (has : List Int) (w : World) (hg : Rows w ga gn gc gains) (hh : Ints w ha hn hc has) (hl : hn = gn)
    (h8 : gains.length ≤ 8) (hb : ∀ l, l ∈ gains → ∀ x, x ∈ l → -1000000 ≤ x ∧ x ≤ 1000000) :
    Calls Try.prog 26 #[.agg #[.slice ga gn gc, .int .i64 items], .slice ha hn hc] w fun e w' => e = .returned (.tuple #[.int .i64 (gainsOf gains has).1, .bool (gainsOf gains has).2]) ∧ Below w.heap.size w w' := by
  have H1 := Lib.hid hg
  have H2 := Lib.hid hh; clear hh
  subst hl
  obtain rfl : gains.length = hn := hg.len
  clear hg
  have HBD := Lib.hid hb; clear hb
  go_enter Try.func26, Try.ntmps26
  go_wp2_with fail
  have HW := Lib.hid (((Below.refl w.heap.size w).alloc (Nat.le_refl _) (.cells #[.slice ga gains.length gc, .int .i64 items] 37)))
  have HC := Lib.hid (Nat.le_refl w.heap.size)
  go_loopg [6, 7, 8] gains.length (fun g s6 s7 s8 wr => ∃ k : Nat, k + g = gains.length ∧ s6 = .int .i64 (mSum gains has k) ∧ s7 = .int .i64 k ∧ Below w.heap.size w wr ∧ isM gains has k = true ∧
    wr.cell? ⟨w.heap.size, 0, none⟩ = some (.slice ga gains.length gc) ∧ w.heap.size < wr.heap.size)
  case atStart => exact ⟨0, by omega, rfl, rfl, HW.out, rfl, by simp [go_sem], by simp⟩
  case round =>
    obtain ⟨k, hk, rfl, rfl, hB, hM, hcg, hsz⟩ := hrel
    have HM := Lib.hid hM; clear hM
    by_cases hlt : k < gains.length
    · obtain ⟨h, hh, hh1, hh2⟩ := H2.out.get hlt
      obtain ⟨bh, oh, rfl⟩ := H2.out.addr (by omega)
      have hch := (H2.out.below hB (Nat.le_refl _)).cell bh oh rfl k h hh
      obtain ⟨xs, hxs⟩ := H1.out.get hlt
      obtain ⟨bg, og, rfl⟩ := H1.out.addr (by omega)
      obtain ⟨la, ln, lc, hcl, hli⟩ := H1.out.row hB (Nat.le_refl _) rfl hxs
      have hlb := hli.big
      have HK := Lib.hid hk; clear hk
      have HH := Lib.hid hh; clear hh
      have HXS := Lib.hid hxs; clear hxs
      have hsum := mSum_bd (has := has) HBD.out k
      by_cases hn1 : h = -1
      · subst hn1
        have HB := Lib.hid hB; clear hB
        have HCG := Lib.hid hcg; clear hcg
        have HLI := Lib.hid hli; clear hli
        go_wp2_with fail
        go_roundg (gk - 1)
        case measure => have := HK.out; omega
        case rel => exact ⟨k + 1, by have := HK.out; omega, by rw [mSum_succ HH.out]; simp [addHas], by go_num, HB.out, by rw [isM_succ HH.out, HM.out]; simp [okHas], HCG.out, hsz⟩
      · have e1 : (h == -1) = false := by simp [hn1]
        have HN1 := Lib.hid hn1; clear hn1
        by_cases hneg : h < 0
        · go_wp2_with fail
          go_quiet (fail)
          go_wp2_with fail
          go_ret2
          refine ⟨?_, below_drewN hB _⟩
          have : okHas gains has k h = false := by
            have := HN1.out
            simp [okHas, this]; intro; omega
          simp [gainsOf, isM_mono (n := gains.length) (k := k + 1) (by omega) (by rw [isM_succ HH.out, this]; simp)]
        · obtain ⟨j, rfl⟩ := Int.eq_ofNat_of_zero_le (by omega : 0 ≤ h)
          clear hneg
          by_cases hj : j < ln
          · obtain ⟨v, hv, hv1, hv2⟩ := hli.get hj
            obtain ⟨bl, ol, rfl⟩ := hli.addr (by omega)
            have hcv := (hli.below hB (Nat.le_refl _)).cell bl ol rfl j v hv
            have HGI := Lib.hid (gi_at HXS.out hv)
            have HLI := Lib.hid hli; clear hli
            have HV := Lib.hid hv; clear hv
            have i1 : (j : Int) < (ln : Int) := by omega
            have i2 : (k : Int) < (gains.length : Int) := by omega
            have i3 : ¬ ((j : Int) < 0) := by omega
            have i4 : ¬ ((ln : Int) ≤ (j : Int)) := by omega
            by_cases hv0 : v < 0
            · go_wp2_with fail
              go_quiet (fail)
              go_wp2_with fail
              go_ret2
              refine ⟨?_, below_drewN hB _⟩
              have : okHas gains has k (j : Int) = false := by simp [okHas, HGI.out]; omega
              simp [gainsOf, isM_mono (n := gains.length) (k := k + 1) (by omega) (by rw [isM_succ HH.out, this]; simp)]
            · go_wp2_with fail
              go_quiet (fail)
              go_wp2_with fail
              obtain ⟨w1, rfl⟩ : ∃ w1 : World, w1 = wr := ⟨_, rfl⟩
              obtain ⟨g1, rfl⟩ : ∃ g1 : Nat, g1 = gk := ⟨_, rfl⟩
              have hB2 := below_drewN hB nq
              have hcg2 := hcg
              have HCV := Lib.hid hcv; clear hcv
              have HCL := Lib.hid hcl; clear hcl
              have HCH := Lib.hid hch; clear hch
              have HCG := Lib.hid hcg; clear hcg
              have HB := Lib.hid hB; clear hB
              go_loopg [8] k (fun g s8 w2 => ∃ k2 : Nat, k2 + g = k ∧ s8 = .int .i64 k2 ∧ Below w.heap.size w w2 ∧ (j : Int) ∉ has.take k2 ∧ w2.heap = w1.heap)
              case atStart => exact ⟨0, by omega, rfl, hB2, by simp, rfl⟩
              case round =>
                obtain ⟨k2, hk2, rfl, hB3, hnot, hheap⟩ := hrel
                obtain ⟨w3, rfl⟩ : ∃ w3 : World, w3 = wr := ⟨_, rfl⟩
                have HNOT := Lib.hid hnot; clear hnot
                by_cases hlt2 : k2 < k
                · obtain ⟨h', hh', hh1', hh2'⟩ := H2.out.get (k := k2) (by omega)
                  have hch1 := (H2.out.below hB3 (Nat.le_refl _)).cell bh oh rfl k2 h' hh'
                  have hch2 := (H2.out.below hB3 (Nat.le_refl _)).cell bh oh rfl k _ HH.out
                  have HB3 := Lib.hid hB3; clear hB3
                  have HK2 := Lib.hid hk2; clear hk2
                  have HH2 := Lib.hid hh'; clear hh'
                  have HHP := Lib.hid hheap; clear hheap
                  by_cases heq : h' = (j : Int)
                  · subst heq
                    go_wp2_with fail
                    go_quiet (fail)
                    go_wp2_with fail
                    go_ret2
                    refine ⟨?_, below_drewN HB3.out _⟩
                    have : okHas gains has k (j : Int) = false := by
                      have : (j : Int) ∈ has.take k := List.mem_iff_getElem?.2 ⟨k2, by rw [List.getElem?_take_of_lt hlt2, HH2.out]⟩
                      simp [okHas, this]
                    simp [gainsOf, isM_mono (n := gains.length) (k := k + 1) (by omega) (by rw [isM_succ HH.out, this]; simp)]
                  · have e2 : (h' == (j : Int)) = false := by simp [heq]
                    have HEQ := Lib.hid heq; clear heq
                    go_wp2_with fail
                    go_quiet (fail)
                    go_wp2_with fail
                    go_roundg (gk - 1)
                    case measure => have := HK2.out; omega
                    case rel => exact ⟨k2 + 1, by have := HK2.out; omega, by go_num, below_drewN HB3.out _, by rw [List.take_add_one, HH2.out]; simp [HNOT.out, Ne.symm HEQ.out], HHP.out⟩
                · obtain rfl : k2 = k := by omega
                  have hcell : ∀ a, w3.cell? a = w1.cell? a := fun a => by simp only [World.cell?, hheap]
                  have hc1 := (hcell ⟨bh, oh + k2, none⟩).trans HCH.out
                  have hc2 := (hcell ⟨bl, ol + j, none⟩).trans HCV.out
                  have hc3 := (hcell ⟨bg, og + k2, none⟩).trans HCL.out
                  have hc4 := (hcell ⟨w.heap.size, 0, none⟩).trans HCG.out
                  have hs3 : w.heap.size < w3.heap.size := by rw [hheap]; exact hsz
                  have hvb := gi_bd HBD.out k2 j
                  rw [HGI.out] at hvb
                  obtain ⟨hvb1, hvb2⟩ := hvb
                  have HB3 := Lib.hid hB3; clear hB3
                  have HHP := Lib.hid hheap; clear hheap hcell
                  go_wp2_with fail
                  go_quiet (fail)
                  go_wp2_with fail
                  go_roundg (g1 - 1)
                  case measure => have := HK.out; omega
                  case rel => exact ⟨k2 + 1, by have := HK.out; omega, by rw [mSum_succ HH.out]; simp [addHas, HGI.out, show ((j : Int) = -1) = False by simp], by go_num, below_drewN HB3.out _, by rw [isM_succ HH.out, HM.out]; simp [okHas, HXS.out, HGI.out, HNOT.out, HLI.out.len]; omega, by simp only [World.cell?_drewN]; exact hc4, by simp; exact hs3⟩
          · have HLI := Lib.hid hli; clear hli
            go_wp2_with fail
            go_quiet (fail)
            go_wp2_with fail
            go_ret2
            refine ⟨?_, below_drewN hB _⟩
            have : okHas gains has k (j : Int) = false := by have := HLI.out.len; simp [okHas, HXS.out]; omega
            simp [gainsOf, isM_mono (n := gains.length) (k := k + 1) (by omega) (by rw [isM_succ HH.out, this]; simp)]
    · obtain rfl : k = gains.length := by omega
      go_wp2_with fail
      go_ret2
      refine ⟨?_, hB⟩
      simp [gainsOf, HM.out]
end Go.Proofs.Ytbnjeegicbffeaa
