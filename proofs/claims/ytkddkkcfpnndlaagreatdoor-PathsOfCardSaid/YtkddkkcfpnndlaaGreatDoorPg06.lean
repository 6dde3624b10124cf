/- Walks: graphs.Fits; slices.Clone, Clip at ints. -/
import Derived.Test.YtkddkkcfpnndlaaGreatDoorPg03
import Derived.Test.YtkddkkcfpnndlaaGreatDoorPg05
namespace Go.Proofs.YtkddkkcfpnndlaaGreatDoor
open Go.RowKit

/-! ### Fits -/
/-- bidder i's item is none, or one that it may have, and that none ahead of it has -/
def okFit (g : List (List Int)) (has : List Int) (i : Nat) (h : Int) : Bool := decide (h = -1) || ((g[i]?.getD []).contains h && !(has.take i).contains h)
def fitTo (g : List (List Int)) (has : List Int) (k : Nat) : Bool := (List.range k).all fun i => okFit g has i ((has[i]?).getD (-1))
def fitsB (g : List (List Int)) (items : Int) (has : List Int) : Bool := gcheck g items && decide (has.length = g.length) && fitTo g has has.length

theorem fitTo_succ {g : List (List Int)} {has : List Int} {k : Nat} {h : Int} (hx : has[k]? = some h) : fitTo g has (k + 1) = (fitTo g has k && okFit g has k h) := by
  simp [fitTo, List.range_succ, hx]
theorem fitTo_no {g : List (List Int)} {has : List Int} {k n : Nat} {h : Int} (hx : has[k]? = some h) (hk : k < n) (ho : okFit g has k h = false) : fitTo g has n = false := by
  unfold fitTo
  rw [List.all_eq_false]
  exact ⟨k, List.mem_range.2 hk, by rw [hx, Option.getD_some, ho]; simp⟩

theorem risesFrom_bd {many : Int} : ∀ {l : List Int} {last : Int}, risesFrom many last l = true → ∀ x, x ∈ l → last < x ∧ x < many
  | [], _, _, _, hx => absurd hx List.not_mem_nil
  | n :: l, last, h, x, hx => by
    simp only [risesFrom, Bool.and_eq_true, decide_eq_true_eq] at h
    rcases List.mem_cons.1 hx with rfl | hx
    · exact h.1
    · have := risesFrom_bd h.2 x hx
      omega
theorem gcheck_parts {g : List (List Int)} {items : Int} (h : gcheck g items = true) : 0 ≤ items ∧ items ≤ 8 ∧ g.length ≤ 8 ∧ ∀ l, l ∈ g → risesFrom items (-1) l = true := by
  simp only [gcheck, Bool.and_eq_true, decide_eq_true_eq, Bool.not_eq_true', List.any_eq_false] at h
  obtain ⟨⟨⟨h1, h2⟩, h3⟩, h4⟩ := h
  exact ⟨h1, h2, h3, fun l hl => by have := h4 l hl; simpa using this⟩

theorem timesOf_none {l : List Int} {x : Int} (hx : x = -1) : timesOf (l ++ [x]) = timesOf l := by
  subst hx
  apply List.ext_getElem?
  intro j
  by_cases hj : j < 8
  · rw [timesOf_get _ hj, timesOf_get _ hj, List.count_append]
    have : ¬ ((-1 : Int) = (j : Int)) := by omega
    simp [this]
  · rw [List.getElem?_eq_none (by simp [timesOf]; omega), List.getElem?_eq_none (by simp [timesOf]; omega)]

set_option maxHeartbeats 1000000 in
theorem fits_any (ga ha : Option Addr) (gn gc hn hc : Nat) (g : List (List Int)) (items : Int) (has : List Int) (w : World) (hg : Rows w ga gn gc g) (hh : Ints w ha hn hc has) :
    Calls Tryz.prog 146 #[.slice ga gn gc, .int .i64 items, .slice ha hn hc] w fun e w' => e = .returned (.bool (fitsB g items has)) ∧ Below w.heap.size w w' := by
  have hl1 := hg.len
  have hl2 := hh.len
  have hb1 := hg.big
  have hb2 := hh.big
  have HG := Lib.hid hg; clear hg
  have HH := Lib.hid hh; clear hh
  have HL1 := Lib.hid hl1; clear hl1
  have HL2 := Lib.hid hl2; clear hl2
  cases hck : gcheck g items with
  | false =>
    have HC := Lib.hid hck; clear hck
    go_enter Tryz.func146, Tryz.ntmps146
    go_wp2_with fail
    refine (gcheck_any ga gn gc g items w HG.out).mono ?_
    rw [HC.out]
    rintro e w1 ⟨rfl, hb⟩
    have HB := Lib.hid hb; clear hb
    go_wp2_with fail
    go_ret
    exact ⟨ret_bool (by simp [fitsB, HC.out]), HB.out⟩
  | true =>
    obtain ⟨q1, q2, q3, q4⟩ := gcheck_parts hck
    have HC := Lib.hid hck; clear hck
    have HQ := Lib.hid q4; clear q4
    by_cases hlen : hn = gn
    · subst hlen
      have e1 : ((hn : Int) != (hn : Int)) = false := by simp
      have hn8 : hn ≤ 8 := by have := HL1.out; omega
      go_enter Tryz.func146, Tryz.ntmps146
      go_wp2_with fail
      refine (gcheck_any ga hn gc g items w HG.out).mono ?_
      rw [HC.out]
      rintro e w1 ⟨rfl, hb⟩
      have HB := Lib.hid hb; clear hb
      have hz1 := HB.out.size
      go_wp2_with fail
      go_loopg [23] hn (fun g' s23 wr => ∃ k : Nat, k + g' = hn ∧ s23 = .int .i64 k ∧ Row wr w1.heap.size 114 (timesOf (has.take k)) ∧ Below w.heap.size w wr ∧ fitTo g has k = true)
      case atStart => exact ⟨0, by omega, rfl, Row.new _ _ (timesOf []), HB.out.alloc HB.out.size _, rfl⟩
      case round =>
        obtain ⟨k, hk, rfl, hR, hB, hf⟩ := hrel
        have HF := Lib.hid hf; clear hf
        have HK := Lib.hid hk; clear hk
        by_cases hlt : k < hn
        · obtain ⟨h, hx, _⟩ := HH.out.get hlt
          obtain ⟨bh, oh, rfl⟩ := HH.out.addr (by omega)
          have hcx := (HH.out.below hB (Nat.le_refl _)).cell bh oh rfl k h hx
          have HB2 := Lib.hid hB; clear hB
          have HX := Lib.hid hx; clear hx
          by_cases hh1 : h = -1
          · have e2 : (h == -1) = true := by simp [hh1]
            have HH1 := Lib.hid hh1; clear hh1
            have HR := Lib.hid hR; clear hR
            go_wp2_with fail
            go_roundg (gk - 1)
            case measure => have := HK.out; omega
            case rel =>
              refine ⟨k + 1, by have := HK.out; omega, by go_num, ?_, HB2.out, by rw [fitTo_succ HX.out, HF.out, okFit]; simp [HH1.out]⟩
              rw [List.take_add_one, HX.out, Option.toList_some, timesOf_none HH1.out]
              exact HR.out
          · have e2 : (h == -1) = false := by simp [hh1]
            have HH1 := Lib.hid hh1; clear hh1
            obtain ⟨l, hl⟩ := HG.out.get (k := k) hlt
            obtain ⟨bg, og, rfl⟩ := HG.out.addr (by omega)
            obtain ⟨la, ln, lc, hcl, hli⟩ := (HG.out.below HB2.out (Nat.le_refl _)).cell bg og rfl k l hl
            have HLI := Lib.hid hli; clear hli
            have HL := Lib.hid hl; clear hl
            cases hct : l.contains h with
            | false =>
              have HCT := Lib.hid hct; clear hct
              have HR := Lib.hid hR; clear hR
              go_wp2_with fail
              refine (contains_any la ln lc l h wr HLI.out).mono ?_
              rw [HCT.out]
              rintro e w2 ⟨rfl, rfl⟩
              go_wp2_with fail
              go_ret
              refine ⟨ret_bool ?_, HB2.out⟩
              have := fitTo_no (g := g) (n := has.length) HX.out (by rw [HL2.out]; exact hlt) (by simp only [okFit, HL.out, Option.getD_some, HCT.out, HH1.out]; simp)
              simp [fitsB, this]
            | true =>
              have hbd := risesFrom_bd (HQ.out l (List.mem_of_getElem? HL.out)) h (by simpa using hct)
              obtain ⟨y, rfl⟩ := Int.eq_ofNat_of_zero_le (show 0 ≤ h by omega)
              have hy8 : y < 8 := by omega
              clear hbd
              have HCT := Lib.hid hct; clear hct
              have hc2 := hR.cell (timesOf_get (has.take k) hy8)
              have hcl2 : (has.take k).count (y : Int) ≤ k := Nat.le_trans List.count_le_length (by simp; omega)
              have e3 : IntKind.i64.wrap (((has.take k).count (y : Int) : Int) + 1) = ((has.take k).count (y : Int) : Int) + 1 := IntWalk.i64_in _ (by omega)
              obtain ⟨cc, hcc⟩ : ∃ cc, cc = (has.take k).count (y : Int) := ⟨_, rfl⟩
              rw [← hcc] at hc2 hcl2 e3
              have HCC := Lib.hid hcc; clear hcc
              have hfz := hR.frozen y
              have hset := hR.set y ((cc : Int) + 1)
              have hc3 := hset.cell (k := y) (x := (cc : Int) + 1) (by rw [List.getElem?_set_self (by simp [timesOf]; exact hy8)])
              have HSET := Lib.hid hset; clear hset
              have HR := Lib.hid hR; clear hR
              have i1 : (y : Int) < 8 := by omega
              by_cases hc0 : 0 < cc
              · have i2 : decide (1 < (cc : Int) + 1) = true := by simp; omega
                go_wp2_with fail
                refine (contains_any la ln lc l y wr HLI.out).mono ?_
                rw [HCT.out]
                rintro e w2 ⟨rfl, rfl⟩
                go_wp2_with fail
                go_ret
                refine ⟨ret_bool ?_, HB2.out.setCell (by simp; omega) _⟩
                have hmem : (y : Int) ∈ has.take k := List.count_pos_iff.1 (by rw [← HCC.out]; exact hc0)
                have := fitTo_no (g := g) (n := has.length) HX.out (by rw [HL2.out]; exact hlt) (by simp only [okFit]; simp [hmem])
                simp [fitsB, this]
              · have i2 : decide (1 < (cc : Int) + 1) = false := by simp; omega
                go_wp2_with fail
                refine (contains_any la ln lc l y wr HLI.out).mono ?_
                rw [HCT.out]
                rintro e w2 ⟨rfl, rfl⟩
                go_wp2_with fail
                go_roundg (gk - 1)
                case measure => have := HK.out; omega
                case rel =>
                  refine ⟨k + 1, by have := HK.out; omega, by go_num, ?_, HB2.out.setCell (by simp; omega) _, ?_⟩
                  · have := HSET.out
                    rw [HCC.out, timesOf_set _ _ hy8 rfl] at this
                    rw [HCC.out, List.take_add_one, HX.out]; exact this
                  · have hnm : (y : Int) ∉ has.take k := fun hm => hc0 (by rw [HCC.out]; exact List.count_pos_iff.2 hm)
                    rw [fitTo_succ HX.out, HF.out]
                    simp only [okFit, HL.out, Option.getD_some, HCT.out]
                    simp [hnm]
        · obtain rfl : k = hn := by have := HK.out; omega
          have HR := Lib.hid hR; clear hR
          have HB2 := Lib.hid hB; clear hB
          go_wp2_with fail
          go_ret
          refine ⟨ret_bool ?_, HB2.out⟩
          simp [fitsB, HC.out, HL1.out, HL2.out, HF.out]
    · have e1 : ((hn : Int) != (gn : Int)) = true := by simp; omega
      have HNE := Lib.hid hlen; clear hlen
      go_enter Tryz.func146, Tryz.ntmps146
      go_wp2_with fail
      refine (gcheck_any ga gn gc g items w HG.out).mono ?_
      rw [HC.out]
      rintro e w1 ⟨rfl, hb⟩
      have HB := Lib.hid hb; clear hb
      go_wp2_with fail
      go_ret
      refine ⟨ret_bool ?_, HB.out⟩
      simp [fitsB, HL1.out, HL2.out, HNE.out]
end Go.Proofs.YtkddkkcfpnndlaaGreatDoor
