/- Walks: markets.Check. -/
import Derived.Test.YtkddkkcfpnndlaaGreatDoorVq03
import Derived.Deep.QuietTactic
namespace Go.Proofs.YtkddkkcfpnndlaaGreatDoor
open Go.RowKit

/-- a market as plain data -/
structure Mkt where
  res : List Int
  bids : List (List Int)
  ord : List Int

/-- a bid that may not be -/
def badBid (items : Nat) (b : List Int) : Bool := !b.isEmpty && !vcheck b items
/-- may a market be? -/
def mcheck (m : Mkt) : Bool := vcheck m.res m.res.length && decide (1 ≤ m.bids.length) && decide (m.bids.length ≤ 8) && orderOk m.ord m.bids.length && !(m.bids.any (badBid m.res.length))

theorem enters66 : Enters 154 := fun args w => by
  simp [callFunc, Tryz.func154]
  kernel_rfl

set_option maxHeartbeats 400000 in
theorem badBid_any (a : Option Addr) (n c : Nat) (xs : List Int) (items B : Nat) (w : World) (h : Ints w a n c xs) (hB : w.cell? ⟨B, 0, none⟩ = some (.int .i64 items)) (hi : items ≤ 4611686018427387904) :
    Calls Tryz.prog 154 #[.slice a n c, .pointer (some ⟨B, 0, none⟩)] w fun e w' => e = .returned (.bool (badBid items xs)) ∧ Below w.heap.size w w' := by
  by_cases h0 : 0 < n
  · have hd : decide (0 < n) = true := by simp [h0]
    have hne : xs.isEmpty = false := by have := h.len; cases xs <;> simp_all
    have HN := Lib.hid hne; clear hne
    have H := Lib.hid h; clear h
    go_enter Tryz.func154, Tryz.ntmps154
    go_wp2_with fail
    refine (vcheck_any a n c xs items w H.out (by omega)).mono ?_
    rintro e w1 ⟨rfl, hb1⟩
    have HB1 := Lib.hid hb1; clear hb1
    go_wp2_with fail
    go_ret
    refine ⟨ret_bool ?_, HB1.out⟩
    rw [badBid, HN.out]; rfl
  · obtain rfl : n = 0 := by omega
    have hne : xs.isEmpty = true := by have := h.len; cases xs <;> simp_all
    have HN := Lib.hid hne; clear hne
    have H := Lib.hid h; clear h
    go_enter Tryz.func154, Tryz.ntmps154
    go_wp2_with fail
    go_ret
    refine ⟨ret_bool ?_, Below.refl _ _⟩
    rw [badBid, HN.out]; rfl

set_option maxHeartbeats 400000 in
theorem mcheck_any (ra ba oa : Option Addr) (rn rc bn bc on oc : Nat) (m : Mkt) (w : World) (hr : Ints w ra rn rc m.res) (hb : Rows w ba bn bc m.bids) (ho : Ints w oa on oc m.ord) :
    Calls Tryz.prog 100 #[.agg #[.slice ra rn rc, .slice ba bn bc, .slice oa on oc]] w fun e w' => e = .returned (.bool (mcheck m)) ∧ Below w.heap.size w w' := by
  have hl1 := hr.len
  have hl2 := hb.len
  have hbig1 := hr.big
  have hbig2 := hb.big
  have HR := Lib.hid hr; clear hr
  have HB := Lib.hid hb; clear hb
  have HO := Lib.hid ho; clear ho
  have HL1 := Lib.hid hl1; clear hl1
  have HL2 := Lib.hid hl2; clear hl2
  go_enter Tryz.func100, Tryz.ntmps100
  go_wp2_with fail
  go_region
  go_wp2_with fail
  have hW : Below w.heap.size w ((w.alloc (.cells #[.slice ra rn rc, .slice ba bn bc, .slice oa on oc] 57)).alloc (.cells #[.int .i64 (rn : Int)] 3)).drew := (((Below.refl _ _).alloc (Nat.le_refl _) _).alloc (by simp) _).drew
  refine (vcheck_any ra rn rc m.res rn _ (HR.out.below hW (Nat.le_refl _)) (by omega)).mono ?_
  rintro e w1 ⟨rfl, hb1⟩
  have hW1 := Lib.hid (hW.trans (hb1.mono hW.size))
  obtain ⟨hc1, _⟩ := bcell hb1
  have hz1 : w.heap.size + 1 < w1.heap.size := by have := hb1.size; simp at this; omega
  clear hW hb1
  cases hv1 : vcheck m.res rn with
  | false =>
    have HV1 := Lib.hid hv1; clear hv1
    go_wp2_with fail
    go_ret
    refine ⟨ret_bool ?_, hW1.out⟩
    rw [mcheck, HL1.out, HV1.out]; rfl
  | true =>
    have HV1 := Lib.hid hv1; clear hv1
    by_cases h1 : 1 ≤ bn
    · by_cases h8 : bn ≤ 8
      · go_wp2_with fail
        refine (ordered_any oa on oc m.ord bn w1 (HO.out.below hW1.out (Nat.le_refl _)) h8).mono ?_
        rintro e w2 ⟨rfl, hb2⟩
        have hW2 := Lib.hid (hW1.out.trans (hb2.mono hW1.out.size))
        have hz2 : w.heap.size + 1 < w2.heap.size := by have := hb2.size; omega
        have hcell : w2.cell? ⟨w.heap.size + 1, 0, none⟩ = some (.int .i64 rn) := by
          rw [hb2.cell (p := ⟨w.heap.size + 1, 0, none⟩) (by simp; omega), hc1 _ _ (by simp)]
          simp [go_sem]
        have hcell0 : w2.cell? ⟨w.heap.size, 1, none⟩ = some (.slice ba bn bc) := by
          rw [hb2.cell (p := ⟨w.heap.size, 1, none⟩) (by simp; omega), hc1 _ _ (by simp; omega)]
          simp [go_sem]
        clear hc1 hb2
        cases hv2 : orderOk m.ord bn with
        | false =>
          have HV2 := Lib.hid hv2; clear hv2
          go_wp2_with fail
          go_ret
          refine ⟨ret_bool ?_, hW2.out⟩
          rw [mcheck, HL2.out, HV2.out]; simp
        | true =>
          have HV2 := Lib.hid hv2; clear hv2
          have HC := Lib.hid hcell; clear hcell
          go_wp2_with fail
          refine (containsRows_any ba bn bc m.bids 154 (.pointer (some ⟨w.heap.size + 1, 0, none⟩)) (badBid rn) w2 (HB.out.below hW2.out (Nat.le_refl _)) enters66 ?_).mono ?_
          · intro w' a n c xs hb3 h3
            exact badBid_any a n c xs rn (w.heap.size + 1) w' h3 (by rw [hb3.cell (p := ⟨w.heap.size + 1, 0, none⟩) (by simp; omega)]; exact HC.out) (by omega)
          · rintro e w3 ⟨rfl, hb3⟩
            have hW3 := Lib.hid (hW2.out.trans (hb3.mono hW2.out.size))
            clear hb3
            go_wp2_with fail
            go_ret
            refine ⟨ret_bool ?_, hW3.out⟩
            rw [mcheck, HL1.out, HL2.out, HV1.out, HV2.out]; simp [h1, h8]
      · go_wp2_with fail
        go_ret
        refine ⟨ret_bool ?_, hW1.out⟩
        rw [mcheck, HL2.out]; simp [h8]
    · go_wp2_with fail
      go_ret
      refine ⟨ret_bool ?_, hW1.out⟩
      rw [mcheck, HL2.out]; simp [h1]
end Go.Proofs.YtkddkkcfpnndlaaGreatDoor
