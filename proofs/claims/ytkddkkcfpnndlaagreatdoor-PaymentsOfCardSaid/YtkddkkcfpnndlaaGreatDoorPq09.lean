/- Walks: the reference's weights: may gains be? the most that can be gained. -/
import Derived.Test.YtkddkkcfpnndlaaGreatDoorPq06
import Derived.Test.YtkddkkcfpnndlaaGreatDoorPq08
import Derived.BigRegion
namespace Go.Proofs.YtkddkkcfpnndlaaGreatDoor
open Go.RowKit Sale

theorem cell_st {w w' : World} {b o : Nat} {v : Value} (hb : Below w.heap.size w w') (h : w.cell? ⟨b, o, none⟩ = some v) : w'.cell? ⟨b, o, none⟩ = some v := by
  rw [hb.cell (p := ⟨b, o, none⟩) (block_lt_of_cell h)]; exact h
theorem wcheck_is {gains : List (List Int)} {items : Int} : wcheck gains items = true ↔ 1 ≤ items ∧ items ≤ 8 ∧ gains.length ≤ 8 ∧ ∀ l, l ∈ gains → (l.length : Int) = items ∧ ∀ x, x ∈ l → -1000000 ≤ x ∧ x ≤ 1000000 := by
  constructor
  · intro h
    obtain ⟨h1, h2, h3, h4, h5⟩ := wcheck_parts h
    exact ⟨h1, h2, h3, fun l hl => ⟨h4 l hl, h5 l hl⟩⟩
  · intro ⟨h1, h2, h3, h4⟩
    simp only [wcheck, Bool.and_eq_true, decide_eq_true_eq, Bool.not_eq_true', List.any_eq_false, badGains, badGain, Bool.or_eq_true, decide_eq_false_iff_not, List.any_eq_true, not_or]
    refine ⟨⟨⟨h1, h2⟩, h3⟩, fun l hl => ?_⟩
    obtain ⟨a, b⟩ := h4 l hl
    refine ⟨by simp [a], ?_⟩
    rintro ⟨x, hx, hy⟩
    have := b x hx
    omega
theorem wcheck_not {gains : List (List Int)} {items : Int} (h : ¬ (1 ≤ items ∧ items ≤ 8 ∧ gains.length ≤ 8 ∧ ∀ l, l ∈ gains → (l.length : Int) = items ∧ ∀ x, x ∈ l → -1000000 ≤ x ∧ x ≤ 1000000)) : wcheck gains items = false := by
  cases hc : wcheck gains items with
  | false => rfl
  | true => exact absurd (wcheck_is.1 hc) h

set_option maxHeartbeats 2000000 in
theorem check10_any (a : Option Addr) (n c : Nat) (gains : List (List Int)) (items : Int) (w : World) (h : Rows w a n c gains) (hn : n ≤ 17592186044416) :
    Calls Tryz.prog 60 #[.slice a n c, .int .i64 items] w fun e w' => e = .returned (.bool (wcheck gains items)) ∧ Below w.heap.size w w' := by
  have hl := h.len
  have HH := Lib.hid h; clear h
  obtain ⟨mv, hmv⟩ : ∃ mv, wcheck gains items = mv := ⟨_, rfl⟩
  rw [hmv]
  have hmi := @wcheck_is gains items
  have hmn := @wcheck_not gains items
  rw [hmv, hl] at hmi hmn
  have HMI := Lib.hid hmi; clear hmi
  have HMN := Lib.hid hmn; clear hmn hmv
  have HL := Lib.hid hl; clear hl
  by_cases g1 : items < 1
  · have hv : mv = false := HMN.out (by omega)
    subst hv
    have f1 : decide (items < 1) = true := by simpa using g1
    go_enter Tryz.func60, Tryz.ntmps60
    go_wp2_with fail
    go_ret
    exact ⟨rfl, Below.refl _ _⟩
  have f1 : decide (items < 1) = false := by simpa using g1
  by_cases g2 : 8 < items
  · have hv : mv = false := HMN.out (by omega)
    subst hv
    have f2 : decide (8 < items) = true := by simpa using g2
    go_enter Tryz.func60, Tryz.ntmps60
    go_wp2_with fail
    go_ret
    exact ⟨rfl, Below.refl _ _⟩
  have f2 : decide (8 < items) = false := by simpa using g2
  by_cases g3 : 8 < n
  · have hv : mv = false := HMN.out (by omega)
    subst hv
    have f3 : decide (8 < (n : Int)) = true := by simp; omega
    go_enter Tryz.func60, Tryz.ntmps60
    go_wp2_with fail
    go_ret
    exact ⟨rfl, Below.refl _ _⟩
  have f3 : decide (8 < (n : Int)) = false := by simp; omega
  obtain ⟨N, rfl⟩ := Int.eq_ofNat_of_zero_le (show 0 ≤ items by omega)
  have hN1 : 1 ≤ N := by omega
  have hN8 : N ≤ 8 := by omega
  go_enter Tryz.func60, Tryz.ntmps60
  go_wp2_with fail
  clear f1 f2 f3 g1 g2
  go_loopg [5, 6] n (fun g s5 s6 wr => ∃ k : Nat, k + g = n ∧ s5 = .int .i64 k ∧ (∀ l, l ∈ gains.take k → (l.length : Int) = N ∧ ∀ x, x ∈ l → -1000000 ≤ x ∧ x ≤ 1000000) ∧ w = wr)
  case atStart => exact ⟨0, by omega, rfl, fun x h => by simp at h, rfl⟩
  case round =>
    obtain ⟨k, hk, rfl, ht, rfl⟩ := hrel
    have HK := Lib.hid hk; clear hk
    have HT := Lib.hid ht; clear ht
    by_cases hlt : k < n
    · obtain ⟨l, hl⟩ := HH.out.get hlt
      obtain ⟨b, o, rfl⟩ := HH.out.addr (by omega)
      obtain ⟨la, ln, lc, hcl, hli⟩ := HH.out.cell b o rfl k l hl
      have hlm : l ∈ gains := List.mem_of_getElem? hl
      have hll := hli.len
      have i1 : (k : Int) < (n : Int) := by omega
      have HLI := Lib.hid hli; clear hli
      have HLM := Lib.hid (And.intro hl hlm); clear hl hlm
      obtain ⟨gO, hgO⟩ : ∃ n, n = gk - 1 := ⟨_, rfl⟩
      have HGO := Lib.hid hgO; clear hgO
      by_cases hq : ln = N
      case neg =>
        have hv : mv = false := HMN.out (fun h => by have := (h.2.2.2 l HLM.out.2).1; omega)
        subst hv
        have f4 : ((ln : Int) != (N : Int)) = true := by simp; omega
        have f5 : (ln != N) = true := by simp; omega
        clear hq hll
        go_wp2_with fail
        go_ret
        exact ⟨rfl, Below.refl _ _⟩
      subst hq
      have HLL := Lib.hid hll; clear hll
      go_wp2_with fail
      go_loopg [6] ln (fun g s6 wr => ∃ j : Nat, j + g = ln ∧ s6 = .int .i64 j ∧ (∀ x, x ∈ l.take j → -1000000 ≤ x ∧ x ≤ 1000000) ∧ w = wr)
      case atStart => exact ⟨0, by omega, rfl, fun x h => by simp at h, rfl⟩
      case round =>
        obtain ⟨j, hj, rfl, ht2, rfl⟩ := hrel
        have HJ := Lib.hid hj; clear hj
        have HT2 := Lib.hid ht2; clear ht2
        by_cases hjl : j < ln
        · obtain ⟨x, hx, _⟩ := HLI.out.get hjl
          obtain ⟨lb, lo, rfl⟩ := HLI.out.addr (by omega)
          have hc := HLI.out.cell lb lo rfl j x hx
          have i2 : (j : Int) < (ln : Int) := by omega
          have hxm : x ∈ l := List.mem_of_getElem? hx
          have HXM := Lib.hid (And.intro hx hxm); clear hx hxm
          by_cases hx1 : x < -1000000
          · have hv : mv = false := HMN.out (fun h => by have := (h.2.2.2 l HLM.out.2).2 x HXM.out.2; omega)
            subst hv
            have e1 : decide (x < -1000000) = true := by simpa using hx1
            clear hx1
            go_wp2_with fail
            go_ret
            exact ⟨rfl, Below.refl _ _⟩
          have e1 : decide (x < -1000000) = false := by simpa using hx1
          by_cases hx2 : 1000000 < x
          · have hv : mv = false := HMN.out (fun h => by have := (h.2.2.2 l HLM.out.2).2 x HXM.out.2; omega)
            subst hv
            have e2 : decide (1000000 < x) = true := by simpa using hx2
            clear hx2
            go_wp2_with fail
            go_ret
            exact ⟨rfl, Below.refl _ _⟩
          have e2 : decide (1000000 < x) = false := by simpa using hx2
          go_wp2_with fail
          go_roundg (gk - 1)
          case measure => have := HJ.out; omega
          case rel =>
            refine ⟨j + 1, by have := HJ.out; omega, by go_num, fun y hy => ?_, rfl⟩
            rw [List.take_add_one, HXM.out.1] at hy
            simp only [Option.toList_some, List.mem_append, List.mem_singleton] at hy
            rcases hy with hy | rfl
            · exact HT2.out y hy
            · omega
        · obtain rfl : j = ln := by have := HJ.out; omega
          go_wp2_with fail
          go_roundg gO
          case measure => have := HK.out; have := HGO.out; omega
          case rel =>
            refine ⟨k + 1, by have := HK.out; have := HGO.out; omega, by go_num, fun y hy => ?_, rfl⟩
            rw [List.take_add_one, HLM.out.1] at hy
            simp only [Option.toList_some, List.mem_append, List.mem_singleton] at hy
            rcases hy with hy | rfl
            · exact HT.out y hy
            · have := HLL.out
              exact ⟨by omega, fun x hx => HT2.out x (by rw [List.take_of_length_le (by omega)]; exact hx)⟩
    · obtain rfl : k = n := by have := HK.out; omega
      have hv : mv = true := HMI.out.2 ⟨by omega, by omega, by omega, fun l hl => HT.out l (by have := HL.out; rw [List.take_of_length_le (by omega)]; exact hl)⟩
      subst hv
      go_wp2_with fail
      go_ret
      exact ⟨rfl, Below.refl _ _⟩
end Go.Proofs.YtkddkkcfpnndlaaGreatDoor
