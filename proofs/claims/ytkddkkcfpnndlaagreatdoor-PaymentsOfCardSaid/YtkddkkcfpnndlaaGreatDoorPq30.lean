/- Walks: are two lists the same? Walks: what a matching gains. Walks: the law FirstsBest. Walks: the law FirstsIdle: what the operations of its two great regions yield. Walks: the reference's markets: the market in which a bidder has no bid. -/
import Derived.Test.YtkddkkcfpnndlaaGreatDoorPq00
import Derived.Test.YtkddkkcfpnndlaaGreatDoorRows
import Derived.Test.YtkddkkcfpnndlaaGreatDoorPq15
import Derived.Test.YtkddkkcfpnndlaaGreatDoorPq16
import Derived.Test.YtkddkkcfpnndlaaGreatDoorPq17
import Derived.Test.YtkddkkcfpnndlaaGreatDoorPq20
import Derived.Test.YtkddkkcfpnndlaaGreatDoorPq07
import Derived.Test.YtkddkkcfpnndlaaGreatDoorPq08
import Derived.Test.YtkddkkcfpnndlaaGreatDoorPq21
import Derived.Test.YtkddkkcfpnndlaaGreatDoorPq22
import Derived.Test.YtkddkkcfpnndlaaGreatDoorPq26
import Derived.Test.YtkddkkcfpnndlaaGreatDoorPq29
import Derived.BigRegion
namespace Go.Proofs.YtkddkkcfpnndlaaGreatDoor
open Go.RowKit

theorem same_any (a b : Option Addr) (n c m d : Nat) (xs ys : List Int) (w : World) (hx : Ints w a n c xs) (hy : Ints w b m d ys) :
    Calls Tryz.prog 13 #[.slice a n c, .slice b m d] w fun e w' => e = .returned (.bool (decide (xs = ys))) ∧ Below w.heap.size w w' := by
  have HX := Lib.hid hx.len
  have HY := Lib.hid hy.len
  by_cases hl : n = m
  · subst hl
    have H1 := Lib.hid hx; clear hx
    have H2 := Lib.hid hy; clear hy
    have hbig := H1.out.big
    go_enter Tryz.func13, Tryz.ntmps13
    go_wp2_with fail
    go_loopg [5] n (fun g s7 wr => ∃ k : Nat, k + g = n ∧ s7 = .int .i64 k ∧ Below w.heap.size w wr ∧ xs.take k = ys.take k)
    case atStart => exact ⟨0, by omega, rfl, Below.refl _ _, rfl⟩
    case round =>
      obtain ⟨k, hk, rfl, hB, ht⟩ := hrel
      have HT := Lib.hid ht; clear ht
      by_cases hlt : k < n
      · obtain ⟨x, hx, _⟩ := H1.out.get hlt
        obtain ⟨y, hy, _⟩ := H2.out.get hlt
        obtain ⟨b1, o1, rfl⟩ := H1.out.addr (by omega)
        obtain ⟨b2, o2, rfl⟩ := H2.out.addr (by omega)
        have hc1 := (H1.out.below hB (Nat.le_refl _)).cell b1 o1 rfl k x hx
        have hc2 := (H2.out.below hB (Nat.le_refl _)).cell b2 o2 rfl k y hy
        have HB := Lib.hid hB; clear hB
        have HK := Lib.hid hk; clear hk
        have HXK := Lib.hid hx; clear hx
        have HYK := Lib.hid hy; clear hy
        go_wp2_with fail
        go_region
        by_cases hxy : x = y
        · subst hxy
          go_wp2_with fail
          go_roundg (gk - 1)
          case measure => have := HK.out; omega
          case rel => exact ⟨k + 1, by have := HK.out; omega, by go_num, HB.out.drew, by rw [List.take_add_one, List.take_add_one, HXK.out, HYK.out, HT.out]⟩
        · have e1 : (x != y) = true := by simp [hxy]
          have HN := Lib.hid hxy; clear hxy
          go_wp2_with fail
          go_ret
          refine ⟨ret_bool ?_, HB.out.drew⟩
          symm
          rw [decide_eq_false_iff_not]
          intro h
          have := HXK.out
          rw [h, HYK.out] at this
          cases this
          exact HN.out rfl
      · obtain rfl : k = n := by omega
        go_wp2_with fail
        go_ret
        refine ⟨ret_bool ?_, hB⟩
        symm
        rw [decide_eq_true_eq]
        have := HT.out
        rwa [List.take_of_length_le (by rw [HX.out]; exact Nat.le_refl _), List.take_of_length_le (by rw [HY.out]; exact Nat.le_refl _)] at this
  · have e1 : ((n : Int) != (m : Int)) = true := by simp; omega
    clear hx hy
    have HL := Lib.hid hl; clear hl
    go_enter Tryz.func13, Tryz.ntmps13
    go_wp2_with fail
    go_ret
    refine ⟨ret_bool ?_, Below.refl _ _⟩
    symm
    rw [decide_eq_false_iff_not]
    rintro rfl
    exact HL.out (HX.out.symm.trans HY.out)
end Go.Proofs.YtkddkkcfpnndlaaGreatDoor

namespace Go.Proofs.YtkddkkcfpnndlaaGreatDoor
open Go.RowKit Sale

theorem gi_bd {gains : List (List Int)} (hb : ∀ l, l ∈ gains → ∀ x, x ∈ l → -1000000 ≤ x ∧ x ≤ 1000000) (i k : Nat) : -1000000 ≤ gi gains i k ∧ gi gains i k ≤ 1000000 := by
  unfold gi
  cases h : gains[i]? with
  | none => simp
  | some l =>
    simp only [Option.getD_some]
    cases hx : l[k]? with
    | none => simp
    | some x => exact hb l (List.mem_of_getElem? h) x (List.mem_of_getElem? hx)
end Go.Proofs.YtkddkkcfpnndlaaGreatDoor

namespace Go.Proofs.YtkddkkcfpnndlaaGreatDoor
open Go.RowKit Sale

/-- the world behind the copy of the gains -/
def gw (w : World) (ga : Option Addr) (gn gc : Nat) (items : Int) : World := w.alloc (.cells #[.slice ga gn gc, .int .i64 items] 24)
end Go.Proofs.YtkddkkcfpnndlaaGreatDoor

namespace Go.Proofs.YtkddkkcfpnndlaaGreatDoor
open Go.RowKit Sale

theorem Ints.drop {w : World} {b o n c : Nat} {xs : List Int} (h : Ints w (some ⟨b, o, none⟩) n c xs) {k : Nat} (hk : k ≤ n) : Ints w (some ⟨b, o + k, none⟩) (n - k) (c - k) (xs.drop k) :=
  ⟨by rw [List.length_drop, h.len], by have := h.cap; omega, by have := h.big; omega, fun _ => ⟨b, o + k, rfl⟩, fun b' o' e j y hy => by
    cases e
    rw [List.getElem?_drop] at hy
    have := h.cell b o rfl (k + j) y hy
    rwa [← Nat.add_assoc] at this, fun y hy => h.bd y (List.mem_of_mem_drop hy), fun e => by cases e⟩
theorem Own.lower {w : World} {base B : Nat} {v : Value} {xs : List Int} (h : Own w base v xs) (hB : B ≤ base) : Own w B v xs := by
  obtain ⟨h1, h2⟩ := h
  refine ⟨h1, ?_⟩
  rcases h2 with h2 | ⟨g, cap, cur, hv, hg, r⟩
  · exact .inl h2
  · exact .inr ⟨g, cap, cur, hv, by omega, r⟩
theorem Own.step {w w' : World} {base : Nat} {v : Value} {xs : List Int} (h : Own w base v xs) (hb : Below w.heap.size w w') : Own w' base v xs := h.below hb (Nat.le_refl _)
theorem OwnRows.step {w w' : World} {base : Nat} {v : Value} {xs : List (List Int)} (h : OwnRows w base v xs) (hb : Below w.heap.size w w') : OwnRows w' base v xs := h.below hb (Nat.le_refl _)

end Go.Proofs.YtkddkkcfpnndlaaGreatDoor

namespace Go.Proofs.YtkddkkcfpnndlaaGreatDoor
open Go.RowKit Sale

theorem OwnRows.lit {w : World} {base : Nat} {v : Value} {xss : List (List Int)} (h : OwnRows w base v xss) : ∃ a c, v = .slice a xss.length c := by
  obtain ⟨vals, ⟨h1, h2⟩, h3, h4⟩ := h
  rcases h2 with ⟨hv, hn⟩ | ⟨g, cap, cur, hv, _⟩
  · exact ⟨none, 0, by rw [hv]; congr 1; omega⟩
  · exact ⟨_, cap, by rw [hv, h3]⟩
theorem OwnRows.farV {w : World} {base : Nat} {v : Value} {xss : List (List Int)} (h : OwnRows w base v xss) {B : Nat} {T : TypeId} {vals : List Value} (hV : VRow w B T vals) (hs : ∀ v, v ∈ vals → ∃ a n c, v = .slice a n c) (hB : B < base) (k : Nat) (u : Value) : OwnRows (w.setCell ⟨B, k, none⟩ u) base v xss := by
  obtain ⟨vs, h1, h3, h4⟩ := h
  refine ⟨vs, ownsRow_far h1 (by simpa using hB) u, h3, fun i xs hi => ?_⟩
  obtain ⟨a, n, c, e1, e2, e3⟩ := h4 i xs hi
  exact ⟨a, n, c, e1, e2.far (e2.apartV hV hs) u, e3⟩
theorem Own.neV {w : World} {base B : Nat} {v : Value} {xs : List Int} {T : TypeId} {vals : List Value} (h : Own w base v xs) (hV : VRow w B T vals) (hT : 3 ≠ T) : v.ownBlock ≠ some B := by
  intro e
  rcases h.2 with ⟨hv, _⟩ | ⟨g, cap, cur, hv, _, hh, _⟩
  · rw [hv] at e; cases e
  · rw [hv] at e
    have e : g = B := by injection e
    subst e
    unfold VRow at hV
    rw [hV] at hh
    exact hT (by injection hh with hh; injection hh with _ h' _; exact h'.symm)
theorem Own.row {w : World} {base : Nat} {v : Value} {xs : List Int} (h : Own w base v xs) (hp : 0 < xs.length) : ∃ g c, v = .slice (some ⟨g, 0, none⟩) xs.length c ∧ base ≤ g ∧ g < w.heap.size ∧ xs.length ≤ c ∧ TabI w g xs := by
  have h' := h
  rcases h'.2 with ⟨_, e0⟩ | ⟨g, cap, cur, e, hb, hh, hle, _⟩
  · omega
  · subst e
    exact ⟨g, cap, rfl, hb, (Array.getElem?_eq_some_iff.1 hh).1, hle, h.tab.1⟩

/-- what each operation of the literal yields -/
def PV (H B : Nat) (ra oa : Option Addr) (rn rc on oc : Nat) (m : Mkt) (i : Nat) (x : Value) (w : World) : Prop := match i with
  | 0 => x = .pointer (some ⟨B, 0, none⟩)
  | 1 => x = .slice ra rn rc
  | 2 => Own w H x m.res
  | 3 => x = .pointer (some ⟨B, 2, none⟩)
  | 4 => x = .slice oa on oc
  | 5 => Own w H x m.ord
  | 6 => ∃ v1 v3, x = .agg #[v1, .slice none 0 0, v3] ∧ Own w H v1 m.res ∧ Own w H v3 m.ord
  | 7 => ∃ g, x = .pointer (some ⟨g, 0, none⟩) ∧ H ≤ g ∧ VRow w g 57 [.slice none 0 0, .slice none 0 0, .slice none 0 0]
  | _ => True
theorem PV_mono {H B : Nat} {ra oa : Option Addr} {rn rc on oc : Nat} {m : Mkt} : ∀ (j : Nat) (y : Value) (w w' : World), Below w.heap.size w w' → PV H B ra oa rn rc on oc m j y w → PV H B ra oa rn rc on oc m j y w'
  | 0, _, _, _, _, h => h
  | 1, _, _, _, _, h => h
  | 2, _, _, _, hb, h => Own.below h hb (Nat.le_refl _)
  | 3, _, _, _, _, h => h
  | 4, _, _, _, _, h => h
  | 5, _, _, _, hb, h => Own.below h hb (Nat.le_refl _)
  | 6, _, _, _, hb, ⟨v1, v3, e, h1, h3⟩ => ⟨v1, v3, e, Own.below h1 hb (Nat.le_refl _), Own.below h3 hb (Nat.le_refl _)⟩
  | 7, _, _, _, hb, ⟨g, e, hg, h⟩ => ⟨g, e, hg, VRow.step h hb⟩
  | _ + 8, _, _, _, _, _ => trivial

/-- what the literal leaves -/
structure Lit05 (w1 wx : World) (Bx g1 g3 c1 c3 rn on : Nat) (m : Mkt) : Prop where
  row : VRow wx Bx 57 [.slice (some ⟨g1, 0, none⟩) rn c1, .slice none 0 0, .slice (some ⟨g3, 0, none⟩) on c3]
  res : TabI wx g1 m.res
  ord : TabI wx g3 m.ord
  n1 : g1 ≠ Bx
  n3 : g3 ≠ Bx
  b1 : w1.heap.size ≤ g1
  b3 : w1.heap.size ≤ g3
  bx : w1.heap.size ≤ Bx
  k1 : rn ≤ c1
  k3 : on ≤ c3
  below : Below w1.heap.size w1 wx

/-- what each operation of a round yields -/
def PN (Wk W2 Bx B k bb bo bn bc : Nat) (la : Option Addr) (ln lc : Nat) (vB : Value) (bid : List Int) (xss : List (List Int)) (i : Nat) (x : Value) (w : World) : Prop := match i with
  | 0 => x = .pointer (some ⟨Bx, 1, none⟩)
  | 1 => x = vB
  | 2 => x = .pointer (some ⟨B, 1, none⟩)
  | 3 => x = .slice (some ⟨bb, bo, none⟩) bn bc
  | 4 => x = .int .i64 k
  | 5 => x = .pointer (some ⟨bb, bo + k, none⟩)
  | 6 => x = .slice la ln lc
  | 7 => Own w Wk x bid
  | 8 => ∃ g v, x = .slice (some ⟨g, 0, none⟩) 1 1 ∧ w.cell? ⟨g, 0, none⟩ = some v ∧ Own w Wk v bid
  | 9 => ∃ g c, x = .slice (some ⟨g, 0, none⟩) (k + 1) c ∧ OwnRows w W2 x (xss ++ [bid])
  | 10 => x = .pointer (some ⟨Bx, 1, none⟩)
  | _ => True
def deadN (i j : Nat) : Bool := i == 9 && (j == 7 || j == 8 || j == 9)
theorem PN_mono {Wk W2 Bx B k bb bo bn bc : Nat} {la : Option Addr} {ln lc : Nat} {vB : Value} {bid : List Int} {xss : List (List Int)} (i : Nat) : ∀ (j : Nat) (y : Value) (w w' : World), deadN i j = false → (i ≠ 9 → Below w.heap.size w w') → PN Wk W2 Bx B k bb bo bn bc la ln lc vB bid xss j y w → PN Wk W2 Bx B k bb bo bn bc la ln lc vB bid xss j y w'
  | 0, _, _, _, _, _, h => h
  | 1, _, _, _, _, _, h => h
  | 2, _, _, _, _, _, h => h
  | 3, _, _, _, _, _, h => h
  | 4, _, _, _, _, _, h => h
  | 5, _, _, _, _, _, h => h
  | 6, _, _, _, _, _, h => h
  | 7, _, _, _, hd, hb, h => Own.below h (hb fun e => by subst e; simp [deadN] at hd) (Nat.le_refl _)
  | 8, _, _, _, hd, hb, ⟨g, v, e, h1, h2⟩ => ⟨g, v, e, cell_step (hb fun e => by subst e; simp [deadN] at hd) h1, Own.below h2 (hb fun e => by subst e; simp [deadN] at hd) (Nat.le_refl _)⟩
  | 9, _, _, _, hd, hb, ⟨g, c, e, h⟩ => ⟨g, c, e, h.below (hb fun e => by subst e; simp [deadN] at hd) (Nat.le_refl _)⟩
  | 10, _, _, _, _, _, h => h
  | _ + 11, _, _, _, _, _, _ => trivial

set_option maxRecDepth 100000 in
set_option maxHeartbeats 4000000 in
theorem without05_yes (ra ba oa : Option Addr) (rn rc bn bc on oc i0 : Nat) (m : Mkt) (w : World) (hm : MktAt w ra ba oa rn rc bn bc on oc m) (hc : mcheck m = true) (hi : i0 < bn) :
    Calls Tryz.prog 105 #[.agg #[.slice ra rn rc, .slice ba bn bc, .slice oa on oc], .int .i64 i0] w fun e w' => ∃ a1 c1 a2 c2 a3 c3, e = .returned (.tuple #[.agg #[.slice a1 rn c1, .slice a2 bn c2, .slice a3 on c3], .int .i64 0]) ∧ MktAt w' a1 a2 a3 rn c1 bn c2 on c3 (withoutM m i0) ∧ Below w.heap.size w w' := by
  have hok := mcheck_ok hc
  have hrl := hm.res.len
  have hbl := hm.bids.len
  have hol := hm.ord.len
  have hn1 := hok.n1
  have hn8 := hok.n8
  have hm1 := hok.m1
  have hm8 := hok.m8
  have ho8 : on = bn := by
    have := (isOrd_counts.1 hok.ord).1; omega
  subst ho8
  rw [hrl] at hn1 hn8
  rw [hbl] at hm1 hm8
  have HSH := Lib.hid (short_of hok hm)
  have hrp : 0 < m.res.length := by omega
  have hop : 0 < m.ord.length := by omega
  have HRP := Lib.hid (And.intro hrp hop); clear hrp hop
  have HRL := Lib.hid hrl; clear hrl
  have HBL := Lib.hid hbl; clear hbl
  have HOL := Lib.hid hol; clear hol
  have HOK := Lib.hid hok; clear hok
  have HC := Lib.hid hc; clear hc
  have HB0 := Lib.hid (show Below w.heap.size w ((mw w ra ba oa rn rc on bc on oc).alloc (.cells #[.slice none 0 0, .slice none 0 0, .slice none 0 0] 57)) from ((Below.refl _ w).alloc (Nat.le_refl _) _).alloc (by simp) _)
  have HM := Lib.hid hm; clear hm
  obtain ⟨bb, bo, rfl⟩ := HM.out.bids.addr (by omega)
  have hmA := HM.out.below HB0.out (Nat.le_refl _)
  have HK := Lib.hid (ref05_any ra (some ⟨bb, bo, none⟩) oa rn rc on bc on oc m _ hmA HSH.out.r HSH.out.b HSH.out.o HSH.out.x)
  clear hmA
  have e1 : decide ((i0 : Int) < 0) = false := by simp
  have e2 : decide ((on : Int) ≤ (i0 : Int)) = false := by simp; omega
  have e3 : decide (on ≤ i0) = false := by simp; omega
  go_enter Tryz.func105, Tryz.ntmps105
  go_wp2_with fail
  refine HK.out.mono ?_
  rw [HC.out]
  rintro e w1 ⟨rfl, hb⟩
  have hb0 := hb
  have hcs : (w1.cell? ⟨w.heap.size, 0, none⟩ = some (.slice ra rn rc) ∧ w1.cell? ⟨w.heap.size, 1, none⟩ = some (.slice (some ⟨bb, bo, none⟩) on bc) ∧ w1.cell? ⟨w.heap.size, 2, none⟩ = some (.slice oa on oc)) := by
    refine ⟨?_, ?_, ?_⟩
    all_goals (rw [hb0.cell (p := ⟨w.heap.size, _, none⟩) (by simp [mw]; omega)]; simp [mw, go_sem])
  obtain ⟨k0, k1, k2⟩ := hcs
  have hz1 : w.heap.size + 1 < w1.heap.size := by have := hb0.size; simp [mw] at this; omega
  have HBW1 := Lib.hid (HB0.out.trans (hb0.mono (by simp [mw]; omega)))
  have hrv : VRow w1 (w.heap.size + 1) 57 [.slice none 0 0, .slice none 0 0, .slice none 0 0] := by
    have h := (VRow.new (mw w ra (some ⟨bb, bo, none⟩) oa rn rc on bc on oc) 57 [.slice none 0 0, .slice none 0 0, .slice none 0 0])
    have e : (mw w ra (some ⟨bb, bo, none⟩) oa rn rc on bc on oc).heap.size = w.heap.size + 1 := by simp [mw]
    rw [e] at h
    exact VRow.below h hb0 (by simp [mw])
  have HRV := Lib.hid hrv; clear hrv
  clear hb hb0 HK
  have hM1 := HM.out.below HBW1.out (Nat.le_refl _)
  have HIR := Lib.hid hM1.res
  have HIO := Lib.hid hM1.ord
  have HBI := Lib.hid hM1.bids
  clear hM1
  go_upto_region 3 with fail
  go_cut [6] (fun s6 wx => ∃ (Bx g1 g3 c1 c3 : Nat), s6 = .pointer (some ⟨Bx, 0, none⟩) ∧ Lit05 w1 wx Bx g1 g3 c1 c3 rn on m)
  case first =>
    refine wp_region_each' (by kernel_rfl) [23, 24, 25, 26, 27, 28, 29, 6] (PV w1.heap.size w.heap.size ra oa rn rc on oc m) (fun w' => Below w1.heap.size w1 w') (by simp) (by kernel_rfl) (by simp) (by decide) (by simp [fold]) ?hmono (Below.refl _ _).drew ?hstep ?hlast
    case hmono => exact PV_mono
    case hlast =>
      intro o v wx K ho hB hd hK
      simp only [List.length_cons, List.length_nil, Nat.reduceAdd, Nat.reduceSub, List.getElem?_cons_zero, List.getElem?_cons_succ, Option.some.injEq] at ho
      subst ho
      simp only [fold, Nat.zero_add, Nat.reduceAdd, List.setIfInBounds_toArray, List.set_cons_zero, List.set_cons_succ]
      obtain ⟨v1, v3, d12, h1, h3⟩ : PV w1.heap.size w.heap.size ra oa rn rc on oc m 6 (v 6) wx := hd 6 (by simp)
      obtain ⟨Bx, d13, hg13, h13⟩ : PV w1.heap.size w.heap.size ra oa rn rc on oc m 7 (v 7) wx := hd 7 (by simp)
      obtain ⟨g1, c1, rfl, hb1, _, hc1, ht1⟩ := h1.row HRP.out.1
      obtain ⟨g3, c3, rfl, hb3, _, hc3, ht3⟩ := h3.row HRP.out.2
      have n1 : g1 ≠ Bx := fun e => h1.neV h13 (by decide) (by rw [e]; rfl)
      have n3 : g3 ≠ Bx := fun e => h3.neV h13 (by decide) (by rw [e]; rfl)
      rw [HRL.out] at d12 hc1
      rw [HOL.out] at d12 hc3
      rw [d12, d13]
      have c0 := h13.cell (k := 0) rfl
      have c1' := h13.cell (k := 1) rfl
      have c2 := h13.cell (k := 2) rfl
      have f0 := h13.frozen 0
      have f1 := h13.frozen 1
      have f2 := h13.frozen 2
      have H13 := Lib.hid h13; clear h13
      have H1 := Lib.hid ht1; clear ht1 h1
      have H3 := Lib.hid ht3; clear ht3 h3
      have HBB := Lib.hid hB; clear hB
      clear hd
      go_wp2_with fail
      go_meet
      exact ⟨Bx, g1, g3, c1, c3, rfl, ((H13.out.set 0 _).set 1 _).set 2 _, Tab.other (Tab.other (Tab.other H1.out n1 _) n1 _) n1 _, Tab.other (Tab.other (Tab.other H3.out n3 _) n3 _) n3 _, n1, n3, hb1, hb3, hg13, hc1, hc3, ((HBB.out.setCell (by simpa using hg13) _).setCell (by simpa using hg13) _).setCell (by simpa using hg13) _⟩
    case hstep =>
      intro i o v wx K hi ho hB hd hK
      simp only [List.length_cons, List.length_nil] at hi
      simp only [fold, Nat.zero_add, Nat.reduceAdd, List.setIfInBounds_toArray, List.set_cons_zero, List.set_cons_succ]
      rcases (by omega : i = 0 ∨ i = 1 ∨ i = 2 ∨ i = 3 ∨ i = 4 ∨ i = 5 ∨ i = 6 ∨ i = 7) with rfl | rfl | rfl | rfl | rfl | rfl | rfl | rfl
      all_goals
        simp only [List.getElem?_cons_zero, List.getElem?_cons_succ, Option.some.injEq] at ho
        subst ho
        simp only [fold, Nat.zero_add, Nat.reduceAdd, Act.put, List.setIfInBounds_toArray, List.set_cons_zero, List.set_cons_succ] at hK
      · clear hd
        go_wp2_with fail
        exact hK _ _ hB (Below.refl _ _) rfl
      · have d0 : v 0 = .pointer (some ⟨w.heap.size, 0, none⟩) := hd ⟨0, .data⟩ (by simp) rfl
        have hcc := cell_up hB k0
        rw [d0] at hK ⊢
        clear hd
        go_wp2_with fail
        exact hK _ _ hB (Below.refl _ _) rfl
      · have d1 : v 1 = .slice ra rn rc := hd ⟨1, .data⟩ (by simp) rfl
        rw [d1] at hK ⊢
        clear hd
        go_wp2_with (at_builtin; refine appAny _ rfl _ _ rfl wx.heap.size _ [] rfl (Own.nil _ _) ra rn rc m.res rfl (HIR.out.below hB (Nat.le_refl _)) (by simp; omega) (Nat.le_refl _) ?_)
        intro v5 w5 hown5 _ hb5 _
        go_wp2_with fail
        exact hK _ _ (hB.trans (hb5.mono hB.size)) hb5 (Own.lower (show Own w5 wx.heap.size v5 m.res from hown5) hB.size)
      · clear hd
        go_wp2_with fail
        exact hK _ _ hB (Below.refl _ _) rfl
      · have d0 : v 3 = .pointer (some ⟨w.heap.size, 2, none⟩) := hd ⟨3, .data⟩ (by simp) rfl
        have hcc := cell_up hB k2
        rw [d0] at hK ⊢
        clear hd
        go_wp2_with fail
        exact hK _ _ hB (Below.refl _ _) rfl
      · have d1 : v 4 = .slice oa on oc := hd ⟨4, .data⟩ (by simp) rfl
        rw [d1] at hK ⊢
        clear hd
        go_wp2_with (at_builtin; refine appAny _ rfl _ _ rfl wx.heap.size _ [] rfl (Own.nil _ _) oa on oc m.ord rfl (HIO.out.below hB (Nat.le_refl _)) (by simp; omega) (Nat.le_refl _) ?_)
        intro v5 w5 hown5 _ hb5 _
        go_wp2_with fail
        exact hK _ _ (hB.trans (hb5.mono hB.size)) hb5 (Own.lower (show Own w5 wx.heap.size v5 m.ord from hown5) hB.size)
      · have d2 : Own wx w1.heap.size (v 2) m.res := hd ⟨2, .data⟩ (by simp) rfl
        have d5 : Own wx w1.heap.size (v 5) m.ord := hd ⟨5, .data⟩ (by simp) rfl
        obtain ⟨a2, c2, e2'⟩ := own_lit d2
        obtain ⟨a5, c5, e5'⟩ := own_lit d5
        rw [e2', e5'] at hK ⊢
        rw [e2'] at d2
        rw [e5'] at d5
        clear hd
        go_wp2_with fail
        exact hK _ _ hB (Below.refl _ _) ⟨_, _, rfl, d2, d5⟩
      · clear hd
        go_wp2_with fail
        exact hK _ _ (below_alloc hB) ((Below.refl _ _).alloc (Nat.le_refl _) _) ⟨_, rfl, hB.size, VRow.new _ _ _⟩
  case rest =>
    obtain ⟨Bx, g1, g3, c1, c3, rfl, hL⟩ := hcut
    have k1' := k1
    obtain ⟨wx, rfl⟩ : ∃ wx, wx = wc := ⟨_, rfl⟩
    have HL := Lib.hid hL; clear hL
    have hwl : (withoutM m i0).bids.length = on := by rw [withoutM_length]; exact HBL.out
    have HWL := Lib.hid hwl; clear hwl
    have hbxl := HL.out.row.lt
    have hg1l := Tab.lt HL.out.res
    have hg3l := Tab.lt HL.out.ord
    have hxx := HL.out.below.size
    clear k0 k1 k2
    have hcb : wx.cell? ⟨w.heap.size, 1, none⟩ = some (.slice (some ⟨bb, bo, none⟩) on bc) := cell_step HL.out.below k1'
    go_wp2_with fail
    go_loopg [7] on (fun g' s7 wr => ∃ (k : Nat) (vB : Value), k + g' = on ∧ s7 = .int .i64 k ∧ VRow wr Bx 57 [.slice (some ⟨g1, 0, none⟩) rn c1, vB, .slice (some ⟨g3, 0, none⟩) on c3] ∧ TabI wr g1 m.res ∧ TabI wr g3 m.ord ∧ OwnRows wr wx.heap.size vB ((withoutM m i0).bids.take k) ∧ Below w1.heap.size w1 wr ∧ wx.heap.size ≤ wr.heap.size)
    case atStart => exact ⟨0, _, by omega, rfl, HL.out.row, HL.out.res, HL.out.ord, OwnRows.nil _ _, HL.out.below, Nat.le_refl _⟩
    case round =>
      obtain ⟨k, vB, hk, rfl, hV, hT1, hT3, hO, hB, hxs⟩ := hrel
      have HK := Lib.hid hk; clear hk
      obtain ⟨aB, cB, rfl⟩ := hO.lit
      have hcbw : wr.cell? ⟨w.heap.size, 1, none⟩ = some (.slice (some ⟨bb, bo, none⟩) on bc) := cell_step hB k1'
      by_cases hlt : k < on
      · have hlk : ((withoutM m i0).bids.take k).length = k := by rw [List.length_take, HWL.out]; omega
        rw [hlk] at hO hV
        obtain ⟨bid, hbid⟩ := HM.out.bids.get hlt
        obtain ⟨la, ln, lc, hcl, hli⟩ := HBI.out.cell bb bo rfl k bid hbid
        have hclw := cell_step hB hcl
        have hcl0 := hcl
        have HLI0 := Lib.hid hli
        have hliw := hli.below hB (Nat.le_refl _)
        have hll := hli.len
        have hln : ln ≤ 8 := by
          rcases HOK.out.bid bid (List.mem_of_getElem? hbid) with e | ⟨e, _⟩
          · rw [e] at hll; simp at hll; omega
          · have := HRL.out; omega
        have i1 : (k : Int) < (on : Int) := by omega
        have cX := hV.cell (k := 1) rfl
        have fX := hV.frozen 1
        have hs3 : ∀ x, x ∈ [Value.slice (some ⟨g1, 0, none⟩) rn c1, .slice aB k cB, .slice (some ⟨g3, 0, none⟩) on c3] → ∃ a n c, x = .slice a n c := fun v hv => by
          simp at hv
          rcases hv with rfl | rfl | rfl <;> exact ⟨_, _, _, rfl⟩
        have HS3 := Lib.hid hs3; clear hs3
        have HV := Lib.hid hV; clear hV
        have HT1 := Lib.hid hT1; clear hT1
        have HT3 := Lib.hid hT3; clear hT3
        have HO := Lib.hid hO; clear hO
        have HB := Lib.hid hB; clear hB
        have HLI := Lib.hid hliw; clear hliw hli hcl
        have HBID := Lib.hid hbid; clear hbid
        obtain ⟨ys, hys⟩ : ∃ ys, ys = (withoutM m i0).bids.take k := ⟨_, rfl⟩
        rw [← hys] at hlk HO
        have HYS := Lib.hid hys; clear hys
        have HLK := Lib.hid hlk; clear hlk
        have HLL := Lib.hid hll; clear hll
        -- what a store leaves
        have hend : ∀ (w5 : World) (g c : Nat) (xs : List Int), Below wx.heap.size wr w5 → OwnRows w5 wx.heap.size (.slice (some ⟨g, 0, none⟩) (k + 1) c) (ys ++ [xs]) → ys ++ [xs] = (withoutM m i0).bids.take (k + 1) →
            VRow (w5.setCell ⟨Bx, 1, none⟩ (.slice (some ⟨g, 0, none⟩) (k + 1) c)) Bx 57 [.slice (some ⟨g1, 0, none⟩) rn c1, .slice (some ⟨g, 0, none⟩) (k + 1) c, .slice (some ⟨g3, 0, none⟩) on c3] ∧ TabI (w5.setCell ⟨Bx, 1, none⟩ (.slice (some ⟨g, 0, none⟩) (k + 1) c)) g1 m.res ∧ TabI (w5.setCell ⟨Bx, 1, none⟩ (.slice (some ⟨g, 0, none⟩) (k + 1) c)) g3 m.ord ∧
              OwnRows (w5.setCell ⟨Bx, 1, none⟩ (.slice (some ⟨g, 0, none⟩) (k + 1) c)) wx.heap.size (.slice (some ⟨g, 0, none⟩) (k + 1) c) ((withoutM m i0).bids.take (k + 1)) ∧ Below w1.heap.size w1 (w5.setCell ⟨Bx, 1, none⟩ (.slice (some ⟨g, 0, none⟩) (k + 1) c)) ∧ wx.heap.size ≤ (w5.setCell ⟨Bx, 1, none⟩ (.slice (some ⟨g, 0, none⟩) (k + 1) c)).heap.size := fun w5 g c xs hb5 hO5 hxs' => by
          have hV5 := HV.out.below hb5 hbxl
          have hsz5 := hb5.size
          refine ⟨hV5.set 1 _, Tab.other (Tab.below HT1.out hb5 hg1l) HL.out.n1 _, Tab.other (Tab.below HT3.out hb5 hg3l) HL.out.n3 _, ?_, (HB.out.trans (hb5.mono hxx)).setCell (by simpa using HL.out.bx) _, by simp; omega⟩
          rw [← hxs']
          exact hO5.farV hV5 HS3.out hbxl 1 _
        have HEND := Lib.hid hend; clear hend
        by_cases hii : k = i0
        · subst hii
          have hnx : ys ++ [[]] = (withoutM m k).bids.take (k + 1) := by
            rw [HYS.out, List.take_add_one]; simp [withoutM, HBL.out, hlt]
          have HNX := Lib.hid hnx; clear hnx
          go_wp2_with (at_builtin; refine appRow _ rfl _ _ rfl wx.heap.size (.slice aB k cB) ys rfl (HO.out.below ((Below.refl _ wr).alloc (Nat.le_refl _) _) (Nat.le_refl _)) wr.heap.size 0 1 none 0 0 [] rfl (by simp [go_sem]) (Ints.empty _ _ _) (fun h => by omega) (by rw [HLK.out]; omega) (by simp; omega) ?_)
          intro g' cap' w5 hO5 hb5
          rw [HLK.out] at hO5 ⊢
          have hb6 : Below wx.heap.size wr w5 := ((Below.refl wx.heap.size wr).alloc hxs _).trans hb5
          have cX5 := (HV.out.below hb6 hbxl).cell (k := 1) rfl
          have fX5 := (HV.out.below hb6 hbxl).frozen 1
          have HO5 := Lib.hid hO5; clear hO5
          have HB6 := Lib.hid hb6; clear hb6 hb5
          go_wp2_with fail
          go_roundg (gk - 1)
          case measure => have := HK.out; omega
          case rel => exact ⟨k + 1, _, by have := HK.out; omega, by go_num, HEND.out w5 g' cap' [] HB6.out HO5.out HNX.out⟩
        · have f1 : ((k : Int) == (i0 : Int)) = false := by simp; omega
          have hnx : ys ++ [bid] = (withoutM m i0).bids.take (k + 1) := by
            rw [HYS.out, List.take_add_one]
            have : (withoutM m i0).bids[k]? = some bid := by simp only [withoutM]; rw [List.getElem?_set_ne (fun e => hii e.symm)]; exact HBID.out
            rw [this]; rfl
          have HNX := Lib.hid hnx; clear hnx
          have hvlt : ∀ b, (Value.slice aB k cB).ownBlock = some b → b < wr.heap.size := fun b hb => (HO.out.lt b hb).2
          have HVLT := Lib.hid hvlt; clear hvlt
          have hbdd : ∀ x, x ∈ bid → -9223372036854775808 ≤ x ∧ x ≤ 9223372036854775807 := HLI.out.bd
          have HBDD := Lib.hid hbdd; clear hbdd
          go_wp2_with fail
          refine wp_region_live' (by kernel_rfl) [45, 46, 47, 48, 49, 50, 51, 52, 53, 54, 55] (PN wr.heap.size wx.heap.size Bx w.heap.size k bb bo on bc la ln lc (.slice aB k cB) bid ys) (fun i wa wb => i ≠ 9 → Below wa.heap.size wa wb) deadN (fun w' => Below wx.heap.size wr w') (fun w' => OwnRows w' wx.heap.size (.slice aB k cB) ys) 9 (by simp) (by kernel_rfl) (by simp) (by decide) (by kernel_rfl) ?hmono (Below.refl _ _).drew (HO.out.below (Below.refl _ wr).drew (Nat.le_refl _)) ?hprem ?hstep ?hlast
          case hmono => exact fun i j y wa wb _ _ hd hR h => PN_mono i j y wa wb hd hR h
          case hprem => exact fun i wa wb hi hR h => h.below (hR hi) (Nat.le_refl _)
          case hlast =>
            intro o v w5 K ho hS hd hfree hK
            simp only [List.length_cons, List.length_nil, Nat.reduceAdd, Nat.reduceSub, List.getElem?_cons_zero, List.getElem?_cons_succ, Option.some.injEq] at ho
            subst ho
            simp only [fold, Nat.zero_add, Nat.reduceAdd, List.setIfInBounds_toArray, List.set_cons_zero, List.set_cons_succ]
            obtain ⟨g9, c9, d9, h9⟩ : PN wr.heap.size wx.heap.size Bx w.heap.size k bb bo on bc la ln lc (.slice aB k cB) bid ys 9 (v 9) w5 := hd ⟨9, .data⟩ (by simp) rfl
            have d10 : v 10 = .pointer (some ⟨Bx, 1, none⟩) := hd ⟨10, .data⟩ (by simp) rfl
            rw [d9] at h9
            rw [d9, d10]
            have cX5 := (HV.out.below hS hbxl).cell (k := 1) rfl
            have fX5 := (HV.out.below hS hbxl).frozen 1
            have HO5 := Lib.hid h9; clear h9
            have HS := Lib.hid hS; clear hS
            clear hd hfree
            go_wp2_with fail
            go_roundg (gk - 1)
            case measure => have := HK.out; omega
            case rel => exact ⟨k + 1, _, by have := HK.out; omega, by go_num, HEND.out w5 g9 c9 bid HS.out HO5.out HNX.out⟩
          case hstep =>
            intro i o v w5 K hi ho hS hpre hd hK
            have hsz5 := hS.size
            simp only [List.length_cons, List.length_nil] at hi
            simp only [fold, Nat.zero_add, Nat.reduceAdd, List.setIfInBounds_toArray, List.set_cons_zero, List.set_cons_succ]
            rcases (by omega : i = 0 ∨ i = 1 ∨ i = 2 ∨ i = 3 ∨ i = 4 ∨ i = 5 ∨ i = 6 ∨ i = 7 ∨ i = 8 ∨ i = 9 ∨ i = 10) with rfl | rfl | rfl | rfl | rfl | rfl | rfl | rfl | rfl | rfl | rfl
            all_goals
              simp only [List.getElem?_cons_zero, List.getElem?_cons_succ, Option.some.injEq] at ho
              subst ho
              simp only [fold, Nat.zero_add, Nat.reduceAdd, Act.put, List.setIfInBounds_toArray, List.set_cons_zero, List.set_cons_succ] at hK
            · clear hd hpre
              go_wp2_with fail
              exact hK _ _ hS (fun _ => Below.refl _ _) rfl
            · have d0 : v 0 = .pointer (some ⟨Bx, 1, none⟩) := hd ⟨0, .data⟩ (by simp) rfl
              have cX5 := (HV.out.below hS hbxl).cell (k := 1) rfl
              rw [d0] at hK ⊢
              clear hd hpre
              go_wp2_with fail
              exact hK _ _ hS (fun _ => Below.refl _ _) rfl
            · clear hd hpre
              go_wp2_with fail
              exact hK _ _ hS (fun _ => Below.refl _ _) rfl
            · have d0 : v 2 = .pointer (some ⟨w.heap.size, 1, none⟩) := hd ⟨2, .data⟩ (by simp) rfl
              have cX5 : w5.cell? ⟨w.heap.size, 1, none⟩ = some (.slice (some ⟨bb, bo, none⟩) on bc) := by
                rw [hS.cell (p := ⟨w.heap.size, 1, none⟩) (by simp; omega)]; exact hcbw
              rw [d0] at hK ⊢
              clear hd hpre
              go_wp2_with fail
              exact hK _ _ hS (fun _ => Below.refl _ _) rfl
            · clear hd hpre
              go_wp2_with fail
              exact hK _ _ hS (fun _ => Below.refl _ _) rfl
            · have d3 : v 3 = .slice (some ⟨bb, bo, none⟩) on bc := hd ⟨3, .data⟩ (by simp) rfl
              have d4 : v 4 = .int .i64 k := hd ⟨4, .data⟩ (by simp) rfl
              rw [d3, d4] at hK ⊢
              clear hd hpre
              go_wp2_with fail
              exact hK _ _ hS (fun _ => Below.refl _ _) rfl
            · have d5 : v 5 = .pointer (some ⟨bb, bo + k, none⟩) := hd ⟨5, .data⟩ (by simp) rfl
              have cX5 : w5.cell? ⟨bb, bo + k, none⟩ = some (.slice la ln lc) := by
                rw [hS.cell (p := ⟨bb, bo + k, none⟩) (by have := block_lt_of_cell hcl0; simp at this ⊢; omega)]; exact hclw
              rw [d5] at hK ⊢
              clear hd hpre
              go_wp2_with fail
              exact hK _ _ hS (fun _ => Below.refl _ _) rfl
            · have d6 : v 6 = .slice la ln lc := hd ⟨6, .data⟩ (by simp) rfl
              rw [d6] at hK ⊢
              clear hd hpre
              go_wp2_with (at_builtin; refine appAny _ rfl _ _ rfl w5.heap.size _ [] rfl (Own.nil _ _) la ln lc bid rfl (HLI0.out.below ((HB.out.trans (hS.mono hxx))) (Nat.le_refl _)) (by simp; omega) (Nat.le_refl _) ?_)
              intro v6 w6 hown6 _ hb6 _
              go_wp2_with fail
              exact hK _ _ (hS.trans (hb6.mono (by omega))) (fun _ => hb6) (Own.lower (show Own w6 w5.heap.size v6 bid from hown6) (by omega))
            · have d7 : Own w5 wr.heap.size (v 7) bid := hd ⟨7, .data⟩ (by simp) rfl
              obtain ⟨a7, c7, e7⟩ := own_lit d7
              rw [HLL.out] at e7
              rw [e7] at hK d7 ⊢
              clear hd hpre
              have D7 := Lib.hid d7; clear d7
              go_wp2_with fail
              exact hK _ _ (hS.alloc (by omega) _) (fun _ => (Below.refl _ _).alloc (Nat.le_refl _) _) ⟨_, _, rfl, by simp [go_sem], Own.alloc D7.out _⟩
            · have d1 : v 1 = .slice aB k cB := hd ⟨1, .data⟩ (by simp) rfl
              obtain ⟨g8, v8, d8, h8, h8o⟩ : PN wr.heap.size wx.heap.size Bx w.heap.size k bb bo on bc la ln lc (.slice aB k cB) bid ys 8 (v 8) w5 := hd ⟨8, .data⟩ (by simp) rfl
              have hpr := hpre (.inl rfl)
              obtain ⟨a8, c8, e8, hi8⟩ := Own.ints h8o (by rw [HLL.out]; omega) HBDD.out
              rw [HLL.out] at e8 hi8
              subst e8
              have hap : 0 < ln → ∀ b o, a8 = some ⟨b, o, none⟩ → (Value.slice aB k cB).ownBlock ≠ some b := fun hp b o e e' => by
                subst e
                have h1 := HVLT.out b e'
                rcases h8o.2 with ⟨hv, _⟩ | ⟨g, cap, cur, hv, hg, _⟩
                · cases hv
                · have : b = g := by injection hv with hv; injection hv with hv; injection hv
                  omega
              rw [d1, d8] at hK ⊢
              clear hd hpre
              have HAP := Lib.hid hap; clear hap
              have HI8 := Lib.hid hi8; clear hi8 h8o
              go_wp2_with (at_builtin; refine appRow _ rfl _ _ rfl wx.heap.size (.slice aB k cB) ys rfl hpr g8 0 1 a8 ln c8 bid rfl h8 HI8.out HAP.out (by rw [HLK.out]; omega) (by omega) ?_)
              intro g' cap' w6 hO6 hb6
              rw [HLK.out] at hO6 ⊢
              go_wp2_with fail
              exact hK _ _ (hS.trans hb6) (fun h => absurd rfl h) ⟨_, _, rfl, hO6⟩
            · clear hd hpre
              go_wp2_with fail
              exact hK _ _ hS (fun _ => Below.refl _ _) rfl
      · obtain rfl : k = on := by have := HK.out; omega
        have hlk : ((withoutM m i0).bids.take k).length = k := by rw [List.length_take, HWL.out]; omega
        rw [hlk] at hO hV
        rw [List.take_of_length_le (by rw [HWL.out]; exact Nat.le_refl _)] at hO
        have x0 := hV.cell (k := 0) rfl
        have x1 := hV.cell (k := 1) rfl
        have x2 := hV.cell (k := 2) rfl
        have HV := Lib.hid hV; clear hV
        have HT1 := Lib.hid hT1; clear hT1
        have HT3 := Lib.hid hT3; clear hT3
        have HO := Lib.hid hO; clear hO
        have HB := Lib.hid hB; clear hB
        have hrv := HRV.out.below HB.out hz1
        have r0 := hrv.cell (k := 0) rfl
        have r1 := hrv.cell (k := 1) rfl
        have r2 := hrv.cell (k := 2) rfl
        have q0 := hrv.frozen 0
        have q1 := hrv.frozen 1
        have q2 := hrv.frozen 2
        have HRW := Lib.hid hrv; clear hrv
        go_wp2_with fail
        have hsl : ∀ (a b c : Value), (∃ x n y, a = .slice x n y) → (∃ x n y, b = .slice x n y) → (∃ x n y, c = .slice x n y) → ∀ v, v ∈ [a, b, c] → ∃ a n c, v = .slice a n c := fun a b c h1 h2 h3 v hv => by
          simp at hv
          rcases hv with rfl | rfl | rfl <;> assumption
        have hN : ∃ x n y, Value.slice none 0 0 = .slice x n y := ⟨_, _, _, rfl⟩
        have hS0 : ∀ x n y, ∃ x' n' y', Value.slice x n y = .slice x' n' y' := fun x n y => ⟨_, _, _, rfl⟩
        have v1 := HRW.out.set 0 (.slice (some ⟨g1, 0, none⟩) rn c1)
        have v2 := v1.set 1 (.slice aB k cB)
        have hbB : w.heap.size + 1 < wx.heap.size := by omega
        have hO1 := HO.out.farV HRW.out (hsl _ _ _ hN hN hN) hbB 0 (.slice (some ⟨g1, 0, none⟩) rn c1)
        have hO2 := hO1.farV v1 (hsl _ _ _ (hS0 _ _ _) hN hN) hbB 1 (.slice aB k cB)
        have hO3 := hO2.farV v2 (hsl _ _ _ (hS0 _ _ _) (hS0 _ _ _) hN) hbB 2 (.slice (some ⟨g3, 0, none⟩) k c3)
        obtain ⟨aR, cR, eR, hR⟩ := hO3.rows (by rw [HWL.out]; omega)
        rw [HWL.out] at eR hR
        cases eR
        have hg1 : g1 ≠ w.heap.size + 1 := by have := HL.out.b1; omega
        have hg3 : g3 ≠ w.heap.size + 1 := by have := HL.out.b3; omega
        have t1 := Tab.other (Tab.other (Tab.other HT1.out hg1 (.slice (some ⟨g1, 0, none⟩) rn c1) (a := ⟨w.heap.size + 1, 0, none⟩)) hg1 (.slice aB k cB) (a := ⟨w.heap.size + 1, 1, none⟩)) hg1 (.slice (some ⟨g3, 0, none⟩) k c3) (a := ⟨w.heap.size + 1, 2, none⟩)
        have t3 := Tab.other (Tab.other (Tab.other HT3.out hg3 (.slice (some ⟨g1, 0, none⟩) rn c1) (a := ⟨w.heap.size + 1, 0, none⟩)) hg3 (.slice aB k cB) (a := ⟨w.heap.size + 1, 1, none⟩)) hg3 (.slice (some ⟨g3, 0, none⟩) k c3) (a := ⟨w.heap.size + 1, 2, none⟩)
        have i1 := TabI.ints t1 (c := c1) (by rw [HRL.out]; exact HL.out.k1) (by rw [HRL.out]; omega) HIR.out.bd
        have i3 := TabI.ints t3 (c := c3) (by rw [HOL.out]; exact HL.out.k3) (by rw [HOL.out]; omega) HIO.out.bd
        rw [HRL.out] at i1
        rw [HOL.out] at i3
        refine bodyPost_ret (v := .tuple #[.agg #[.slice (some ⟨g1, 0, none⟩) rn c1, .slice aB k cB, .slice (some ⟨g3, 0, none⟩) k c3], .int .i64 0]) (by simp [results, Tryz.results105, go_sem, r0, r1, r2]) rfl ⟨_, c1, _, cB, _, c3, rfl, ⟨i1, hR, i3⟩, ?_⟩
        exact (((HBW1.out.trans (HB.out.mono HBW1.out.size)).setCell (by simp) _).setCell (by simp) _).setCell (by simp) _
end Go.Proofs.YtkddkkcfpnndlaaGreatDoor
