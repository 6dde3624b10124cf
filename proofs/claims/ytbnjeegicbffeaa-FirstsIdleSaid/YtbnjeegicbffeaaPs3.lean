/- Walks: paths.begin. -/
import Derived.Test.YtbnjeegicbffeaaPs2
namespace Go.Proofs.Ytbnjeegicbffeaa
open Go.RowKit

/-- what a bidder has -/
def hasAt (has : List Int) (i : Nat) : Option Nat := match has[i]? with
  | some h => if h = -1 then none else some h.toNat
  | none => none
theorem hasAt_of {has : List Int} {i : Nat} {x : Int} (h : has[i]? = some x) : hasAt has i = if x = -1 then none else some x.toNat := by simp [hasAt, h]

/-- may a search begin? -/
def bOk (g : List (List Int)) (items : Int) (has : List Int) (start : Int) : Bool := fitsB g items has && decide (0 ≤ start) && decide (start < g.length) && decide (has[start.toNat]? = some (-1))

theorem fitsB_parts {g : List (List Int)} {items : Int} {has : List Int} (h : fitsB g items has = true) : gcheck g items = true ∧ has.length = g.length ∧ fitTo g has has.length = true := by
  simp only [fitsB, Bool.and_eq_true, decide_eq_true_eq] at h
  exact ⟨h.1.1, h.1.2, h.2⟩

theorem okFit_at {g : List (List Int)} {has : List Int} {n i : Nat} {x : Int} (h : fitTo g has n = true) (hi : i < n) (hx : has[i]? = some x) (hne : x ≠ -1) : x ∈ (g[i]?.getD []) ∧ x ∉ has.take i := by
  unfold fitTo at h
  have := List.all_eq_true.1 h i (List.mem_range.2 hi)
  rw [hx] at this
  simpa [okFit, hne] using this

theorem fits_item {g : List (List Int)} {items : Int} {has : List Int} (h : fitsB g items has = true) {i : Nat} {x : Int} (hx : has[i]? = some x) (hne : x ≠ -1) : 0 ≤ x ∧ x < items ∧ items ≤ 8 ∧ x ∈ (g[i]?.getD []) := by
  obtain ⟨h1, h2, h3⟩ := fitsB_parts h
  obtain ⟨q1, q2, q3, q4⟩ := gcheck_parts h1
  have hil : i < has.length := (List.getElem?_eq_some_iff.1 hx).1
  have ho := okFit_at h3 hil hx hne
  have hg : g[i]? = some (g[i]'(by omega)) := by simp
  rw [hg, Option.getD_some] at ho
  have := risesFrom_bd (q4 _ (List.getElem_mem _)) x ho.1
  rw [hg, Option.getD_some]
  exact ⟨by omega, by omega, q2, ho.1⟩

theorem holdTo_snoc_none {has : List Int} {k : Nat} {x : Int} (hx : has[k]? = some x) (h1 : x = -1) : Way.holdTo (hasAt has) (k + 1) = Way.holdTo (hasAt has) k := by
  funext j
  rw [Way.holdTo, hasAt_of hx, if_pos h1, if_neg (by simp)]
theorem holdTo_snoc_some {has : List Int} {k y : Nat} (hx : has[k]? = some (y : Int)) : Way.holdTo (hasAt has) (k + 1) = Way.mark (Way.holdTo (hasAt has) k) y (k + 1) := by
  funext j
  have h1 : hasAt has k = some y := by rw [hasAt_of hx, if_neg (by omega), Int.toNat_natCast]
  rw [Way.holdTo, h1]
  by_cases e : j = y
  · subst e; rw [Way.mark_same, if_pos rfl]
  · rw [Way.mark_other e, if_neg (fun h => e (Option.some.inj h).symm)]

set_option maxRecDepth 100000 in
set_option maxHeartbeats 1000000 in
theorem begin_no (ga ha : Option Addr) (gn gc hn hc : Nat) (g : List (List Int)) (items start : Int) (has : List Int) (w : World) (hg : Rows w ga gn gc g) (hh : Ints w ha hn hc has) (hok : bOk g items has start = false) :
    Calls Try.prog 51 #[.slice ga gn gc, .int .i64 items, .slice ha hn hc, .int .i64 start] w fun e w' => e = .returned (.tuple #[.pointer none, .int .i64 1]) ∧ Below w.heap.size w w' := by
  have HG := Lib.hid hg; clear hg
  have HH := Lib.hid hh; clear hh
  have hb1 := HG.out.big
  have HF := Lib.hid (fits_any ga ha gn gc hn hc g items has w HG.out HH.out)
  go_enter Try.func51, Try.ntmps51
  go_wp2_with fail
  refine HF.out.mono ?_
  rintro e w1 ⟨rfl, hb⟩
  have HB := Lib.hid hb; clear hb
  clear HF
  cases hf : fitsB g items has with
  | false =>
    clear hf
    go_wp2_with fail
    go_ret2
    exact ⟨rfl, HB.out⟩
  | true =>
    have hlen := (fitsB_parts hf).2.1
    have HF := Lib.hid hf; clear hf
    have hgl := HG.out.len
    have hhl := HH.out.len
    by_cases h0 : start < 0
    · have e1 : decide (start < 0) = true := by simp [h0]
      go_wp2_with fail
      go_ret2
      exact ⟨rfl, HB.out⟩
    · by_cases h1 : (gn : Int) ≤ start
      · have e1 : decide (start < 0) = false := by simp; omega
        have e2 : decide ((gn : Int) ≤ start) = true := by simp [h1]
        clear hlen hgl hhl
        go_wp2_with fail
        go_ret2
        exact ⟨rfl, HB.out⟩
      · obtain ⟨f, rfl⟩ := Int.eq_ofNat_of_zero_le (show 0 ≤ start by omega)
        have hfn : f < hn := by omega
        obtain ⟨x, hx, _⟩ := HH.out.get hfn
        obtain ⟨bh, oh, rfl⟩ := HH.out.addr (by omega)
        have hcx := (HH.out.below HB.out (Nat.le_refl _)).cell bh oh rfl f x hx
        have hx1 : x ≠ -1 := by
          intro e
          subst e
          simp [bOk, HF.out, hx] at hok
          omega
        have e3 : (x != -1) = true := by simp [hx1]
        have e1 : decide ((f : Int) < 0) = false := by simp
        have e2 : decide ((gn : Int) ≤ (f : Int)) = false := by simp; omega
        have i1 : (f : Int) < (hn : Int) := by omega
        have i2 : ¬ (gn ≤ f) := by omega
        have HX := Lib.hid hx; clear hx
        have HX1 := Lib.hid hx1; clear hx1
        clear hok h0 h1 hlen hgl hhl
        go_wp2_with fail
        go_ret2
        exact ⟨rfl, HB.out⟩

/-- what begin leaves -/
def Begun (ga : Option Addr) (gn gc hn f : Nat) (has : List Int) (w : World) (e : Ending) (w' : World) : Prop :=
  ∃ B a', e = .returned (.tuple #[.pointer (some ⟨B + 1, 0, none⟩), .int .i64 0]) ∧ w.heap.size ≤ B ∧
      Srch w' B (.slice ga gn gc) (.slice a' hn hn) ⟨[f], fun _ => 0⟩ (Way.holdTo (hasAt has) hn) ∧ MyRow w' w.heap.size a' hn hn has ∧ (0 < hn → ∀ b o, a' = some ⟨b, o, none⟩ → b < B) ∧ Below w.heap.size w w'

set_option maxRecDepth 100000 in
set_option maxHeartbeats 1000000 in
theorem begin_yes (ga ha : Option Addr) (gn gc hn hc f : Nat) (g : List (List Int)) (items : Int) (has : List Int) (w : World) (hg : Rows w ga gn gc g) (hh : Ints w ha hn hc has) (hok : bOk g items has f = true) :
    Calls Try.prog 51 #[.slice ga gn gc, .int .i64 items, .slice ha hn hc, .int .i64 f] w (Begun ga gn gc hn f has w) := by
  simp only [bOk, Bool.and_eq_true, decide_eq_true_eq] at hok
  obtain ⟨⟨⟨hf, _⟩, hfl⟩, hx⟩ := hok
  rw [Int.toNat_natCast] at hx
  have HG := Lib.hid hg; clear hg
  have HH := Lib.hid hh; clear hh
  have hb1 := HG.out.big
  have hhl := HH.out.len
  have hgl := HG.out.len
  have hlen := (fitsB_parts hf).2.1
  have hn8 : hn ≤ 8 := by have := (gcheck_parts (fitsB_parts hf).1).2.2.1; omega
  have hfn : f < hn := by omega
  have hfg : f < gn := by omega
  obtain ⟨bh, oh, rfl⟩ := HH.out.addr (by omega)
  have HF := Lib.hid hf; clear hf
  have HX := Lib.hid hx; clear hx
  clear hfl hhl hgl hlen
  go_enter Try.func51, Try.ntmps51
  go_wp2_with fail
  refine (fits_any ga _ gn gc hn hc g items has w HG.out HH.out).mono ?_
  rw [HF.out]
  rintro e w1 ⟨rfl, hb⟩
  have HB := Lib.hid hb; clear hb
  have hcx := (HH.out.below HB.out (Nat.le_refl _)).cell bh oh rfl f (-1) HX.out
  have e1 : decide ((f : Int) < 0) = false := by simp
  have e2 : decide ((gn : Int) ≤ (f : Int)) = false := by simp; omega
  have i1 : (f : Int) < (hn : Int) := by omega
  have i2 : ¬ (gn ≤ f) := by omega
  go_wp2_with fail
  refine (clone_any _ hn hc has w1 (HH.out.below HB.out (Nat.le_refl _)) (by omega)).mono ?_
  rintro e w2 ⟨v, rfl, ho, hb⟩
  have HB2 := Lib.hid hb; clear hb
  obtain ⟨a2, c2, rfl, hm, _⟩ := ho.myRow
  rw [HH.out.len] at hm ⊢
  have hm' : MyRow w2 w.heap.size a2 hn hn has := ⟨hm.len, Nat.le_refl _, fun e => ⟨(hm.nil e).1, (hm.nil e).1⟩, fun h => by obtain ⟨g', cur, r1, r2, r3⟩ := hm.own h; exact ⟨g', cur, r1, Nat.le_trans HB.out.size r2, r3⟩⟩
  have HM := Lib.hid hm'; clear hm'
  have hc2 := hm.cap
  clear hm ho
  go_wp2_with fail
  refine (clip_any a2 hn c2 w2 hc2).mono ?_
  rintro e w3 ⟨rfl, rfl⟩
  go_wp2_with fail
  have hV0 : VRow ((w2.alloc (.cells #[.int .i64 (f : Int)] 3)).alloc (.cells (sCells (.slice ga gn gc) (.slice a2 hn hn) (.slice (some ⟨w2.heap.size, 0, none⟩) 1 1) (fun _ => 0) (fun _ => 0)).toArray 89)) (w2.heap.size + 1) 89 (sCells (.slice ga gn gc) (.slice a2 hn hn) (.slice (some ⟨w2.heap.size, 0, none⟩) 1 1) (fun _ => 0) (fun _ => 0)) := by
    have := VRow.new (w2.alloc (.cells #[.int .i64 (f : Int)] 3)) 89 (sCells (.slice ga gn gc) (.slice a2 hn hn) (.slice (some ⟨w2.heap.size, 0, none⟩) 1 1) (fun _ => 0) (fun _ => 0))
    simpa using this
  have hO0 : Own (w2.alloc (.cells #[.int .i64 (f : Int)] 3)) w2.heap.size (.slice (some ⟨w2.heap.size, 0, none⟩) 1 1) (nats [f]) :=
    ⟨rfl, .inr ⟨w2.heap.size, 1, #[.int .i64 (f : Int)], rfl, Nat.le_refl _, heap_alloc_new w2 _, Nat.le_refl _, by unfold maxLen; omega, rfl, rfl⟩⟩
  have HO0 := Lib.hid hO0; clear hO0
  have HV0 := Lib.hid hV0; clear hV0
  have HBW := Lib.hid (HB.out.trans (HB2.out.mono HB.out.size))
  go_loopg [45] hn (fun g' s45 wr => ∃ k : Nat, k + g' = hn ∧ s45 = .int .i64 k ∧ VRow wr (w2.heap.size + 1) 89 (sCells (.slice ga gn gc) (.slice a2 hn hn) (.slice (some ⟨w2.heap.size, 0, none⟩) 1 1) (fun _ => 0) (Way.holdTo (hasAt has) k)) ∧ Below (w2.heap.size + 1) (w2.alloc (.cells #[.int .i64 (f : Int)] 3)) wr)
  case atStart => exact ⟨0, by omega, rfl, HV0.out, (Below.refl _ _).alloc (by simp) _⟩
  case round =>
    obtain ⟨k, hk, rfl, hV, hBl⟩ := hrel
    have hBw : Below w.heap.size w wr := (HBW.out.alloc HBW.out.size _).trans (hBl.mono (by have := HBW.out.size; omega))
    have HK := Lib.hid hk; clear hk
    by_cases hlt : k < hn
    · obtain ⟨x, hx, _⟩ := HH.out.get hlt
      have hcx2 := (HH.out.below hBw (Nat.le_refl _)).cell bh oh rfl k x hx
      have HBWR := Lib.hid hBw; clear hBw
      have HBL := Lib.hid hBl; clear hBl
      by_cases hx1 : x = -1
      · have e3 : (x != -1) = false := by simp [hx1]
        have hs := holdTo_snoc_none hx hx1
        have HX1 := Lib.hid hx1; clear hx1
        have HXX := Lib.hid hx; clear hx
        have HS := Lib.hid hs; clear hs
        have HV := Lib.hid hV; clear hV
        go_wp2_with fail
        go_roundg (gk - 1)
        case measure => have := HK.out; omega
        case rel => exact ⟨k + 1, by have := HK.out; omega, by go_num, by rw [HS.out]; exact HV.out, HBL.out⟩
      · have e3 : (x != -1) = true := by simp [hx1]
        obtain ⟨y0, yi, y8, _⟩ := fits_item HF.out hx hx1
        obtain ⟨y, rfl⟩ := Int.eq_ofNat_of_zero_le y0
        have hy8 : y < 8 := by omega
        have hs := holdTo_snoc_some hx
        have hcw := hV.cell (sCells_hold (came := fun _ => 0) (hold := Way.holdTo (hasAt has) k) hy8)
        have hfz := hV.frozen (11 + y)
        have hset := hV.set (11 + y) (iv (k + 1))
        rw [sCells_setHold hy8, ← hs] at hset
        have HX1 := Lib.hid hx1; clear hx1
        have HXX := Lib.hid hx; clear hx
        have HS := Lib.hid hs; clear hs
        have HV := Lib.hid hV; clear hV
        have HSET := Lib.hid hset; clear hset
        have i3 : (y : Int) < 8 := by omega
        clear yi y8
        go_wp2_with fail
        go_roundg (gk - 1)
        case measure => have := HK.out; omega
        case rel => exact ⟨k + 1, by have := HK.out; omega, by go_num, HSET.out, HBL.out.setCell (by simp) _⟩
    · obtain rfl : k = hn := by have := HK.out; omega
      have HBWR := Lib.hid hBw; clear hBw
      have HBL := Lib.hid hBl; clear hBl
      have HV := Lib.hid hV; clear hV
      go_wp2_with fail
      go_ret2
      refine ⟨w2.heap.size, a2, rfl, HBW.out.size, ⟨_, HV.out, HO0.out.below HBL.out (by simp), by simp [Value.ownBlock]⟩, (HM.out.below ((Below.refl w2.heap.size w2).alloc (Nat.le_refl _) _) (Nat.le_refl _)).below HBL.out (by simp), fun h0 b o e => ?_, HBWR.out⟩
      obtain ⟨g', e', _, hlt⟩ := HM.out.lt h0
      rw [e] at e'; cases e'; exact hlt
end Go.Proofs.Ytbnjeegicbffeaa
