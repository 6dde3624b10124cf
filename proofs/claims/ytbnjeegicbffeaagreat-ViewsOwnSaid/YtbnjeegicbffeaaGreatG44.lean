/- Lists of small bytes in memory. Walks: salesroomlaw15.dearer: an outcome whose prices are dearer. Walks: the law OutcomesMeet. -/
import Derived.Test.YtbnjeegicbffeaaGreatG00
import Derived.Test.YtbnjeegicbffeaaGreatG43
import Derived.Test.YtbnjeegicbffeaaGreatG40
import Derived.BigRegion
/- Lists of small bytes in memory. -/
namespace Go.Proofs.YtbnjeegicbffeaaGreat
open Go.RowKit

/-- the slice value 'a n c' reads as the bytes xs -/
structure U8s (w : World) (a : Option Addr) (n c : Nat) (xs : List Int) : Prop where
  len : xs.length = n
  cap : n ≤ c
  big : n ≤ 4611686018427387904
  addr : 0 < n → ∃ b o, a = some ⟨b, o, none⟩
  cell : ∀ b o, a = some ⟨b, o, none⟩ → ∀ k x, xs[k]? = some x → w.cell? ⟨b, o + k, none⟩ = some (.int .u8 x)
  bd : ∀ x, x ∈ xs → 0 ≤ x ∧ x ≤ 255
theorem U8s.get {w : World} {a : Option Addr} {n c : Nat} {xs : List Int} (h : U8s w a n c xs) {k : Nat} (hk : k < n) : ∃ x, xs[k]? = some x ∧ 0 ≤ x ∧ x ≤ 255 :=
  ⟨xs[k]'(by have := h.len; omega), by simp, h.bd _ (List.getElem_mem _)⟩
theorem U8s.below {w w' : World} {a : Option Addr} {n c : Nat} {xs : List Int} (h : U8s w a n c xs) {B : Nat} (hb : Below B w w') (hB : w.heap.size ≤ B) : U8s w' a n c xs :=
  ⟨h.len, h.cap, h.big, h.addr, fun b o e k x hx => by
    have hc := h.cell b o e k x hx
    have := block_lt_of_cell hc
    rw [hb.cell (p := ⟨b, o + k, none⟩) (by simp at this ⊢; omega)]; exact hc, h.bd⟩
theorem U8s.none (w : World) : U8s w none 0 0 [] := ⟨rfl, Nat.le_refl _, by omega, fun h => absurd h (by omega), fun _ _ _ k x h => by simp at h, fun x h => by simp at h⟩
end Go.Proofs.YtbnjeegicbffeaaGreat

/- Walks: salesroomlaw15.dearer: an outcome whose prices are dearer. -/
namespace Go.Proofs.YtbnjeegicbffeaaGreat
open Go.RowKit Sale

/-- the first j prices are dearer -/
def dearTo (ps xs : List Int) (j : Nat) : List Int := (List.range ps.length).map fun k => if k < j ∧ k < xs.length then ps.getD k 0 + xs.getD k 0 % 6 else ps.getD k 0
def dearL (ps xs : List Int) : List Int := dearTo ps xs ps.length
theorem dearTo_length (ps xs : List Int) (j : Nat) : (dearTo ps xs j).length = ps.length := by simp [dearTo]
theorem dearTo_get {ps xs : List Int} {j k : Nat} (hk : k < ps.length) : (dearTo ps xs j)[k]? = some (if k < j ∧ k < xs.length then ps.getD k 0 + xs.getD k 0 % 6 else ps.getD k 0) := by simp [dearTo, hk]
theorem dearTo_out {ps xs : List Int} {j k : Nat} (hk : ¬ k < ps.length) : (dearTo ps xs j)[k]? = none := List.getElem?_eq_none (by rw [dearTo_length]; omega)
theorem dearTo_zero (ps xs : List Int) : dearTo ps xs 0 = ps := by
  apply List.ext_getElem?
  intro k
  by_cases hk : k < ps.length
  · rw [dearTo_get hk, if_neg (by omega), getD_some hk 0]
  · rw [dearTo_out hk, List.getElem?_eq_none (by omega)]
theorem dearTo_set {ps xs : List Int} {j : Nat} (hj : j < xs.length) (v : Int) (hv : ps.getD j 0 + xs.getD j 0 % 6 = v) : (dearTo ps xs j).set j v = dearTo ps xs (j + 1) := by
  apply List.ext_getElem?
  intro k
  rw [List.getElem?_set]
  by_cases hk : k < ps.length
  · rw [dearTo_get hk, dearTo_get hk, dearTo_length]
    by_cases e : j = k
    · subst e
      rw [if_pos rfl, if_pos hk, if_pos ⟨by omega, hj⟩, hv]
    · rw [if_neg e]
      by_cases h : k < j
      · simp [h, show k < j + 1 by omega]
      · simp [h, show ¬ k < j + 1 by omega]
  · rw [dearTo_out hk, dearTo_out hk, dearTo_length]
    by_cases e : j = k
    · rw [if_pos e, if_neg (by omega)]
    · rw [if_neg e]
theorem dearTo_done {ps xs : List Int} {j : Nat} (h : ps.length ≤ j ∨ xs.length ≤ j) : dearTo ps xs j = dearL ps xs := by
  unfold dearL
  apply List.ext_getElem?
  intro k
  by_cases hk : k < ps.length
  · rw [dearTo_get hk, dearTo_get hk]
    have : (k < j ∧ k < xs.length) ↔ (k < ps.length ∧ k < xs.length) := by omega
    simp only [this]
  · rw [dearTo_out hk, dearTo_out hk]
theorem dearTo_at {ps xs : List Int} {j k : Nat} {y : Int} (hy : ps[k]? = some y) (h : j ≤ k) : (dearTo ps xs j)[k]? = some y := by
  have hk := (List.getElem?_eq_some_iff.1 hy).1
  rw [dearTo_get hk, if_neg (by omega), getD_at hy]
theorem dearL_bd {ps xs : List Int} {m : Int} (h : ∀ x, x ∈ ps → 0 ≤ x ∧ x ≤ m) : ∀ x, x ∈ dearL ps xs → 0 ≤ x ∧ x ≤ m + 5 := fun x hx => by
  obtain ⟨k, hk, rfl⟩ := List.mem_map.1 hx
  have := h _ (getD_mem (List.mem_range.1 hk) 0)
  split <;> omega

theorem dearer_results {h : Nat} {v0 v1 : Value} {tmps : Array Value} (t2 : tmps[4]?.getD undef = .pointer (some ⟨h, 0, none⟩)) (W : World) (hO : VRow W h 30 [v0, v1]) :
    (results Tryz.f27 tmps).run Tryz.prog W = .ok (.agg #[v0, v1]) W := by
  have c0 := hO.cell (k := 0) rfl
  have c1 := hO.cell (k := 1) rfl
  simp [results, Tryz.results27, go_sem, t2, c0, c1]

theorem dearer_end {w W0 wr : World} (hz : W0.heap.size = w.heap.size + 2) {hn c1 pn c2 g1 g2 : Nat} {o : Outc} (h1 : hn ≤ c1) (h2 : pn ≤ c2) (ht : TwinOut wr W0.heap.size g1 g2 o) (hb : Below w.heap.size w wr) (u0 u1 : Value) :
    TwinOSays w hn pn o (.returned (.agg #[.slice (some ⟨g1, 0, none⟩) hn c1, .slice (some ⟨g2, 0, none⟩) pn c2])) ((wr.setCell ⟨w.heap.size + 1, 0, none⟩ u0).setCell ⟨w.heap.size + 1, 1, none⟩ u1) := by
  have hl1 := ht.b1
  have hl2 := ht.l
  have far : ∀ (W : World) (k : Nat) (u : Value), TwinOut W W0.heap.size g1 g2 o → TwinOut (W.setCell ⟨w.heap.size + 1, k, none⟩ u) W0.heap.size g1 g2 o := fun W k u h =>
    ⟨Tab.other h.has (by simp; omega) _, Tab.other h.prices (by simp; omega) _, h.b1, h.l⟩
  refine ⟨g1, c1, g2, c2, rfl, h1, h2, ?_, (hb.setCell (by simp) _).setCell (by simp) _⟩
  have h := far _ 1 u1 (far _ 0 u0 ht)
  exact { h with b1 := by omega }

set_option maxRecDepth 100000 in
set_option maxHeartbeats 4000000 in
theorem dearer_any (ha pa xa : Option Addr) (hn hc pn pc xn xc : Nat) (o : Outc) (xs : List Int) (w : World) (ho : OutAt w ha pa hn hc pn pc o) (hxs : U8s w xa xn xc xs) (h1 : hn ≤ 100000) (h2 : pn ≤ 100000) (hp : ∀ x, x ∈ o.prices → 0 ≤ x ∧ x ≤ 3000000) :
    Calls Tryz.prog 27 #[.agg #[.slice ha hn hc, .slice pa pn pc], .slice xa xn xc] w (TwinOSays w hn pn ⟨o.has, dearL o.prices xs⟩) := by
  obtain ⟨hv1, hv2, hb0, hz0⟩ := to0_at w ha pa hn hc pn pc
  have HT := Lib.hid (twinOutcome_any ha pa hn hc pn pc o _ (ho.below hb0 (Nat.le_refl _)) h1 h2)
  have hpl := ho.prices.len
  have hxl := hxs.len
  have hxbig := hxs.big
  have HX := Lib.hid (And.intro hxs (And.intro hpl (And.intro hxl hp)))
  have p0 := hv1.cell (k := 0) rfl
  have p1 := hv1.cell (k := 1) rfl
  have HV := Lib.hid (And.intro hv2 (And.intro hb0 hz0)); clear hv1 hv2 hb0 hz0 ho hxs hpl hxl hp
  go_enter Tryz.func27, Tryz.ntmps27
  go_wp2_with fail
  refine HT.out.mono ?_
  rintro e w2 ⟨g1, c1, g2, c2, rfl, hc1, hc2, ht, hb2⟩
  have hal : Below w2.heap.size w2 (w2.alloc (.cells #[.slice (some ⟨g1, 0, none⟩) hn c1, .slice (some ⟨g2, 0, none⟩) pn c2] 30)) := (Below.refl _ _).alloc (Nat.le_refl _) _
  have hb3 := HV.out.2.1.trans ((hb2.mono HV.out.2.1.size).trans (hal.mono (by have := hb2.size; have := HV.out.2.1.size; omega)))
  have hg2 := Tab.lt ht.prices
  have hbx := VRow.new w2 30 [.slice (some ⟨g1, 0, none⟩) hn c1, .slice (some ⟨g2, 0, none⟩) pn c2]
  have ht3 := ht.step hal
  have hr3 := (HV.out.1.step hb2).step hal
  have hz2 : w.heap.size + 2 ≤ w2.heap.size := by have := hb2.size; have := HV.out.2.2; omega
  have hg1 := ht3.b1
  have hg12 := ht3.l
  rw [HV.out.2.2] at hg1
  have q1 := hbx.cell (k := 1) rfl
  obtain ⟨W3, hW3⟩ : ∃ W3, W3 = w2.alloc (.cells #[.slice (some ⟨g1, 0, none⟩) hn c1, .slice (some ⟨g2, 0, none⟩) pn c2] 30) := ⟨_, rfl⟩
  have H3 := Lib.hid (And.intro hbx (And.intro ht3 (And.intro hr3 hb3))); clear hbx ht ht3 hr3 hb3 hb2 hal HT p0 p1
  go_wp2_with fail
  rw [show w2.alloc (.cells #[.slice (some ⟨g1, 0, none⟩) hn c1, .slice (some ⟨g2, 0, none⟩) pn c2] 30) = W3 from hW3.symm] at q1 H3 ⊢
  clear hW3 q1
  go_loopg [6] pn (fun g' s6 wr => ∃ j : Nat, j + g' = pn ∧ s6 = .int .i64 j ∧ VRow wr w2.heap.size 30 [.slice (some ⟨g1, 0, none⟩) hn c1, .slice (some ⟨g2, 0, none⟩) pn c2] ∧ TwinOut wr (to0 w ha pa hn hc pn pc).heap.size g1 g2 ⟨o.has, dearTo o.prices xs j⟩ ∧
    VRow wr (w.heap.size + 1) 30 [.slice none 0 0, .slice none 0 0] ∧ Below w.heap.size w wr)
  case atStart => exact ⟨0, by omega, rfl, H3.out.1, by rw [dearTo_zero]; exact H3.out.2.1, H3.out.2.2.1, H3.out.2.2.2⟩
  case round =>
    obtain ⟨j, hj, rfl, hbx, ht, hr, hb⟩ := hrel
    have HJ := Lib.hid hj; clear hj
    have q0 := hbx.cell (k := 0) rfl
    have q1 := hbx.cell (k := 1) rfl
    by_cases hlt : j < pn
    · by_cases hlx : j < xn
      · obtain ⟨y, hy⟩ : ∃ y, o.prices[j]? = some y := ⟨_, List.getElem?_eq_getElem (by rw [HX.out.2.1]; exact hlt)⟩
        obtain ⟨x, hx, hx0, hx1⟩ := HX.out.1.get hlx
        obtain ⟨hy0, hy1⟩ := HX.out.2.2.2 y (List.mem_of_getElem? hy)
        have cy := Tab.cell ht.prices (k := j) (v := .int .i64 y) (by rw [List.getElem?_map, dearTo_at hy (Nat.le_refl _)]; rfl)
        have cf := Tab.frozen ht.prices j
        obtain ⟨xb, xo, rfl⟩ := HX.out.1.addr (by omega)
        have cx := (HX.out.1.below hb (Nat.le_refl _)).cell xb xo rfl j x hx
        have hset := dearTo_set (ps := o.prices) (xs := xs) (j := j) (by rw [HX.out.2.2.1]; exact hlx) (y + x % 6) (by rw [getD_at hy, getD_at hx])
        have j0 : (0 : Int) ≤ (j : Int) := by omega
        have j1 : (j : Int) < (pn : Int) := by omega
        have j2 : (j : Int) < (xn : Int) := by omega
        have e3 : IntKind.i64.wrap (y + x % 6) = y + x % 6 := IntWalk.i64_in _ (by omega)
        have e4 : IntKind.i64.wrap x = x := IntWalk.i64_in _ (by omega)
        have HS := Lib.hid hset; clear hset
        have HR := Lib.hid (And.intro hbx (And.intro ht (And.intro hr hb))); clear hbx ht hr hb hy hx
        go_wp2_with fail
        go_region
        go_wp2_with fail
        go_roundg (gk - 1)
        case measure => have := HJ.out; omega
        case rel =>
          refine ⟨j + 1, by have := HJ.out; omega, by go_num, ?_, ?_, ?_, ?_⟩
          · exact (vrow_far HR.out.1 (by simp; omega) _).drew
          · have := HR.out.2.1.poke j (y + x % 6)
            simp only [HS.out] at this
            exact this.step ((Below.refl _ _).drew)
          · exact (vrow_far HR.out.2.2.1 (by simp; omega) _).drew
          · exact (HR.out.2.2.2.setCell (by simp; omega) _).drew
      · have e5 : decide (j < xn) = false := by simpa using hlx
        have e6 : decide ((j : Int) < (xn : Int)) = false := by simp; omega
        have hd := dearTo_done (ps := o.prices) (xs := xs) (j := j) (.inr (by rw [HX.out.2.2.1]; omega))
        rw [hd] at ht
        have r0 := hr.cell (k := 0) rfl
        have r1 := hr.cell (k := 1) rfl
        have fr0 := hr.frozen 0
        have hr2 := hr.set 0 (.slice (some ⟨g1, 0, none⟩) hn c1)
        have r2 := hr2.cell (k := 1) rfl
        have fr1 := hr2.frozen 1
        have hr3 := hr2.set 1 (.slice (some ⟨g2, 0, none⟩) pn c2)
        have HR := Lib.hid (And.intro ht (And.intro hr3 hb)); clear hbx ht hr hr2 hr3 hb hd
        go_wp2_with fail
        exact bodyPost_ret (dearer_results rfl _ HR.out.2.1) rfl (dearer_end HV.out.2.2 hc1 hc2 HR.out.1 HR.out.2.2 _ _)
    · obtain rfl : j = pn := by have := HJ.out; omega
      have hd := dearTo_done (ps := o.prices) (xs := xs) (j := j) (.inl (by rw [HX.out.2.1]; exact Nat.le_refl _))
      rw [hd] at ht
      have r0 := hr.cell (k := 0) rfl
      have r1 := hr.cell (k := 1) rfl
      have fr0 := hr.frozen 0
      have hr2 := hr.set 0 (.slice (some ⟨g1, 0, none⟩) hn c1)
      have r2 := hr2.cell (k := 1) rfl
      have fr1 := hr2.frozen 1
      have hr3 := hr2.set 1 (.slice (some ⟨g2, 0, none⟩) j c2)
      have HR := Lib.hid (And.intro ht (And.intro hr3 hb)); clear hbx ht hr hr2 hr3 hb hd
      go_wp2_with fail
      exact bodyPost_ret (dearer_results rfl _ HR.out.2.1) rfl (dearer_end HV.out.2.2 hc1 hc2 HR.out.1 HR.out.2.2 _ _)
end Go.Proofs.YtbnjeegicbffeaaGreat

/- Walks: the law OutcomesMeet. -/
namespace Go.Proofs.YtbnjeegicbffeaaGreat
open Go.RowKit Sale

/-- the first j entries are what f makes of the two -/
def opTo (f : Int → Int → Int) (a b : List Int) (j : Nat) : List Int := (List.range a.length).map fun k => if k < j then f (a.getD k 0) (b.getD k 0) else a.getD k 0
theorem opTo_length (f : Int → Int → Int) (a b : List Int) (j : Nat) : (opTo f a b j).length = a.length := by simp [opTo]
theorem opTo_get {f : Int → Int → Int} {a b : List Int} {j k : Nat} (hk : k < a.length) : (opTo f a b j)[k]? = some (if k < j then f (a.getD k 0) (b.getD k 0) else a.getD k 0) := by simp [opTo, hk]
theorem opTo_out {f : Int → Int → Int} {a b : List Int} {j k : Nat} (hk : ¬ k < a.length) : (opTo f a b j)[k]? = none := List.getElem?_eq_none (by rw [opTo_length]; omega)
theorem opTo_zero (f : Int → Int → Int) (a b : List Int) : opTo f a b 0 = a := by
  apply List.ext_getElem?
  intro k
  by_cases hk : k < a.length
  · rw [opTo_get hk, if_neg (by omega), getD_some hk 0]
  · rw [opTo_out hk, List.getElem?_eq_none (by omega)]
theorem opTo_set {f : Int → Int → Int} {a b : List Int} {j : Nat} (v : Int) (hv : f (a.getD j 0) (b.getD j 0) = v) : (opTo f a b j).set j v = opTo f a b (j + 1) := by
  apply List.ext_getElem?
  intro k
  rw [List.getElem?_set]
  by_cases hk : k < a.length
  · rw [opTo_get hk, opTo_get hk, opTo_length]
    by_cases e : j = k
    · subst e
      rw [if_pos rfl, if_pos hk, if_pos (by omega), hv]
    · rw [if_neg e]
      by_cases h : k < j
      · simp [h, show k < j + 1 by omega]
      · simp [h, show ¬ k < j + 1 by omega]
  · rw [opTo_out hk, opTo_out hk, opTo_length]
    by_cases e : j = k
    · rw [if_pos e, if_neg (by omega)]
    · rw [if_neg e]
theorem opTo_at {f : Int → Int → Int} {a b : List Int} {j : Nat} {y : Int} (hy : a[j]? = some y) : (opTo f a b j)[j]? = some y := by
  have hk := (List.getElem?_eq_some_iff.1 hy).1
  rw [opTo_get hk, if_neg (by omega), getD_at hy]
theorem opTo_full {f : Int → Int → Int} {a b : List Int} {k : Nat} (hk : k < a.length) : (opTo f a b a.length).getD k 0 = f (a.getD k 0) (b.getD k 0) := by
  rw [getD_at (opTo_get hk), if_pos hk]

structure MeetAt (w : World) (ra ba oa xa ya : Option Addr) (rn rc bn bc on oc xn xc yn yc : Nat) (m : Mkt) (xs ys : List Int) (wr : World) : Prop where
  v : VRow wr w.heap.size 57 [.slice ra rn rc, .slice ba bn bc, .slice oa on oc, .slice xa xn xc, .slice ya yn yc]
  mkt : MktAt wr ra ba oa rn rc bn bc on oc m
  x : U8s wr xa xn xc xs
  y : U8s wr ya yn yc ys
  below : Below w.heap.size w wr
theorem MeetAt.step {w : World} {ra ba oa xa ya : Option Addr} {rn rc bn bc on oc xn xc yn yc : Nat} {m : Mkt} {xs ys : List Int} {wr wr' : World} (h : MeetAt w ra ba oa xa ya rn rc bn bc on oc xn xc yn yc m xs ys wr) (hb : Below wr.heap.size wr wr') : MeetAt w ra ba oa xa ya rn rc bn bc on oc xn xc yn yc m xs ys wr' :=
  ⟨h.v.step hb, h.mkt.below hb (Nat.le_refl _), h.x.below hb (Nat.le_refl _), h.y.below hb (Nat.le_refl _), h.below.trans (hb.mono h.below.size)⟩

/-- a market's outcome, dearer -/
theorem dear_out {m : Mkt} (hm : MOk m) (xs : List Int) {w : World} {base g1 g2 hn c1 pn c2 : Nat} (h : TwinOut w base g1 g2 ⟨hasM m, dearL (leastM m) xs⟩) (h1 : m.bids.length = hn) (h2 : m.res.length = pn) (hc1 : hn ≤ c1) (hc2 : pn ≤ c2) :
    OutAt w (some ⟨g1, 0, none⟩) (some ⟨g2, 0, none⟩) hn c1 pn c2 ⟨hasM m, dearL (leastM m) xs⟩ := by
  have hl := hm.least.pr
  have h8 := hm.m8
  have n8 := hm.n8
  refine h.out (by rw [← h1]; exact hasM_length m) (by show (dearL (leastM m) xs).length = pn; unfold dearL; rw [dearTo_length, hl.len, h2]) hc1 hc2 (by omega) (by omega) (fun x hx => ?_) (fun x hx => ?_)
  · have a := hasM_ge m x hx
    obtain ⟨i, hi⟩ := List.mem_iff_getElem?.1 hx
    by_cases e : x = -1
    · omega
    · obtain ⟨k, rfl, hk, _⟩ := hm.item hi e
      omega
  · have := dearL_bd (m := 2000000) (hl.all hm) x hx
    omega

set_option maxRecDepth 100000 in
set_option maxHeartbeats 4000000 in
theorem outcomesMeet_any (ra ba oa xa ya : Option Addr) (rn rc bn bc on oc xn xc yn yc : Nat) (m : Mkt) (xs ys : List Int) (w : World) (hm : MktAt w ra ba oa rn rc bn bc on oc m) (hx : U8s w xa xn xc xs) (hy : U8s w ya yn yc ys) :
    Calls Tryz.prog 6 #[.agg #[.slice ra rn rc, .slice ba bn bc, .slice oa on oc, .slice xa xn xc, .slice ya yn yc]] w fun e w' => e = .returned (.bool true) ∧ Below w.heap.size w w' := by
  have hb0 : Below w.heap.size w (w.alloc (.cells #[.slice ra rn rc, .slice ba bn bc, .slice oa on oc, .slice xa xn xc, .slice ya yn yc] 57)) := (Below.refl _ _).alloc (Nat.le_refl _) _
  have hv0 : VRow (w.alloc (.cells #[.slice ra rn rc, .slice ba bn bc, .slice oa on oc, .slice xa xn xc, .slice ya yn yc] 57)) w.heap.size 57 [.slice ra rn rc, .slice ba bn bc, .slice oa on oc, .slice xa xn xc, .slice ya yn yc] := VRow.new w _ _
  have H0 : MeetAt w ra ba oa xa ya rn rc bn bc on oc xn xc yn yc m xs ys (w.alloc (.cells #[.slice ra rn rc, .slice ba bn bc, .slice oa on oc, .slice xa xn xc, .slice ya yn yc] 57)) :=
    ⟨hv0, hm.below hb0 (Nat.le_refl _), hx.below hb0 (Nat.le_refl _), hy.below hb0 (Nat.le_refl _), hb0⟩
  have hrl := hm.res.len
  have hbl := hm.bids.len
  have k0 := H0.v.cell (k := 0) rfl
  have k1 := H0.v.cell (k := 1) rfl
  have k2 := H0.v.cell (k := 2) rfl
  clear hb0 hv0 hm hx hy
  by_cases hc : mcheck m = true
  · have HO := Lib.hid (Oof_yes ra ba oa rn rc bn bc on oc m _ H0.mkt hc)
    have hok := mcheck_ok hc
    have hn8 := hok.n8
    have hm8 := hok.m8
    rw [hrl] at hn8
    rw [hbl] at hm8
    have HC := Lib.hid (And.intro hc hok)
    have H := Lib.hid H0
    have HL := Lib.hid (And.intro hrl hbl); clear H0 hok hc hrl hbl
    go_enter Tryz.func6, Tryz.ntmps6
    go_wp2_with fail
    refine HO.out.mono ?_
    rintro e w1 ⟨ha, pa, hcp, rfl, ho, hb1⟩
    have hal : Below w1.heap.size w1 (w1.alloc (.cells #[.slice ha bn hcp, .slice pa rn rn] 30)) := (Below.refl _ _).alloc (Nat.le_refl _) _
    have h2 := (H.out.step hb1).step hal
    have b2 := BoxO.new ho
    clear k0 k1 k2
    have k3 := h2.v.cell (k := 3) rfl
    have p0 := b2.row.cell (k := 0) rfl
    have p1 := b2.row.cell (k := 1) rfl
    have HD := Lib.hid (dearer_any ha pa xa bn hcp rn rn xn xc (outM m) xs _ b2.out h2.x (by omega) (by omega) (fun x hx => by have := HC.out.2.least.pr.all HC.out.2 x hx; omega))
    have H2 := Lib.hid (And.intro h2 b2); clear h2 b2 ho hb1 hal HO H
    go_wp2_with fail
    refine HD.out.mono ?_
    rintro e w3 ⟨g1, c1, g2, c2, rfl, hc1, hc2, ht, hb3⟩
    have hal : Below w3.heap.size w3 (w3.alloc (.cells #[.slice (some ⟨g1, 0, none⟩) bn c1, .slice (some ⟨g2, 0, none⟩) rn c2] 30)) := (Below.refl _ _).alloc (Nat.le_refl _) _
    have h4 := (H2.out.1.step hb3).step hal
    have b4 := (H2.out.2.step hb3).step hal
    have a4 := BoxO.new (dear_out HC.out.2 xs ht HL.out.2 HL.out.1 hc1 hc2)
    clear k3 p0 p1
    have k4 := h4.v.cell (k := 4) rfl
    have p0 := b4.row.cell (k := 0) rfl
    have p1 := b4.row.cell (k := 1) rfl
    have HD2 := Lib.hid (dearer_any ha pa ya bn hcp rn rn yn yc (outM m) ys _ b4.out h4.y (by omega) (by omega) (fun x hx => by have := HC.out.2.least.pr.all HC.out.2 x hx; omega))
    have H4 := Lib.hid (And.intro h4 (And.intro b4 a4)); clear h4 b4 a4 ht hb3 hal HD H2
    go_wp2_with fail
    refine HD2.out.mono ?_
    rintro e w5 ⟨g3, c3, g4, c4, rfl, hc3, hc4, ht, hb5⟩
    have hal : Below w5.heap.size w5 (w5.alloc (.cells #[.slice (some ⟨g3, 0, none⟩) bn c3, .slice (some ⟨g4, 0, none⟩) rn c4] 30)) := (Below.refl _ _).alloc (Nat.le_refl _) _
    have h6 := (H4.out.1.step hb5).step hal
    have a6 := (H4.out.2.2.step hb5).step hal
    have b6 := BoxO.new (dear_out HC.out.2 ys ht HL.out.2 HL.out.1 hc3 hc4)
    clear k4 p0 p1
    have k0 := h6.v.cell (k := 0) rfl
    have k1 := h6.v.cell (k := 1) rfl
    have k2 := h6.v.cell (k := 2) rfl
    have p0 := a6.row.cell (k := 0) rfl
    have p1 := a6.row.cell (k := 1) rfl
    have HE := Lib.hid (Even_any ra ba oa (some ⟨g1, 0, none⟩) (some ⟨g2, 0, none⟩) rn rc bn bc on oc bn c1 rn c2 m ⟨hasM m, dearL (leastM m) xs⟩ _ h6.mkt a6.out)
    have H6 := Lib.hid (And.intro h6 (And.intro a6 b6)); clear h6 a6 b6 ht hb5 hal HD2 H4
    go_wp2_with fail
    refine HE.out.mono ?_
    cases hev : evenB m ⟨hasM m, dearL (leastM m) xs⟩ with
    | false =>
      clear hev
      rintro e w7 ⟨rfl, hb⟩
      have H7 := Lib.hid (H6.out.1.step hb); clear hb
      go_wp2_with fail
      refine (lives15_any w7).mono ?_
      rintro e w8 ⟨rfl, hb⟩
      have H8 := Lib.hid (H7.out.step hb); clear hb
      go_wp2_with fail
      go_ret
      exact ⟨rfl, H8.out.below⟩
    | true =>
      have HA := Lib.hid (evenB_ok hev); clear hev
      rintro e w7 ⟨rfl, hb⟩
      have h8 := H6.out.1.step hb
      have a8 := H6.out.2.1.step hb
      have b8 := H6.out.2.2.step hb
      clear k0 k1 k2 p0 p1
      have k0 := h8.v.cell (k := 0) rfl
      have k1 := h8.v.cell (k := 1) rfl
      have k2 := h8.v.cell (k := 2) rfl
      have q0 := b8.row.cell (k := 0) rfl
      have q1 := b8.row.cell (k := 1) rfl
      have HE2 := Lib.hid (Even_any ra ba oa (some ⟨g3, 0, none⟩) (some ⟨g4, 0, none⟩) rn rc bn bc on oc bn c3 rn c4 m ⟨hasM m, dearL (leastM m) ys⟩ _ h8.mkt b8.out)
      have H8 := Lib.hid (And.intro h8 (And.intro a8 b8)); clear h8 a8 b8 hb HE H6
      go_wp2_with fail
      refine HE2.out.mono ?_
      cases hev : evenB m ⟨hasM m, dearL (leastM m) ys⟩ with
      | false =>
        clear hev
        rintro e w9 ⟨rfl, hb⟩
        have H9 := Lib.hid (H8.out.1.step hb); clear hb
        go_wp2_with fail
        refine (lives15_any w9).mono ?_
        rintro e w10 ⟨rfl, hb⟩
        have H10 := Lib.hid (H9.out.step hb); clear hb
        go_wp2_with fail
        go_ret
        exact ⟨rfl, H10.out.below⟩
      | true =>
        have HB := Lib.hid (evenB_ok hev); clear hev
        rintro e w9 ⟨rfl, hb⟩
        have h10 := H8.out.1.step hb
        have a10 := H8.out.2.1.step hb
        have b10 := H8.out.2.2.step hb
        clear k0 k1 k2 q0 q1
        have p0 := a10.row.cell (k := 0) rfl
        have p1 := a10.row.cell (k := 1) rfl
        have q1 := b10.row.cell (k := 1) rfl
        have HT := Lib.hid (twinOutcome_any (some ⟨g1, 0, none⟩) (some ⟨g2, 0, none⟩) bn c1 rn c2 _ w9 a10.out (by omega) (by omega))
        have H10 := Lib.hid (And.intro h10 (And.intro a10 b10)); clear h10 a10 b10 hb HE2 H8
        go_wp2_with fail
        refine HT.out.mono ?_
        rintro e w11 ⟨g5, c5, g6, c6, rfl, hc5, hc6, ht, hb11⟩
        have hal : Below w11.heap.size w11 (w11.alloc (.cells #[.slice (some ⟨g5, 0, none⟩) bn c5, .slice (some ⟨g6, 0, none⟩) rn c6] 30)) := (Below.refl _ _).alloc (Nat.le_refl _) _
        have h12 := (H10.out.1.step hb11).step hal
        have a12 := (H10.out.2.1.step hb11).step hal
        have b12 := (H10.out.2.2.step hb11).step hal
        have l12 := VRow.new w11 30 [.slice (some ⟨g5, 0, none⟩) bn c5, .slice (some ⟨g6, 0, none⟩) rn c6]
        have t12 := ht.step hal
        have hg6 := Tab.lt ht.prices
        clear p0 p1 q1
        have p0 := a12.row.cell (k := 0) rfl
        have p1 := a12.row.cell (k := 1) rfl
        have HT2 := Lib.hid (twinOutcome_any (some ⟨g1, 0, none⟩) (some ⟨g2, 0, none⟩) bn c1 rn c2 _ _ a12.out (by omega) (by omega))
        have hw9 : w9.heap.size ≤ w11.heap.size := hb11.size
        have hbl := hb11.trans (hal.mono hb11.size)
        have H12 := Lib.hid (And.intro h12 (And.intro a12 (And.intro b12 (And.intro l12 (And.intro t12 hbl))))); clear h12 a12 b12 l12 t12 ht hb11 hal HT hbl
        go_wp2_with fail
        refine HT2.out.mono ?_
        rintro e w13 ⟨g7, c7, g8, c8, rfl, hc7, hc8, ht, hb13⟩
        have hal : Below w13.heap.size w13 (w13.alloc (.cells #[.slice (some ⟨g7, 0, none⟩) bn c7, .slice (some ⟨g8, 0, none⟩) rn c8] 30)) := (Below.refl _ _).alloc (Nat.le_refl _) _
        have l14 := (H12.out.2.2.2.1.step hb13).step hal
        have t14 := (H12.out.2.2.2.2.1.step hb13).step hal
        have m14 := VRow.new w13 30 [.slice (some ⟨g7, 0, none⟩) bn c7, .slice (some ⟨g8, 0, none⟩) rn c8]
        have u14 := ht.step hal
        have hg8 := Tab.lt ht.prices
        have hz12 : (w11.alloc (.cells #[.slice (some ⟨g5, 0, none⟩) bn c5, .slice (some ⟨g6, 0, none⟩) rn c6] 30)).heap.size = w11.heap.size + 1 := by simp
        have hg7 := u14.b1
        have hg78 := u14.l
        have hg5 := t14.b1
        have hg56 := t14.l
        have hw13 : w11.heap.size + 1 ≤ w13.heap.size := by have := hb13.size; omega
        have hbl := H12.out.2.2.2.2.2.trans ((hb13.trans (hal.mono hb13.size)).mono (by omega))
        rw [hz12] at hg7
        have hlA : (dearL (leastM m) xs).length = rn := by unfold dearL; rw [dearTo_length, HC.out.2.least.pr.len, HL.out.1]
        have hlB : (dearL (leastM m) ys).length = rn := by unfold dearL; rw [dearTo_length, HC.out.2.least.pr.len, HL.out.1]
        obtain ⟨A, hA⟩ : ∃ A, A = dearL (leastM m) xs := ⟨_, rfl⟩
        obtain ⟨B, hB⟩ : ∃ B, B = dearL (leastM m) ys := ⟨_, rfl⟩
        rw [← hA] at hlA HA t14 u14 H10
        rw [← hB] at hlB HB H10
        have HAB := Lib.hid (And.intro hlA (And.intro hlB (And.intro hA hB))); clear hlA hlB hA hB
        obtain ⟨W, hW⟩ : ∃ W, W = w13.alloc (.cells #[.slice (some ⟨g7, 0, none⟩) bn c7, .slice (some ⟨g8, 0, none⟩) rn c8] 30) := ⟨_, rfl⟩
        have a14 := H10.out.2.1.row.below hbl H10.out.2.1.row.lt
        have r1 := a14.cell (k := 1) rfl
        have H14 := Lib.hid (And.intro l14 (And.intro t14 (And.intro m14 (And.intro u14 hbl)))); clear l14 t14 m14 u14 hbl ht hb13 hal HT2 H12 hz12 p0 p1 a14
        go_wp2_with fail
        rw [show w13.alloc (.cells #[.slice (some ⟨g7, 0, none⟩) bn c7, .slice (some ⟨g8, 0, none⟩) rn c8] 30) = W from hW.symm] at H14 r1 ⊢
        clear hW r1
        go_loopg [9] rn (fun g' s9 wr => ∃ j : Nat, j + g' = rn ∧ s9 = .int .i64 j ∧ VRow wr w11.heap.size 30 [.slice (some ⟨g5, 0, none⟩) bn c5, .slice (some ⟨g6, 0, none⟩) rn c6] ∧ TwinOut wr w9.heap.size g5 g6 ⟨hasM m, opTo min A B j⟩ ∧
          VRow wr w13.heap.size 30 [.slice (some ⟨g7, 0, none⟩) bn c7, .slice (some ⟨g8, 0, none⟩) rn c8] ∧ TwinOut wr (w11.alloc (.cells #[.slice (some ⟨g5, 0, none⟩) bn c5, .slice (some ⟨g6, 0, none⟩) rn c6] 30)).heap.size g7 g8 ⟨hasM m, opTo max A B j⟩ ∧ Below w9.heap.size w9 wr)
        case atStart => exact ⟨0, by omega, rfl, H14.out.1, by rw [opTo_zero]; exact H14.out.2.1, H14.out.2.2.1, by rw [opTo_zero]; exact H14.out.2.2.2.1, H14.out.2.2.2.2⟩
        case round =>
          obtain ⟨j, hj, rfl, hl, ht, hm', hu, hb⟩ := hrel
          have HJ := Lib.hid hj; clear hj
          have ha := H10.out.2.1.step hb
          have hbb := H10.out.2.2.step hb
          by_cases hlt : j < rn
          · have pa1 := ha.row.cell (k := 1) rfl
            have pb1 := hbb.row.cell (k := 1) rfl
            have pl1 := hl.cell (k := 1) rfl
            obtain ⟨y, hy, hyb⟩ := ha.out.prices.get hlt
            obtain ⟨z, hz, hzb⟩ := hbb.out.prices.get hlt
            have cy := ha.out.prices.cell g2 0 rfl j y hy
            have cz := hbb.out.prices.cell g4 0 rfl j z hz
            rw [Nat.zero_add] at cy cz
            have hy' : A[j]? = some y := hy
            have hz' : B[j]? = some z := hz
            have cl := Tab.cell ht.prices (k := j) (v := .int .i64 y) (by rw [List.getElem?_map, opTo_at hy']; rfl)
            have fl := Tab.frozen ht.prices j
            have s1 := opTo_set (f := min) (a := A) (b := B) (j := j) (min y z) (by rw [getD_at hy', getD_at hz'])
            have s2 := opTo_set (f := max) (a := A) (b := B) (j := j) (max y z) (by rw [getD_at hy', getD_at hz'])
            have j0 : (0 : Int) ≤ (j : Int) := by omega
            have j1 : (j : Int) < (rn : Int) := by omega
            have HS := Lib.hid (And.intro s1 (And.intro s2 (And.intro hy hz))); clear s1 s2 hy hz
            have HYZ := Lib.hid (And.intro hy' hz'); clear hy' hz' hyb hzb
            have HR := Lib.hid (And.intro hl (And.intro ht (And.intro hm' (And.intro hu hb)))); clear hl ht hm' hu hb ha hbb
            go_wp2_with fail
            go_cut [73] (fun s73 wx => VRow wx w11.heap.size 30 [.slice (some ⟨g5, 0, none⟩) bn c5, .slice (some ⟨g6, 0, none⟩) rn c6] ∧ TwinOut wx w9.heap.size g5 g6 ⟨hasM m, opTo min A B (j + 1)⟩ ∧
              VRow wx w13.heap.size 30 [.slice (some ⟨g7, 0, none⟩) bn c7, .slice (some ⟨g8, 0, none⟩) rn c8] ∧ TwinOut wx (w11.alloc (.cells #[.slice (some ⟨g5, 0, none⟩) bn c5, .slice (some ⟨g6, 0, none⟩) rn c6] 30)).heap.size g7 g8 ⟨hasM m, opTo max A B j⟩ ∧ Below w9.heap.size w9 wx)
            case first =>
              go_region
              go_wp2_with fail
              go_meet
              refine ⟨(vrow_far HR.out.1 (by simp; omega) _).drew, ?_, (vrow_far HR.out.2.2.1 (by simp; omega) _).drew, ?_, (HR.out.2.2.2.2.setCell (by simp; omega) _).drew⟩
              · have := HR.out.2.1.poke j (min y z)
                simp only [HS.out.1] at this
                exact this.step ((Below.refl _ _).drew)
              · have h := HR.out.2.2.2.1
                exact TwinOut.step ⟨Tab.other h.has (by simp; omega) _, Tab.other h.prices (by simp; omega) _, h.b1, h.l⟩ ((Below.refl _ _).drew)
            case rest =>
              obtain ⟨hl, ht, hm', hu, hb⟩ := hcut
              have ha := H10.out.2.1.step hb
              have hbb := H10.out.2.2.step hb
              clear pa1 pb1 pl1 cy cz cl fl
              have pa1 := ha.row.cell (k := 1) rfl
              have pb1 := hbb.row.cell (k := 1) rfl
              have pm1 := hm'.cell (k := 1) rfl
              have cy := ha.out.prices.cell g2 0 rfl j y HS.out.2.2.1
              have cz := hbb.out.prices.cell g4 0 rfl j z HS.out.2.2.2
              rw [Nat.zero_add] at cy cz
              have cm := Tab.cell hu.prices (k := j) (v := .int .i64 y) (by rw [List.getElem?_map, opTo_at HYZ.out.1]; rfl)
              have fm := Tab.frozen hu.prices j
              have HR2 := Lib.hid (And.intro hl (And.intro ht (And.intro hm' (And.intro hu hb)))); clear hl ht hm' hu hb ha hbb
              go_wp2_with fail
              go_region
              go_wp2_with fail
              go_roundg (gk - 1)
              case measure => have := HJ.out; omega
              case rel =>
                refine ⟨j + 1, by have := HJ.out; omega, by go_num, (vrow_far HR2.out.1 (by simp; omega) _).drew, ?_, (vrow_far HR2.out.2.2.1 (by simp; omega) _).drew, ?_, (HR2.out.2.2.2.2.setCell (by simp; omega) _).drew⟩
                · have h := HR2.out.2.1
                  exact TwinOut.step ⟨Tab.other h.has (by simp; omega) _, Tab.other h.prices (by simp; omega) _, h.b1, h.l⟩ ((Below.refl _ _).drew)
                · have := HR2.out.2.2.2.1.poke j (max y z)
                  simp only [HS.out.2.1] at this
                  exact this.step ((Below.refl _ _).drew)
          · obtain rfl : j = rn := by have := HJ.out; omega
            rw [show opTo min A B j = opTo min A B A.length by rw [HAB.out.1]] at ht
            rw [show opTo max A B j = opTo max A B A.length by rw [HAB.out.1]] at hu
            have hx := H10.out.1.step hb
            have hv1 := hx.v.cell (k := 0) rfl
            have hv2 := hx.v.cell (k := 1) rfl
            have hv3 := hx.v.cell (k := 2) rfl
            have pl0 := hl.cell (k := 0) rfl
            have pl1 := hl.cell (k := 1) rfl
            have pa1 := ha.row.cell (k := 1) rfl
            have hbdA : ∀ x, x ∈ A → 0 ≤ x ∧ x ≤ 2000005 := fun x hx => by
              rw [HAB.out.2.2.1] at hx
              have := dearL_bd (m := 2000000) (HC.out.2.least.pr.all HC.out.2) x hx
              omega
            have hbdB : ∀ x, x ∈ B → 0 ≤ x ∧ x ≤ 2000005 := fun x hx => by
              rw [HAB.out.2.2.2] at hx
              have := dearL_bd (m := 2000000) (HC.out.2.least.pr.all HC.out.2) x hx
              omega
            have hop : ∀ f : Int → Int → Int, (∀ u v, f u v = u ∨ f u v = v) → ∀ x, x ∈ opTo f A B A.length → -9223372036854775808 ≤ x ∧ x ≤ 9223372036854775807 := fun f hf x hx => by
              obtain ⟨k, hk, rfl⟩ := List.mem_map.1 hx
              have hk' := List.mem_range.1 hk
              rw [if_pos hk']
              have h1 := hbdA _ (getD_mem hk' 0)
              have h2 := hbdB _ (getD_mem (l := B) (k := k) (by rw [HAB.out.2.1, ← HAB.out.1]; exact hk') 0)
              rcases hf (A.getD k 0) (B.getD k 0) with e | e <;> rw [e] <;> omega
            have hbh : ∀ x, x ∈ hasM m → -9223372036854775808 ≤ x ∧ x ≤ 9223372036854775807 := ha.out.has.bd
            have hlh : (hasM m).length = bn := by rw [hasM_length]; exact HL.out.2
            have hol := ht.out (hn := bn) (c1 := c5) (pn := j) (c2 := c6) hlh (by show (opTo min A B A.length).length = j; rw [opTo_length, HAB.out.1]) hc5 hc6 (by omega) (by omega) hbh (hop min (fun u v => by omega))
            have hoh := hu.out (hn := bn) (c1 := c7) (pn := j) (c2 := c8) hlh (by show (opTo max A B A.length).length = j; rw [opTo_length, HAB.out.1]) hc7 hc8 (by omega) (by omega) hbh (hop max (fun u v => by omega))
            have hrA : A.length = m.res.length := by rw [HAB.out.1, HL.out.1]
            have em := HA.out.meet HB.out (l := opTo min A B A.length) (by rw [opTo_length]; exact hrA) (fun k hk => opTo_full (by rw [hrA]; exact hk))
            have ej := HA.out.join HB.out (l := opTo max A B A.length) (by rw [opTo_length]; exact hrA) (fun k hk => opTo_full (by rw [hrA]; exact hk))
            have hE := Even_any ra ba oa (some ⟨g5, 0, none⟩) (some ⟨g6, 0, none⟩) j rc bn bc on oc bn c5 j c6 m _ _ hx.mkt hol
            rw [evenB_of em] at hE
            have HE3 := Lib.hid hE
            have hox := BoxO.mk hm' hoh
            have HEJ := Lib.hid (evenB_of ej)
            have HX := Lib.hid (And.intro hx hox); clear hE em ej hol hoh hop hbh hlh hbdA hbdB hrA hx hox hl ht hm' hu hb ha hbb
            go_wp2_with fail
            refine HE3.out.mono ?_
            rintro e w15 ⟨rfl, hb⟩
            have hx := HX.out.1.step hb
            have ho := HX.out.2.step hb
            clear hv1 hv2 hv3 pl0 pl1
            have hv1 := hx.v.cell (k := 0) rfl
            have hv2 := hx.v.cell (k := 1) rfl
            have hv3 := hx.v.cell (k := 2) rfl
            have pl0 := ho.row.cell (k := 0) rfl
            have pl1 := ho.row.cell (k := 1) rfl
            have hE := Even_any ra ba oa (some ⟨g7, 0, none⟩) (some ⟨g8, 0, none⟩) j rc bn bc on oc bn c7 j c8 m _ _ hx.mkt ho.out
            rw [HEJ.out] at hE
            have HE4 := Lib.hid hE
            have HX2 := Lib.hid hx; clear hE hx ho hb HE3 HX
            go_wp2_with fail
            refine HE4.out.mono ?_
            rintro e w16 ⟨rfl, hb⟩
            have HX3 := Lib.hid (HX2.out.step hb); clear hb
            go_wp2_with fail
            refine (lives15_any w16).mono ?_
            rintro e w17 ⟨rfl, hb⟩
            have HX4 := Lib.hid (HX3.out.step hb); clear hb
            go_wp2_with fail
            go_ret
            exact ⟨rfl, HX4.out.below⟩
  · have hc : mcheck m = false := by simpa using hc
    have HO := Lib.hid (Oof_no ra ba oa rn rc bn bc on oc m _ H0.mkt hc)
    have HV := Lib.hid H0; clear H0 hrl hbl hc
    go_enter Tryz.func6, Tryz.ntmps6
    go_wp2_with fail
    refine HO.out.mono ?_
    rintro e w1 ⟨rfl, hb⟩
    have H1 := Lib.hid (HV.out.step hb); clear hb HO
    go_wp2_with fail
    refine (lives15_any _).mono ?_
    rintro e w2 ⟨rfl, hb⟩
    have H2 := Lib.hid ((H1.out.below.alloc H1.out.below.size _).trans (hb.mono (by have := H1.out.below.size; simp; omega))); clear hb
    go_wp2_with fail
    go_ret
    exact ⟨rfl, H2.out⟩
end Go.Proofs.YtbnjeegicbffeaaGreat
