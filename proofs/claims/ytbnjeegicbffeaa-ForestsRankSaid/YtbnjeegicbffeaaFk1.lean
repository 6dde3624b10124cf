/- Walks: the law ForestsRank. -/
import Derived.Test.YtbnjeegicbffeaaFl4
namespace Go.Proofs.Ytbnjeegicbffeaa
open Go.RowKit Sale Tree

theorem wrap_near (x : Int) (h1 : -1000 ≤ x) (h2 : x ≤ 1000) : wrap64 x = x := by unfold wrap64; omega
theorem wrap_add (c x : Int) : wrap64 (c + wrap64 x) = wrap64 (c + x) := by unfold wrap64; omega
theorem wrap_ne (c x : Int) (h0 : 0 < c) (h1 : c ≤ 100) : wrap64 (c + x) ≠ x := by unfold wrap64; omega
theorem wrap_in {x : Int} (h : -9223372036854775808 ≤ x ∧ x ≤ 9223372036854775807) : wrap64 x = x := by unfold wrap64; omega
/-- reasons that are so: all is found, and no rank is higher -/
theorem rank_least {m : Mkt} {o : Outc} {l : List (Int × Int)} (h : checkB m o l = true) (hbd : ∀ p, p ∈ l → (-9223372036854775808 ≤ p.1 ∧ p.1 ≤ 9223372036854775807) ∧ -9223372036854775808 ≤ p.2 ∧ p.2 ≤ 9223372036854775807) :
    fitsB m o = true ∧ l.length = o.prices.length ∧ allB (woodOf m o) = true ∧ ∀ j, j < o.prices.length → ∃ p q, l[j]? = some p ∧ (outL o.prices.length (lv (woodOf m o) o.prices.length))[j]? = some q ∧ q.2 ≤ p.2 := by
  obtain ⟨hf, hlen, hs⟩ := check_says h
  have hN8 : o.prices.length ≤ 8 := by rw [hf.plen]; exact hf.mok.n8
  have hrk : ∀ j, j < (woodOf m o).N → wrap64 ((l.getD j (0, 0)).2) = (l.getD j (0, 0)).2 := fun j hj => by
    have hj' : j < l.length := by rw [hlen]; exact hj
    rw [List.getD_eq_getElem?_getD, List.getElem?_eq_getElem hj', Option.getD_some]
    exact wrap_in (hbd _ (List.getElem_mem hj')).2
  have hl := hs.least wrap_near wrap_add wrap_ne hrk hN8 hf.now
  have ha := all_of (W := woodOf m o) (n := 8) hf.now fun j hj => by obtain ⟨b, r, e, _⟩ := hl j hj; exact ⟨_, e⟩
  refine ⟨by simp only [checkB, Bool.and_eq_true] at h; exact h.1, hlen, ha.1, fun j hj => ?_⟩
  obtain ⟨b, r, e, hle⟩ := hl j hj
  have e2 := ha.2 j hj
  rw [e] at e2
  have hj' : j < l.length := by rw [hlen]; exact hj
  refine ⟨l[j], (b, (r : Int)), List.getElem?_eq_getElem hj', ?_, ?_⟩
  · rw [outL_get hj]
    rw [show lv (woodOf m o) o.prices.length j = some (b, r) from e2]
  · rw [List.getD_eq_getElem?_getD, List.getElem?_eq_getElem hj', Option.getD_some] at hle
    exact hle

/-- the boxes of a market and an outcome -/
structure B2At (w : World) (ra ba oa ha pa : Option Addr) (rn rc bn bc on oc hn hc pn pc : Nat) (m : Mkt) (o : Outc) (wr : World) : Prop where
  v1 : VRow wr w.heap.size 25 [.slice ra rn rc, .slice ba bn bc, .slice oa on oc]
  v2 : VRow wr (w.heap.size + 1) 27 [.slice ha hn hc, .slice pa pn pc]
  mkt : MktAt wr ra ba oa rn rc bn bc on oc m
  out : OutAt wr ha pa hn hc pn pc o
  below : Below w.heap.size w wr
theorem B2At.step {w : World} {ra ba oa ha pa : Option Addr} {rn rc bn bc on oc hn hc pn pc : Nat} {m : Mkt} {o : Outc} {wr wr' : World} (h : B2At w ra ba oa ha pa rn rc bn bc on oc hn hc pn pc m o wr) (hb : Below wr.heap.size wr wr') : B2At w ra ba oa ha pa rn rc bn bc on oc hn hc pn pc m o wr' :=
  ⟨h.v1.stp hb, h.v2.stp hb, h.mkt.below hb (Nat.le_refl _), h.out.below hb (Nat.le_refl _), h.below.trans (hb.mono h.below.size)⟩
theorem B2At.new (w : World) {ra ba oa ha pa : Option Addr} {rn rc bn bc on oc hn hc pn pc : Nat} {m : Mkt} {o : Outc} (hm : MktAt w ra ba oa rn rc bn bc on oc m) (ho : OutAt w ha pa hn hc pn pc o) :
    B2At w ra ba oa ha pa rn rc bn bc on oc hn hc pn pc m o ((w.alloc (.cells #[.slice ra rn rc, .slice ba bn bc, .slice oa on oc] 25)).alloc (.cells #[.slice ha hn hc, .slice pa pn pc] 27)) := by
  have hb : Below w.heap.size w ((w.alloc (.cells #[.slice ra rn rc, .slice ba bn bc, .slice oa on oc] 25)).alloc (.cells #[.slice ha hn hc, .slice pa pn pc] 27)) := ((Below.refl _ w).alloc (Nat.le_refl _) _).alloc (by simp) _
  have h1 := VRow.new w 25 [.slice ra rn rc, .slice ba bn bc, .slice oa on oc]
  have h2 := VRow.new (w.alloc (.cells #[.slice ra rn rc, .slice ba bn bc, .slice oa on oc] 25)) 27 [.slice ha hn hc, .slice pa pn pc]
  rw [show (w.alloc (.cells #[.slice ra rn rc, .slice ba bn bc, .slice oa on oc] 25)).heap.size = w.heap.size + 1 by simp] at h2
  exact ⟨h1.alloc _, h2, hm.below hb (Nat.le_refl _), ho.below hb (Nat.le_refl _), hb⟩

set_option maxRecDepth 100000 in
set_option maxHeartbeats 2000000 in
theorem forestsRank_any (ra ba oa ha pa la : Option Addr) (rn rc bn bc on oc hn hc pn pc ln lc : Nat) (m : Mkt) (o : Outc) (l : List (Int × Int)) (w : World) (hm : MktAt w ra ba oa rn rc bn bc on oc m) (ho : OutAt w ha pa hn hc pn pc o) (hl : Whys w la ln lc l) :
    Calls Try.prog 3 #[.agg #[.slice ra rn rc, .slice ba bn bc, .slice oa on oc], .agg #[.slice ha hn hc, .slice pa pn pc], .slice la ln lc] w fun e w' => e = .returned (.bool true) ∧ Below w.heap.size w w' := by
  have HB0 := Lib.hid (B2At.new w hm ho)
  have HL0 := Lib.hid (hl.below HB0.out.below (Nat.le_refl _))
  clear hm ho hl
  go_enter Try.func3, Try.ntmps3
  go_wp2_with fail
  refine (fcheck_any ra ba oa ha pa la rn rc bn bc on oc hn hc pn pc ln lc m o l _ HB0.out.mkt HB0.out.out HL0.out).mono ?_
  rintro e w1 ⟨rfl, hb⟩
  have HB1 := Lib.hid (HB0.out.step hb)
  have HL1 := Lib.hid (HL0.out.below hb (Nat.le_refl _))
  clear hb HB0 HL0
  have p0 := HB1.out.v1.cell (k := 0) rfl
  have p1 := HB1.out.v1.cell (k := 1) rfl
  have p2 := HB1.out.v1.cell (k := 2) rfl
  have q0 := HB1.out.v2.cell (k := 0) rfl
  have q1 := HB1.out.v2.cell (k := 1) rfl
  cases hck : checkB m o l with
  | false =>
    clear hck
    go_wp2_with fail
    refine (lives16_any w1).mono ?_
    rintro e w2 ⟨rfl, hb⟩
    have HB2 := Lib.hid (HB1.out.step hb); clear hb
    go_wp2_with fail
    go_ret
    exact ⟨rfl, HB2.out.below⟩
  | true =>
    obtain ⟨hfit, hlen, hall, hrk⟩ := rank_least hck HL1.out.bd
    have HFIT := Lib.hid hfit; clear hfit
    have HALL := Lib.hid hall; clear hall
    have HRK := Lib.hid hrk; clear hrk
    have HLEN := Lib.hid (hlen.symm.trans HL1.out.len); clear hlen hck
    go_wp2_with fail
    refine (fof_any ra ba oa ha pa rn rc bn bc on oc hn hc pn pc m o w1 HB1.out.mkt HB1.out.out HFIT.out).mono ?_
    intro e w2 hf
    obtain ⟨hb, (⟨_, xa, xn, xc, rfl, hx⟩ | ⟨hno, _⟩)⟩ := hf
    case inr => rw [HALL.out] at hno; cases hno
    have hxn : xn = ln := by rw [← hx.len, outL_length]; exact HLEN.out
    subst hxn
    have HB2 := Lib.hid (HB1.out.step hb)
    have HL2 := Lib.hid (HL1.out.below hb (Nat.le_refl _))
    have HX2 := Lib.hid hx
    have hbig := hx.big
    clear hb HB1 HL1 hx p0 p1 p2 q0 q1
    go_wp2_with fail
    go_loopg [9] xn (fun g' s9 wr => ∃ j : Nat, j + g' = xn ∧ s9 = .int .i64 j ∧ Below w2.heap.size w2 wr)
    case atStart => exact ⟨0, by omega, rfl, Below.refl _ _⟩
    case round =>
      obtain ⟨j, hj, rfl, hb⟩ := hrel
      have HJ := Lib.hid hj; clear hj
      by_cases hlt : j < xn
      · obtain ⟨p, q, hp, hq, hle⟩ := HRK.out j (by rw [HLEN.out]; exact hlt)
        obtain ⟨xb, xo, rfl⟩ := HX2.out.addr (by omega)
        obtain ⟨lb, lo, rfl⟩ := HL2.out.addr (by omega)
        have cx := ((HX2.out.below hb (Nat.le_refl _)).cell xb xo rfl j q hq).2
        have cl := ((HL2.out.below hb (Nat.le_refl _)).cell lb lo rfl j p hp).2
        have i1 : (j : Int) < (xn : Int) := by omega
        have e1 : decide (p.2 < q.2) = false := by simpa using hle
        have HB := Lib.hid hb; clear hb hp hq hle
        go_wp2_with fail
        go_quiet (fail)
        go_wp2_with fail
        go_roundg (gk - 1)
        case measure => have := HJ.out; omega
        case rel => exact ⟨j + 1, by have := HJ.out; omega, by go_num, below_drewN HB.out _⟩
      · have HB := Lib.hid hb; clear hb
        go_wp2_with fail
        refine (lives16_any wr).mono ?_
        rintro e w3 ⟨rfl, hb3⟩
        have HB3 := Lib.hid (HB2.out.step (HB.out.trans (hb3.mono HB.out.size))); clear hb3
        go_wp2_with fail
        go_ret
        exact ⟨rfl, HB3.out.below⟩
end Go.Proofs.Ytbnjeegicbffeaa
