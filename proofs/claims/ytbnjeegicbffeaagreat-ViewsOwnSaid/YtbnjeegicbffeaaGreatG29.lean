/- The reading of a market: a law's argument. -/
import Derived.Test.YtbnjeegicbffeaaGreatG18
import Derived.Test.YtbnjeegicbffeaaGreatG19
/- The reading of a market: a law's argument. -/
namespace Go.Proofs.YtbnjeegicbffeaaGreat
open Go.ChangeShapes Go.WideShapes Go.ChangeAt Go.RowKit Go.Joins Go.Deep
section
variable {H : Type} {enc : TypeId × Value → H}
set_option maxRecDepth 100000 in
theorem market_read {W : World} {r : Reach} {b0 : Nat} {v : Value} {d : DataW H} {p : List MemPlace} (hv : Value.okWide Tryz.prog W r b0 28 v)
    (h : DataW.Trod enc Tryz.prog W 0 (fun _ => true) true 28 v d p) (hs : Sized 28 d) :
    ∃ (ra ba oa : Option Addr) (rn rc bn bc on oc : Nat) (m : Mkt), v = .agg #[.slice ra rn rc, .slice ba bn bc, .slice oa on oc] ∧ MktAt W ra ba oa rn rc bn bc on oc m ∧ rn * 8 ≤ reachBytes ∧ bn * 24 ≤ reachBytes ∧ on * 8 ≤ reachBytes := by
  obtain ⟨v0, v1, v2, y0, y1, y2, n, rfl, rfl, rfl, h0, h1, h2⟩ := open_agg3 Tryz.underlying28 (by kernel_rfl) (by kernel_rfl) hv h
  obtain ⟨ra, rn, rc, res, rfl, hr, hrn⟩ := ints_read h0 (fun n hn => hs n (by
    simp only [DataW.weights, Tryz.underlying28]
    exact DataW.weights_mem_each (j := 0) rfl rfl n hn))
  obtain ⟨ba, bn, bc, bids, rfl, hb, hbn, _⟩ := rows_read h1 (fun n hn => hs n (by
    simp only [DataW.weights, Tryz.underlying28]
    exact DataW.weights_mem_each (j := 1) rfl rfl n hn))
  obtain ⟨oa, on, oc, ord, rfl, ho, hon⟩ := ints_read h2 (fun n hn => hs n (by
    simp only [DataW.weights, Tryz.underlying28]
    exact DataW.weights_mem_each (j := 2) rfl rfl n hn))
  exact ⟨ra, ba, oa, rn, rc, bn, bc, on, oc, ⟨res, bids, ord⟩, rfl, ⟨hr, hb, ho⟩, hrn, hbn, hon⟩
end
end Go.Proofs.YtbnjeegicbffeaaGreat
