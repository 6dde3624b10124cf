/- The reading of structs that lie within structs, and of bytes: a law's argument. The reading of a market and two lists of bytes: the argument of the law OutcomesMeet. -/
import Derived.Test.YtbnjeegicbffeaaGreatG29
import Derived.Test.YtbnjeegicbffeaaGreatG31
import Derived.Test.YtbnjeegicbffeaaGreatG44
/- The reading of structs that lie within structs, and of bytes: a law's argument. -/
namespace Go.Proofs.YtbnjeegicbffeaaGreat
open Go.ChangeShapes Go.WideShapes Go.ChangeAt Go.RowKit Go.Joins Go.Deep

theorem array5 {α : Type} {cs : Array α} (h : cs.size = 5) : ∃ c0 c1 c2 c3 c4, cs = #[c0, c1, c2, c3, c4] := by
  obtain ⟨l⟩ := cs
  match l, h with
  | [c0, c1, c2, c3, c4], _ => exact ⟨c0, c1, c2, c3, c4, rfl⟩
theorem Tryz.cellsIntssL : Tryz.prog.cellsOf 26 = 1 := by kernel_rfl
theorem Tryz.cellsU8L : Tryz.prog.cellsOf 5 = 1 := by kernel_rfl
theorem Tryz.bytesU8L : Tryz.prog.bytesOf 5 = 1 := by kernel_rfl
theorem Tryz.cellsU8sL : Tryz.prog.cellsOf 36 = 1 := by kernel_rfl
theorem Tryz.cellsMarketL : Tryz.prog.cellsOf 28 = 3 := by kernel_rfl
theorem Tryz.cellsOutcomeL : Tryz.prog.cellsOf 30 = 2 := by kernel_rfl

section
variable {H : Type} {enc : TypeId × Value → H}

theorem wf_u8 {n : Int} (h : (Lit.int .u8 n).wf = true) : 0 ≤ n ∧ n ≤ 255 := by
  simp only [Lit.wf, Bool.and_eq_true, decide_eq_true_eq, show IntKind.u8.min = 0 by decide, show IntKind.u8.max = 255 by decide] at h
  exact h
set_option maxRecDepth 100000 in
theorem u8s_read {w : World} {fuel : Nat} {v : Value} {x : DataW H × List MemPlace} (h : DataW.trod enc Tryz.prog w 0 (fun _ => true) true fuel 36 [v] = some x) (hs : Sized 36 x.1) :
    ∃ a n c xs, v = .slice a n c ∧ U8s w a n c xs ∧ n ≤ reachBytes := by
  rcases open_ints Tryz.underlying36 Tryz.underlying5 Tryz.cellsU8L h with ⟨hcs, hx⟩ | ⟨a, len, cap, zs, hcs, hb, hl, hm, hz, rfl, hcell, hwz⟩
  · obtain rfl : v = .slice none 0 0 := by simpa using hcs
    exact ⟨none, 0, 0, [], rfl, U8s.none _, by simp⟩
  · obtain rfl : v = .slice (some a) len cap := by simpa using hcs
    simp only [if_true] at hz
    have hw := hs ((len + (cap - len)) * 1) (by simp [DataW.weights, Tryz.underlying36, Tryz.bytesU8L, lits, hz, Nat.min_eq_left hl])
    have hr := reachBytes_lt
    have hn8 : len ≤ reachBytes := by omega
    refine ⟨some a, len, cap, zs.take len, rfl, ⟨by simp [hz, Nat.min_eq_left hl], hl, by omega, fun h0 => ?_, fun b o e k y hy => ?_, fun y hy => wf_u8 (hwz y (List.mem_of_mem_take hy))⟩, hn8⟩
    · exact ⟨_, _, by rw [← add_of_cell (hcell 0 (by omega))]⟩
    · cases e
      have hk : k < (zs.take len).length := (List.getElem?_eq_some_iff.1 hy).1
      have hk2 : k < zs.length := by simp at hk; omega
      have hc := hcell k hk2
      have e1 : (Addr.mk b o none).add k = ⟨b, o + k, none⟩ := by
        unfold Addr.add; split
        · subst k; rfl
        · rfl
      rw [e1] at hc
      rw [hc]
      rw [List.getElem?_take_of_lt (by simp at hk; omega)] at hy
      simp [List.getD, hy]

set_option maxRecDepth 100000 in
theorem market_trod {W : World} {fuel : Nat} {c0 c1 c2 : Value} {y : DataW H × List MemPlace} (h : DataW.trod enc Tryz.prog W 0 (fun _ => true) true fuel 28 [c0, c1, c2] = some y) (hs : Sized 28 y.1) :
    ∃ (ra ba oa : Option Addr) (rn rc bn bc on oc : Nat) (m : Mkt), c0 = .slice ra rn rc ∧ c1 = .slice ba bn bc ∧ c2 = .slice oa on oc ∧ MktAt W ra ba oa rn rc bn bc on oc m ∧ rn * 8 ≤ reachBytes ∧ bn * 24 ≤ reachBytes ∧ on * 8 ≤ reachBytes ∧ ∀ xs, xs ∈ m.bids → xs.length * 8 ≤ reachBytes := by
  obtain ⟨y0, y1, y2, n, rfl, _, h0, h1, h2⟩ := trod_struct3 Tryz.underlying28 h
  have h0 : DataW.trod enc Tryz.prog W 0 (fun _ => true) true n 23 [c0] = some y0 := by simpa [Tryz.cellsIntsL] using h0
  have h1 : DataW.trod enc Tryz.prog W 0 (fun _ => true) true n 26 [c1] = some y1 := by simpa [Tryz.cellsIntssL] using h1
  have h2 : DataW.trod enc Tryz.prog W 0 (fun _ => true) true n 23 [c2] = some y2 := by simpa [Tryz.cellsIntsL] using h2
  obtain ⟨ra, rn, rc, res, rfl, hr, hrn⟩ := ints_read h0 (fun n hn => hs n (by
    simp only [DataW.weights, Tryz.underlying28]
    exact DataW.weights_mem_each (j := 0) rfl rfl n hn))
  obtain ⟨ba, bn, bc, bids, rfl, hb, hbn, hbx⟩ := rows_read h1 (fun n hn => hs n (by
    simp only [DataW.weights, Tryz.underlying28]
    exact DataW.weights_mem_each (j := 1) rfl rfl n hn))
  obtain ⟨oa, on, oc, ord, rfl, ho, hon⟩ := ints_read h2 (fun n hn => hs n (by
    simp only [DataW.weights, Tryz.underlying28]
    exact DataW.weights_mem_each (j := 2) rfl rfl n hn))
  exact ⟨ra, ba, oa, rn, rc, bn, bc, on, oc, ⟨res, bids, ord⟩, rfl, rfl, rfl, ⟨hr, hb, ho⟩, hrn, hbn, hon, hbx⟩

set_option maxRecDepth 100000 in
theorem outcome_trod {W : World} {fuel : Nat} {c0 c1 : Value} {y : DataW H × List MemPlace} (h : DataW.trod enc Tryz.prog W 0 (fun _ => true) true fuel 30 [c0, c1] = some y) (hs : Sized 30 y.1) :
    ∃ (ha pa : Option Addr) (hn hc pn pc : Nat) (o : Outc), c0 = .slice ha hn hc ∧ c1 = .slice pa pn pc ∧ OutAt W ha pa hn hc pn pc o ∧ hn * 8 ≤ reachBytes ∧ pn * 8 ≤ reachBytes := by
  obtain ⟨y0, y1, n, rfl, _, h0, h1⟩ := trod_struct2 Tryz.underlying30 h
  have h0 : DataW.trod enc Tryz.prog W 0 (fun _ => true) true n 23 [c0] = some y0 := by simpa [Tryz.cellsIntsL] using h0
  have h1 : DataW.trod enc Tryz.prog W 0 (fun _ => true) true n 23 [c1] = some y1 := by simpa [Tryz.cellsIntsL] using h1
  obtain ⟨ha, hn, hc, has, rfl, hr, hrn⟩ := ints_read h0 (fun n hn => hs n (by
    simp only [DataW.weights, Tryz.underlying30]
    exact DataW.weights_mem_each (j := 0) rfl rfl n hn))
  obtain ⟨pa, pn, pc, prices, rfl, ho, hon⟩ := ints_read h1 (fun n hn => hs n (by
    simp only [DataW.weights, Tryz.underlying30]
    exact DataW.weights_mem_each (j := 1) rfl rfl n hn))
  exact ⟨ha, pa, hn, hc, pn, pc, ⟨has, prices⟩, rfl, rfl, ⟨hr, ho⟩, hrn, hon⟩
end
end Go.Proofs.YtbnjeegicbffeaaGreat

/- The reading of a market and two lists of bytes: the argument of the law OutcomesMeet. -/
namespace Go.Proofs.YtbnjeegicbffeaaGreat
open Go.ChangeShapes Go.WideShapes Go.ChangeAt Go.RowKit Go.Joins Go.Deep
section
variable {H : Type} {enc : TypeId × Value → H}
set_option maxRecDepth 100000 in
theorem two_read {W : World} {r : Reach} {b0 : Nat} {v : Value} {d : DataW H} {p : List MemPlace} (hv : Value.okWide Tryz.prog W r b0 57 v)
    (h : DataW.Trod enc Tryz.prog W 0 (fun _ => true) true 57 v d p) (hs : Sized 57 d) :
    ∃ (ra ba oa xa ya : Option Addr) (rn rc bn bc on oc xn xc yn yc : Nat) (m : Mkt) (xs ys : List Int), v = .agg #[.slice ra rn rc, .slice ba bn bc, .slice oa on oc, .slice xa xn xc, .slice ya yn yc] ∧ MktAt W ra ba oa rn rc bn bc on oc m ∧ U8s W xa xn xc xs ∧ U8s W ya yn yc ys := by
  obtain ⟨cs, rfl, hsz⟩ := okWide_struct Tryz.underlying57 hv
  obtain ⟨c0, c1, c2, c3, c4, rfl⟩ := array5 (hsz.trans (by kernel_rfl))
  obtain ⟨fuel, hf⟩ := h
  obtain ⟨y0, y1, y2, n, hx, _, h0, h1, h2⟩ := trod_struct3 Tryz.underlying57 hf
  simp only [Prod.mk.injEq] at hx
  obtain ⟨rfl, rfl⟩ := hx
  have h0 : DataW.trod enc Tryz.prog W 0 (fun _ => true) true n 28 [c0, c1, c2] = some y0 := by simpa [Value.cells, Tryz.cellsMarketL] using h0
  have h1 : DataW.trod enc Tryz.prog W 0 (fun _ => true) true n 36 [c3] = some y1 := by simpa [Value.cells, Tryz.cellsU8sL] using h1
  have h2 : DataW.trod enc Tryz.prog W 0 (fun _ => true) true n 36 [c4] = some y2 := by simpa [Value.cells, Tryz.cellsU8sL] using h2
  obtain ⟨ra, ba, oa, rn, rc, bn, bc, on, oc, m, rfl, rfl, rfl, hm, _⟩ := market_trod h0 (fun n hn => hs n (by
    simp only [DataW.weights, Tryz.underlying57]
    exact DataW.weights_mem_each (j := 0) rfl rfl n hn))
  obtain ⟨xa, xn, xc, xs, rfl, hx, _⟩ := u8s_read h1 (fun n hn => hs n (by
    simp only [DataW.weights, Tryz.underlying57]
    exact DataW.weights_mem_each (j := 1) rfl rfl n hn))
  obtain ⟨ya, yn, yc, ys, rfl, hy, _⟩ := u8s_read h2 (fun n hn => hs n (by
    simp only [DataW.weights, Tryz.underlying57]
    exact DataW.weights_mem_each (j := 2) rfl rfl n hn))
  exact ⟨ra, ba, oa, xa, ya, rn, rc, bn, bc, on, oc, xn, xc, yn, yc, m, xs, ys, rfl, hm, hx, hy⟩
end
end Go.Proofs.YtbnjeegicbffeaaGreat
