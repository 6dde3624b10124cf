/- Lists of small bytes in memory. The reading of structs that lie within structs, and of bytes: a law's argument. The reading of a record: a law's argument. The reading of what the laws of views are told: a law's argument. Reading of what the views' law is given, with its sizes. -/
import Derived.Test.YtkddkkcfpnndlaaGreatDoorVq00
import Derived.Test.YtkddkkcfpnndlaaGreatDoorVq12
import Derived.Test.YtkddkkcfpnndlaaGreatDoorVq16
import Derived.Test.YtkddkkcfpnndlaaGreatDoorVq47
import Derived.Deep.SlicePairs
namespace Go.Proofs.YtkddkkcfpnndlaaGreatDoor
open Go.RowKit

/-- the slice value 'a n c' reads as the bytes xs -/
structure U8s (w : World) (a : Option Addr) (n c : Nat) (xs : List Int) : Prop where
  len : xs.length = n
  cap : n ≤ c
  big : n ≤ 4611686018427387904
  addr : 0 < n → ∃ b o, a = some ⟨b, o, none⟩
  cell : ∀ b o, a = some ⟨b, o, none⟩ → ∀ k x, xs[k]? = some x → w.cell? ⟨b, o + k, none⟩ = some (.int .u8 x)
  bd : ∀ x, x ∈ xs → 0 ≤ x ∧ x ≤ 255
theorem U8s.get {w : World} {a : Option Addr} {n c : Nat} {xs : List Int} (h : U8s w a n c xs) {k : Nat} (hk : k < n) : ∃ x, xs[k]? = some x ∧ 0 ≤ x ∧ x ≤ 255 :=
  ⟨xs[k]'(by have := h.len; omega), by simp, h.bd _ (List.getElem_mem _)⟩
theorem U8s.below {w w' : World} {a : Option Addr} {n c : Nat} {xs : List Int} (h : U8s w a n c xs) {B : Nat} (hb : Below B w w') (hB : w.heap.size ≤ B) : U8s w' a n c xs :=
  ⟨h.len, h.cap, h.big, h.addr, fun b o e k x hx => by
    have hc := h.cell b o e k x hx
    have := block_lt_of_cell hc
    rw [hb.cell (p := ⟨b, o + k, none⟩) (by simp at this ⊢; omega)]; exact hc, h.bd⟩
theorem U8s.none (w : World) : U8s w none 0 0 [] := ⟨rfl, Nat.le_refl _, by omega, fun h => absurd h (by omega), fun _ _ _ k x h => by simp at h, fun x h => by simp at h⟩
end Go.Proofs.YtkddkkcfpnndlaaGreatDoor

namespace Go.Proofs.YtkddkkcfpnndlaaGreatDoor
open Go.ChangeShapes Go.WideShapes Go.ChangeAt Go.RowKit Go.Joins Go.Deep

theorem Tryz.cellsIntssL : Tryz.prog.cellsOf 22 = 1 := by kernel_rfl
theorem Tryz.cellsMarketL : Tryz.prog.cellsOf 57 = 3 := by kernel_rfl
theorem Tryz.cellsOutcomeL : Tryz.prog.cellsOf 70 = 2 := by kernel_rfl

section
variable {H : Type} {enc : TypeId × Value → H}

theorem wf_u8 {n : Int} (h : (Lit.int .u8 n).wf = true) : 0 ≤ n ∧ n ≤ 255 := by
  simp only [Lit.wf, Bool.and_eq_true, decide_eq_true_eq, show IntKind.u8.min = 0 by decide, show IntKind.u8.max = 255 by decide] at h
  exact h
set_option maxRecDepth 100000 in
theorem market_trod {W : World} {fuel : Nat} {c0 c1 c2 : Value} {y : DataW H × List MemPlace} (h : DataW.trod enc Tryz.prog W 0 (fun _ => true) true fuel 57 [c0, c1, c2] = some y) (hs : Sized 57 y.1) :
    ∃ (ra ba oa : Option Addr) (rn rc bn bc on oc : Nat) (m : Mkt), c0 = .slice ra rn rc ∧ c1 = .slice ba bn bc ∧ c2 = .slice oa on oc ∧ MktAt W ra ba oa rn rc bn bc on oc m ∧ rn * 8 ≤ reachBytes ∧ bn * 24 ≤ reachBytes ∧ on * 8 ≤ reachBytes ∧ ∀ xs, xs ∈ m.bids → xs.length * 8 ≤ reachBytes := by
  obtain ⟨y0, y1, y2, n, rfl, _, h0, h1, h2⟩ := trod_struct3 Tryz.underlying57 h
  have h0 : DataW.trod enc Tryz.prog W 0 (fun _ => true) true n 25 [c0] = some y0 := by simpa [Tryz.cellsIntsL] using h0
  have h1 : DataW.trod enc Tryz.prog W 0 (fun _ => true) true n 22 [c1] = some y1 := by simpa [Tryz.cellsIntssL] using h1
  have h2 : DataW.trod enc Tryz.prog W 0 (fun _ => true) true n 25 [c2] = some y2 := by simpa [Tryz.cellsIntsL] using h2
  obtain ⟨ra, rn, rc, res, rfl, hr, hrn⟩ := ints_read h0 (fun n hn => hs n (by
    simp only [DataW.weights, Tryz.underlying57]
    exact DataW.weights_mem_each (j := 0) rfl rfl n hn))
  obtain ⟨ba, bn, bc, bids, rfl, hb, hbn, hbx⟩ := rows_read h1 (fun n hn => hs n (by
    simp only [DataW.weights, Tryz.underlying57]
    exact DataW.weights_mem_each (j := 1) rfl rfl n hn))
  obtain ⟨oa, on, oc, ord, rfl, ho, hon⟩ := ints_read h2 (fun n hn => hs n (by
    simp only [DataW.weights, Tryz.underlying57]
    exact DataW.weights_mem_each (j := 2) rfl rfl n hn))
  exact ⟨ra, ba, oa, rn, rc, bn, bc, on, oc, ⟨res, bids, ord⟩, rfl, rfl, rfl, ⟨hr, hb, ho⟩, hrn, hbn, hon, hbx⟩

set_option maxRecDepth 100000 in
theorem outcome_trod {W : World} {fuel : Nat} {c0 c1 : Value} {y : DataW H × List MemPlace} (h : DataW.trod enc Tryz.prog W 0 (fun _ => true) true fuel 70 [c0, c1] = some y) (hs : Sized 70 y.1) :
    ∃ (ha pa : Option Addr) (hn hc pn pc : Nat) (o : Outc), c0 = .slice ha hn hc ∧ c1 = .slice pa pn pc ∧ OutAt W ha pa hn hc pn pc o ∧ hn * 8 ≤ reachBytes ∧ pn * 8 ≤ reachBytes := by
  obtain ⟨y0, y1, n, rfl, _, h0, h1⟩ := trod_struct2 Tryz.underlying70 h
  have h0 : DataW.trod enc Tryz.prog W 0 (fun _ => true) true n 25 [c0] = some y0 := by simpa [Tryz.cellsIntsL] using h0
  have h1 : DataW.trod enc Tryz.prog W 0 (fun _ => true) true n 25 [c1] = some y1 := by simpa [Tryz.cellsIntsL] using h1
  obtain ⟨ha, hn, hc, has, rfl, hr, hrn⟩ := ints_read h0 (fun n hn => hs n (by
    simp only [DataW.weights, Tryz.underlying70]
    exact DataW.weights_mem_each (j := 0) rfl rfl n hn))
  obtain ⟨pa, pn, pc, prices, rfl, ho, hon⟩ := ints_read h1 (fun n hn => hs n (by
    simp only [DataW.weights, Tryz.underlying70]
    exact DataW.weights_mem_each (j := 1) rfl rfl n hn))
  exact ⟨ha, pa, hn, hc, pn, pc, ⟨has, prices⟩, rfl, rfl, ⟨hr, ho⟩, hrn, hon⟩
end
end Go.Proofs.YtkddkkcfpnndlaaGreatDoor

namespace Go.Proofs.YtkddkkcfpnndlaaGreatDoor
open Go.ChangeShapes Go.WideShapes Go.ChangeAt Go.RowKit Go.Joins Go.Deep
section
variable {H : Type} {enc : TypeId × Value → H}
theorem Tryz.cellsRecordL : Tryz.prog.cellsOf 68 = 3 := by kernel_rfl
theorem Tryz.cellsU32L : Tryz.prog.cellsOf 66 = 1 := by kernel_rfl
theorem Tryz.cellsBoolL : Tryz.prog.cellsOf 4 = 1 := by kernel_rfl
set_option maxRecDepth 100000 in
theorem record_trod {W : World} {fuel : Nat} {c0 c1 c2 : Value} {y : DataW H × List MemPlace} (h : DataW.trod enc Tryz.prog W 0 (fun _ => true) true fuel 68 [c0, c1, c2] = some y) (hs : Sized 68 y.1) :
    ∃ (seq : Int) (st : Bool) (ra : Option Addr) (rn rc : Nat) (bid : List Int), c0 = .int .u32 seq ∧ c1 = .bool st ∧ c2 = .slice ra rn rc ∧ Ints W ra rn rc bid ∧ rn * 8 ≤ reachBytes := by
  obtain ⟨y0, y1, y2, n, rfl, _, h0, h1, h2⟩ := trod_struct3 Tryz.underlying68 h
  have g0 : DataW.trod enc Tryz.prog W 0 (fun _ => true) true n 66 [c0] = some y0 := by simpa [Tryz.cellsU32L] using h0
  have g1 : DataW.trod enc Tryz.prog W 0 (fun _ => true) true n 4 [c1] = some y1 := by simpa [Tryz.cellsBoolL] using h1
  have g2 : DataW.trod enc Tryz.prog W 0 (fun _ => true) true n 25 [c2] = some y2 := by simpa [Tryz.cellsIntsL] using h2
  obtain ⟨seq, hc0, _, _⟩ := DataW.trod_int Tryz.underlying66 g0
  obtain rfl : c0 = .int .u32 seq := by simpa using hc0
  obtain ⟨st, hc1, _⟩ := DataW.trod_bool Tryz.underlying4 g1
  obtain rfl : c1 = .bool st := by simpa using hc1
  obtain ⟨ra, rn, rc, bid, rfl, hr, hrn⟩ := ints_read g2 (fun n hn => hs n (by
    simp only [DataW.weights, Tryz.underlying68]
    exact DataW.weights_mem_each (j := 2) rfl rfl n hn))
  exact ⟨seq, st, ra, rn, rc, bid, rfl, rfl, rfl, hr, hrn⟩
end
end Go.Proofs.YtkddkkcfpnndlaaGreatDoor

namespace Go.Proofs.YtkddkkcfpnndlaaGreatDoor
open Go.ChangeShapes Go.WideShapes Go.ChangeAt Go.RowKit Go.Joins Go.Deep

theorem array11 {α : Type} {cs : Array α} (h : cs.size = 11) : ∃ c0 c1 c2 c3 c4 c5 c6 c7 c8 c9 c10, cs = #[c0, c1, c2, c3, c4, c5, c6, c7, c8, c9, c10] := by
  obtain ⟨l⟩ := cs
  match l, h with
  | [c0, c1, c2, c3, c4, c5, c6, c7, c8, c9, c10], _ => exact ⟨c0, c1, c2, c3, c4, c5, c6, c7, c8, c9, c10, rfl⟩
theorem Tryz.cellsPhaseL : Tryz.prog.cellsOf 71 = 1 := by kernel_rfl
theorem Tryz.cellsU64L : Tryz.prog.cellsOf 72 = 1 := by kernel_rfl
section
variable {H : Type} {enc : TypeId × Value → H} {P : Program} {w : World} {base : Nat} {spare : Nat → Bool} {held : Bool}
theorem trod_struct6 {t : TypeId} {f0 f1 f2 f3 f4 f5 : Field} {fuel : Nat} {cs : List Value} {x : DataW H × List MemPlace} (ht : P.underlying t = some (.struct #[f0, f1, f2, f3, f4, f5])) (h : DataW.trod enc P w base spare held fuel t cs = some x) :
    ∃ y0 y1 y2 y3 y4 y5 n, x.1 = .agg [y0.1, y1.1, y2.1, y3.1, y4.1, y5.1] ∧ DataW.trod enc P w base spare held n f0.type ((cs.drop f0.offset).take (P.cellsOf f0.type)) = some y0 ∧
      DataW.trod enc P w base spare held n f1.type ((cs.drop f1.offset).take (P.cellsOf f1.type)) = some y1 ∧ DataW.trod enc P w base spare held n f2.type ((cs.drop f2.offset).take (P.cellsOf f2.type)) = some y2 ∧
      DataW.trod enc P w base spare held n f3.type ((cs.drop f3.offset).take (P.cellsOf f3.type)) = some y3 ∧ DataW.trod enc P w base spare held n f4.type ((cs.drop f4.offset).take (P.cellsOf f4.type)) = some y4 ∧
      DataW.trod enc P w base spare held n f5.type ((cs.drop f5.offset).take (P.cellsOf f5.type)) = some y5 := by
  obtain ⟨xs, n, _, rfl, hl, hlen, hf⟩ := DataW.trod_struct ht h
  match xs, hlen with
  | [y0, y1, y2, y3, y4, y5], _ => exact ⟨y0, y1, y2, y3, y4, y5, n, by simp, by simpa using hf 0 f0 rfl, by simpa using hf 1 f1 rfl, by simpa using hf 2 f2 rfl, by simpa using hf 3 f3 rfl, by simpa using hf 4 f4 rfl, by simpa using hf 5 f5 rfl⟩
end
section
variable {H : Type} {enc : TypeId × Value → H}
end
end Go.Proofs.YtkddkkcfpnndlaaGreatDoor

namespace Go.Proofs.YtkddkkcfpnndlaaGreatDoor
open Go.ChangeShapes Go.WideShapes Go.ChangeAt Go.RowKit Go.Joins Go.Deep

section
variable {H : Type} {enc : TypeId × Value → H}
set_option maxRecDepth 100000 in
theorem seen_read2 {W : World} {r : Reach} {b0 : Nat} {v : Value} {d : DataW H} {p : List MemPlace} (hv : Value.okWide Tryz.prog W r b0 74 v)
    (h : DataW.Trod enc Tryz.prog W 0 (fun _ => true) true 74 v d p) (hs : Sized 74 d) :
    ∃ (seq : Int) (st : Bool) (ea : Option Addr) (en ec : Nat) (bid : List Int) (ra ba oa : Option Addr) (rn rc bn bc on oc : Nat) (m : Mkt) (ha pa : Option Addr) (hn hc pn pc : Nat) (o : Outc) (i ph now : Int),
      v = .agg #[.int .u32 seq, .bool st, .slice ea en ec, .slice ra rn rc, .slice ba bn bc, .slice oa on oc, .slice ha hn hc, .slice pa pn pc, .int .i64 i, .int .u8 ph, .int .u64 now] ∧
      Ints W ea en ec bid ∧ en * 8 ≤ reachBytes ∧ MktAt W ra ba oa rn rc bn bc on oc m ∧ Short rn bn on m ∧ OutAt W ha pa hn hc pn pc o ∧ hn * 8 ≤ reachBytes ∧ pn * 8 ≤ reachBytes ∧ (-9223372036854775808 ≤ i ∧ i ≤ 9223372036854775807) ∧ (0 ≤ ph ∧ ph ≤ 255) ∧ (0 ≤ now ∧ now ≤ 18446744073709551615) := by
  obtain ⟨cs, rfl, hsz⟩ := okWide_struct Tryz.underlying74 hv
  obtain ⟨c0, c1, c2, c3, c4, c5, c6, c7, c8, c9, c10, rfl⟩ := array11 (hsz.trans (by kernel_rfl))
  obtain ⟨fuel, hf⟩ := h
  obtain ⟨y0, y1, y2, y3, y4, y5, n, hx, h0, h1, h2, h3, h4, h5⟩ := trod_struct6 Tryz.underlying74 hf
  simp only at hx
  subst hx
  have g0 : DataW.trod enc Tryz.prog W 0 (fun _ => true) true n 68 [c0, c1, c2] = some y0 := by simpa [Value.cells, Tryz.cellsRecordL] using h0
  have g1 : DataW.trod enc Tryz.prog W 0 (fun _ => true) true n 57 [c3, c4, c5] = some y1 := by simpa [Value.cells, Tryz.cellsMarketL] using h1
  have g2 : DataW.trod enc Tryz.prog W 0 (fun _ => true) true n 70 [c6, c7] = some y2 := by simpa [Value.cells, Tryz.cellsOutcomeL] using h2
  have g3 : DataW.trod enc Tryz.prog W 0 (fun _ => true) true n 3 [c8] = some y3 := by simpa [Value.cells, Tryz.cellsIntL] using h3
  have g4 : DataW.trod enc Tryz.prog W 0 (fun _ => true) true n 71 [c9] = some y4 := by simpa [Value.cells, Tryz.cellsPhaseL] using h4
  have g5 : DataW.trod enc Tryz.prog W 0 (fun _ => true) true n 72 [c10] = some y5 := by simpa [Value.cells, Tryz.cellsU64L] using h5
  obtain ⟨seq, st, ea, en, ec, bid, rfl, rfl, rfl, he, hen⟩ := record_trod g0 (fun n hn => hs n (by
    simp only [DataW.weights, Tryz.underlying74]
    exact DataW.weights_mem_each (j := 0) rfl rfl n hn))
  obtain ⟨ra, ba, oa, rn, rc, bn, bc, on, oc, m, rfl, rfl, rfl, hm, q1, q2, q3, q4⟩ := market_trod g1 (fun n hn => hs n (by
    simp only [DataW.weights, Tryz.underlying74]
    exact DataW.weights_mem_each (j := 1) rfl rfl n hn))
  obtain ⟨ha, pa, hn, hc, pn, pc, o, rfl, rfl, ho, q5, q6⟩ := outcome_trod g2 (fun n hn => hs n (by
    simp only [DataW.weights, Tryz.underlying74]
    exact DataW.weights_mem_each (j := 2) rfl rfl n hn))
  obtain ⟨i, hc3, _, hw3⟩ := DataW.trod_int Tryz.underlying3 g3
  obtain rfl : c8 = .int .i64 i := by simpa using hc3
  obtain ⟨ph, hc4, _, hw4⟩ := DataW.trod_int Tryz.underlying71 g4
  obtain rfl : c9 = .int .u8 ph := by simpa using hc4
  obtain ⟨now, hc5, _, hw5⟩ := DataW.trod_int Tryz.underlying72 g5
  obtain rfl : c10 = .int .u64 now := by simpa using hc5
  have hw5' : 0 ≤ now ∧ now ≤ 18446744073709551615 := by
    simp only [Lit.wf, Bool.and_eq_true, decide_eq_true_eq, show IntKind.u64.min = 0 by decide, show IntKind.u64.max = 18446744073709551615 by decide] at hw5
    exact hw5
  exact ⟨seq, st, ea, en, ec, bid, ra, ba, oa, rn, rc, bn, bc, on, oc, m, ha, pa, hn, hc, pn, pc, o, i, ph, now, rfl, he, hen, hm, ⟨by have := reachBytes_lt; omega, by have := reachBytes_lt; omega, by have := reachBytes_lt; omega, fun xs hx => by have := reachBytes_lt; have := q4 xs hx; omega⟩, ho, q5, q6, wf_i64 hw3, wf_u8 hw4, hw5'⟩
end
end Go.Proofs.YtkddkkcfpnndlaaGreatDoor
