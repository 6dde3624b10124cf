/- The reading of an outcome, and of reasons: a law's arguments. -/
import Derived.Test.YtkddkkcfpnndlaaDoorFo11
import Derived.Test.YtkddkkcfpnndlaaDoorFo16
import Derived.Test.YtkddkkcfpnndlaaDoorFo20
import Derived.Deep.SlicePairs
namespace Go.Proofs.YtkddkkcfpnndlaaDoor
open Go.ChangeShapes Go.WideShapes Go.ChangeAt Go.RowKit Go.Joins Go.Deep
section
variable {H : Type} {enc : TypeId × Value → H}
set_option maxRecDepth 100000 in
theorem outcome_read {W : World} {r : Reach} {b0 : Nat} {v : Value} {d : DataW H} {p : List MemPlace} (hv : Value.okWide Tryd.prog W r b0 27 v)
    (h : DataW.Trod enc Tryd.prog W 0 (fun _ => true) true 27 v d p) (hs : Sized 27 d) :
    ∃ (ha pa : Option Addr) (hn hc pn pc : Nat) (o : Outc), v = .agg #[.slice ha hn hc, .slice pa pn pc] ∧ OutAt W ha pa hn hc pn pc o ∧ hn * 8 ≤ reachBytes ∧ pn * 8 ≤ reachBytes := by
  obtain ⟨v0, v1, y0, y1, n, rfl, rfl, rfl, h0, h1⟩ := open_agg2 Tryd.underlying27 (by kernel_rfl) (by kernel_rfl) hv h
  obtain ⟨ha, hn, hc, has, rfl, hr, hrn⟩ := ints_read h0 (fun n hn => hs n (by
    simp only [DataW.weights, Tryd.underlying27]
    exact DataW.weights_mem_each (j := 0) rfl rfl n hn))
  obtain ⟨pa, pn, pc, prices, rfl, ho, hon⟩ := ints_read h1 (fun n hn => hs n (by
    simp only [DataW.weights, Tryd.underlying27]
    exact DataW.weights_mem_each (j := 1) rfl rfl n hn))
  exact ⟨ha, pa, hn, hc, pn, pc, ⟨has, prices⟩, rfl, ⟨hr, ho⟩, hrn, hon⟩

theorem Tryd.cellsWhyL : Tryd.prog.cellsOf 38 = 2 := by kernel_rfl
theorem Tryd.bytesWhyL : Tryd.prog.bytesOf 38 = 16 := by kernel_rfl
set_option maxRecDepth 100000 in
theorem whys_read {w : World} {fuel : Nat} {v : Value} {x : DataW H × List MemPlace} (h : DataW.trod enc Tryd.prog w 0 (fun _ => true) true fuel 28 [v] = some x) (hs : Sized 28 x.1) :
    ∃ a n c l, v = .slice a n c ∧ Whys w a n c l ∧ n * 16 ≤ reachBytes := by
  rcases open_slice_pairs Tryd.underlying28 Tryd.underlying38 Tryd.cellsWhyL rfl rfl Tryd.cellsIntL Tryd.cellsIntL h with ⟨hcs, hx⟩ | ⟨a, len, cap, m, n, V0, V1, D0, D1, P0, P1, hcs, hb, hl, hm, hmm, rfl, hx⟩
  · obtain rfl : v = .slice none 0 0 := by simpa using hcs
    exact ⟨none, 0, 0, [], rfl, ⟨rfl, Nat.le_refl _, by omega, fun h => absurd h (by omega), fun _ _ _ k p h => by simp at h, fun p h => by simp at h⟩, by simp⟩
  · obtain rfl : v = .slice (some a) len cap := by simpa using hcs
    simp only [if_true] at hmm
    subst hmm
    have hw := hs ((len + (m - len)) * 16) (by simp [DataW.weights, Tryd.underlying28, Tryd.bytesWhyL])
    have hr := reachBytes_lt
    have hn8 : len * 16 ≤ reachBytes := by omega
    have each : ∀ i, i < len → ∃ p : Int × Int, V0 i = .int .i64 p.1 ∧ V1 i = .int .i64 p.2 ∧ (-9223372036854775808 ≤ p.1 ∧ p.1 ≤ 9223372036854775807) ∧ -9223372036854775808 ≤ p.2 ∧ p.2 ≤ 9223372036854775807 := fun i hi => by
      obtain ⟨_, _, t0, t1⟩ := hx i (by omega)
      obtain ⟨i0, hc0, _, w0⟩ := DataW.trod_int Tryd.underlying3 t0
      obtain ⟨i1, hc1, _, w1⟩ := DataW.trod_int Tryd.underlying3 t1
      exact ⟨(i0, i1), by simpa using hc0, by simpa using hc1, wf_i64 w0, wf_i64 w1⟩
    obtain ⟨X, hX⟩ := choose_lt each
    refine ⟨some a, len, m, (List.range len).map X, rfl, ⟨by simp, hl, by omega, fun h0 => ?_, fun b o e k p hp => ?_, fun p hp => ?_⟩, hn8⟩
    · exact ⟨_, _, by rw [← add_of_cell (by simpa using (hx 0 (by omega)).1)]⟩
    · cases e
      have hk : k < len := by have := (List.getElem?_eq_some_iff.1 hp).1; simpa using this
      obtain ⟨c0, c1, _, _⟩ := hx k (by omega)
      have e1 : ∀ j, (Addr.mk b o none).add j = ⟨b, o + j, none⟩ := fun j => by
        unfold Addr.add; split
        · subst j; rfl
        · rfl
      rw [e1] at c0 c1
      obtain ⟨h1, h2, _⟩ := hX k hk
      obtain rfl : X k = p := by simpa [hk] using hp
      exact ⟨by rw [c0, h1], by rw [Nat.add_assoc, c1, h2]⟩
    · obtain ⟨i, hi, rfl⟩ := List.mem_map.1 hp
      exact (hX i (List.mem_range.1 hi)).2.2

set_option maxRecDepth 100000 in
theorem whys_arg {W : World} {r : Reach} {b0 : Nat} {v : Value} {d : DataW H} {p : List MemPlace} (hv : Value.okWide Tryd.prog W r b0 28 v)
    (h : DataW.Trod enc Tryd.prog W 0 (fun _ => true) true 28 v d p) (hs : Sized 28 d) : ∃ a n c l, v = .slice a n c ∧ Whys W a n c l ∧ n * 16 ≤ reachBytes := by
  obtain ⟨a, n, c, rfl⟩ := okWide_slice Tryd.underlying28 hv
  obtain ⟨fuel, hf⟩ := h
  have hf2 : DataW.trod enc Tryd.prog W 0 (fun _ => true) true fuel 28 [.slice a n c] = some (d, p) := by simpa [Value.cells] using hf
  exact whys_read hf2 hs
end
end Go.Proofs.YtkddkkcfpnndlaaDoor
