/- The reading of gains: a law's first argument. -/
import Derived.Test.YtbnjeegicbffeaaLiftB
namespace Go.Proofs.Ytbnjeegicbffeaa
open Go.ChangeShapes Go.WideShapes Go.ChangeAt Go.RowKit Go.Joins Go.Deep
section
variable {H : Type} {enc : TypeId × Value → H}
set_option maxRecDepth 100000 in
theorem gains_read {W : World} {r : Reach} {b0 : Nat} {v : Value} {d : DataW H} {p : List MemPlace} (hv : Value.okWide Try.prog W r b0 37 v)
    (h : DataW.Trod enc Try.prog W 0 (fun _ => true) true 37 v d p) (hs : Sized 37 d) :
    ∃ (a : Option Addr) (n c : Nat) (xss : List (List Int)) (items : Int), v = .agg #[.slice a n c, .int .i64 items] ∧ Rows W a n c xss ∧ n * 24 ≤ reachBytes ∧ (∀ xs, xs ∈ xss → xs.length * 8 ≤ reachBytes) ∧ -9223372036854775808 ≤ items ∧ items ≤ 9223372036854775807 := by
  obtain ⟨v0, v1, y0, y1, n, rfl, rfl, rfl, h0, h1⟩ := open_agg2 Try.underlying37 (by kernel_rfl) (by kernel_rfl) hv h
  obtain ⟨a, n, c, xss, rfl, hr, hn, hxs⟩ := rows_read h0 (fun n hn => hs n (by
    simp only [DataW.weights, Try.underlying37]
    exact DataW.weights_mem_each (j := 0) rfl rfl n hn))
  obtain ⟨i, hc, _, hw⟩ := DataW.trod_int Try.underlying3 h1
  obtain rfl : v1 = .int .i64 i := by simpa using hc
  exact ⟨a, n, c, xss, i, rfl, hr, hn, hxs, wf_i64 hw⟩

end
end Go.Proofs.Ytbnjeegicbffeaa
