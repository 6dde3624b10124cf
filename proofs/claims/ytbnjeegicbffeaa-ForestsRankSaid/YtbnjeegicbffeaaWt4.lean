/- Walks: weights.Best; what its table tells is the most. -/
import Derived.Test.YtbnjeegicbffeaaWt3
namespace Go.Proofs.Ytbnjeegicbffeaa
open Go.RowKit Sale

/-- the most that a matching of these gains -/
def bestVal (gains : List (List Int)) (n : Nat) : Int := opt (gi gains) n (List.range gains.length) (fun _ => true)

theorem mostOf_ge (l : List Int) : ∀ x : Int, x ≤ mostOf x l ∧ ∀ y, y ∈ l → y ≤ mostOf x l := by
  induction l with
  | nil => intro x; simp [mostOf]
  | cons z l ih =>
    intro x
    have h := ih (max x z)
    simp only [mostOf, List.foldl_cons] at h ⊢
    refine ⟨by omega, fun y hy => ?_⟩
    rcases List.mem_cons.1 hy with rfl | hy
    · omega
    · exact h.2 y hy
theorem mostOf_cases (l : List Int) : ∀ x : Int, mostOf x l = x ∨ mostOf x l ∈ l := by
  induction l with
  | nil => intro x; simp [mostOf]
  | cons z l ih =>
    intro x
    have h := ih (max x z)
    simp only [mostOf, List.foldl_cons] at h ⊢
    rcases h with h | h
    · rcases Int.le_total x z with h1 | h1
      · right; rw [h, Int.max_eq_right h1]; exact List.mem_cons_self
      · left; rw [h, Int.max_eq_left h1]
    · right; exact List.mem_cons_of_mem _ h

theorem best_val {gains : List (List Int)} (hm : gains.length ≤ 8) (n : Nat) : mostOf 0 (tab (tabOf gains (List.range n).reverse)) = bestVal gains n := by
  have hnd : (List.range n).reverse.Nodup := (List.reverse_perm _).nodup_iff.2 List.nodup_range
  have hfull : ∀ r, r < gains.length → (2 ^ gains.length - 1).testBit r = true := by
    intro r hr; rw [Nat.testBit_two_pow_sub_one]; simpa using hr
  have e : bestVal gains n = opt (Sale.flip (gi gains)) gains.length (List.range n).reverse (bitsOf (2 ^ gains.length - 1)) :=
    opt_flip List.nodup_range hnd (fun i => by simp [bitsOf]) (fun k => by simp)
  have hp : 0 < 2 ^ gains.length := Nat.pow_pos (by omega)
  apply Int.le_antisymm
  · rcases mostOf_cases (tab (tabOf gains (List.range n).reverse)) 0 with h | h
    · rw [h, e]; exact opt_nonneg _ _ _ _
    · obtain ⟨j, _, hj⟩ := List.mem_map.1 h
      rw [← hj, e]
      unfold tabOf
      split
      · exact opt_mono hnd (fun _ h => h) fun r hr _ => hfull r hr
      · exact opt_nonneg _ _ _ _
  · refine (mostOf_ge _ 0).2 _ (List.mem_map.2 ⟨2 ^ gains.length - 1, ?_, ?_⟩)
    · have : 2 ^ gains.length ≤ 256 := Nat.pow_le_pow_right (n := 2) (by omega) hm
      exact List.mem_range.2 (by omega)
    · rw [tabOf, if_pos (by omega), e]

theorem wcheck_parts {gains : List (List Int)} {items : Int} (h : wcheck gains items = true) :
    1 ≤ items ∧ items ≤ 8 ∧ gains.length ≤ 8 ∧ (∀ l, l ∈ gains → (l.length : Int) = items) ∧ (∀ l, l ∈ gains → ∀ x, x ∈ l → -1000000 ≤ x ∧ x ≤ 1000000) := by
  simp only [wcheck, Bool.and_eq_true, decide_eq_true_eq, Bool.not_eq_true', List.any_eq_false, badGains, badGain, Bool.or_eq_true, decide_eq_false_iff_not, List.any_eq_true, not_or] at h
  obtain ⟨⟨⟨h1, h2⟩, h3⟩, h4⟩ := h
  refine ⟨h1, h2, h3, fun l hl => ?_, fun l hl x hx => ?_⟩
  · have := (h4 l hl).1; simpa using this
  · have := (h4 l hl).2
    have h5 : ¬ (x < -1000000 ∨ 1000000 < x) := fun hh => this ⟨x, hx, hh⟩
    omega

set_option maxHeartbeats 400000 in
theorem Best_any (ga : Option Addr) (gn gc : Nat) (gains : List (List Int)) (items : Int) (w : World) (hg : Rows w ga gn gc gains) :
    Calls Try.prog 24 #[.slice ga gn gc, .int .i64 items] w fun e w' =>
      e = .returned (.tuple #[.int .i64 (if wcheck gains items = true then bestVal gains items.toNat else 0), .int .i64 (if wcheck gains items = true then 0 else 1)]) ∧ Below w.heap.size w w' := by
  have HG := Lib.hid hg; clear hg
  cases hc : wcheck gains items with
  | false =>
    have HC := Lib.hid hc; clear hc
    go_enter Try.func24, Try.ntmps24
    go_wp2_with fail
    refine (wcheck_any ga gn gc gains items w HG.out).mono ?_
    rw [HC.out]
    rintro e w1 ⟨rfl, hb⟩
    have HB := Lib.hid hb; clear hb
    go_wp2_with fail
    go_ret2
    exact ⟨rfl, HB.out⟩
  | true =>
    obtain ⟨h1, h2, h3, h4, h5⟩ := wcheck_parts hc
    obtain ⟨n, rfl⟩ : ∃ n : Nat, items = n := ⟨items.toNat, by omega⟩
    have HC := Lib.hid hc; clear hc
    have HH := Lib.hid (And.intro h4 h5); clear h4 h5
    have HL := Lib.hid h3; clear h3
    go_enter Try.func24, Try.ntmps24
    go_wp2_with fail
    refine (wcheck_any ga gn gc gains n w HG.out).mono ?_
    rw [HC.out]
    rintro e w1 ⟨rfl, hb⟩
    have HB := Lib.hid hb; clear hb
    go_wp2_with fail
    refine (each_any n w1 (by omega)).mono ?_
    rintro e w2 ⟨a2, c2, rfl, hi2, hb2⟩
    have HI2 := Lib.hid hi2; clear hi2
    have HB2 := Lib.hid (HB.out.trans (hb2.mono HB.out.size)); clear hb2
    go_wp2_with fail
    have hm := HG.out.len
    refine (best_any ga a2 gn gc n c2 gains (List.range n) n w2 (HG.out.below HB2.out (Nat.le_refl _)) HI2.out (by have := HL.out; omega) (fun l hl => by have := HH.out.1 l hl; omega) (fun k hk => List.mem_range.1 hk) HH.out.2 (by omega)).mono ?_
    rw [best_val HL.out]
    rintro e w3 ⟨rfl, hb3⟩
    have HB3 := Lib.hid (HB2.out.trans (hb3.mono HB2.out.size)); clear hb3
    go_wp2_with fail
    go_ret2
    exact ⟨rfl, HB3.out⟩
end Go.Proofs.Ytbnjeegicbffeaa
