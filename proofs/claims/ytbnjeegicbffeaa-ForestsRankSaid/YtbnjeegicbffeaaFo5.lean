/- Forests in plain words: what the code's reasons say of a wood; what is found. -/
import Derived.Test.YtbnjeegicbffeaaFo4
import Derived.Test.YtbnjeegicbffeaaPln
namespace Go.Proofs.Ytbnjeegicbffeaa
open Go.RowKit Sale Tree

def nowOf (o : Outc) (i : Nat) : Option Nat := if o.has.getD i (-1) = -1 then none else some (o.has.getD i (-1)).toNat
def woodOf (m : Mkt) (o : Outc) : Wood := { N := o.prices.length, M := o.has.length, res := resB m o, now := nowOf o, well := fun i j => wellB m o i j }
theorem FitOk.now {m : Mkt} {o : Outc} (h : FitOk m o) : ∀ i k, (woodOf m o).now i = some k → k < (woodOf m o).N := by
  intro i k hk
  have hk' : nowOf o i = some k := hk
  unfold nowOf at hk'
  split at hk'
  · cases hk'
  · rename_i hne
    cases hk'
    show (o.has.getD i (-1)).toNat < o.prices.length
    cases hx : o.has[i]? with
    | none => exact absurd (by rw [List.getD_eq_getElem?_getD, hx]; rfl) hne
    | some x =>
      rw [getD_at hx] at hne ⊢
      have := h.item x (List.mem_of_getElem? hx)
      have := h.plen
      omega
theorem check_says {m : Mkt} {o : Outc} {l : List (Int × Int)} (h : checkB m o l = true) : FitOk m o ∧ l.length = o.prices.length ∧ Says (woodOf m o) wrap64 (fun j => (l.getD j (0, 0)).1) (fun j => (l.getD j (0, 0)).2) := by
  simp only [checkB, Bool.and_eq_true, decide_eq_true_eq] at h
  obtain ⟨h1, h2, h3⟩ := h
  have hf := fitsB_ok h1
  refine ⟨hf, h2, ⟨fun j hj hr => ?_, fun j hj hr => ?_⟩⟩
  · have hj' : j < l.length := by rw [h2]; exact hj
    have hok := List.all_eq_true.1 h3 j (List.mem_range.2 hj')
    unfold okWhy at hok
    rw [if_pos (show resB m o j = true from hr)] at hok
    have := eq_of_beq hok
    exact ⟨congrArg Prod.fst this, congrArg Prod.snd this⟩
  · have hj' : j < l.length := by rw [h2]; exact hj
    have hok := List.all_eq_true.1 h3 j (List.mem_range.2 hj')
    unfold okWhy at hok
    rw [if_neg (show ¬ resB m o j = true by rw [show resB m o j = false from hr]; decide)] at hok
    simp only [Bool.and_eq_true, decide_eq_true_eq] at hok
    obtain ⟨⟨p0, p1⟩, p2, p3⟩ := hok
    refine ⟨(l.getD j (0, 0)).1.toNat, by omega, by show _ < o.has.length; omega, p2, ?_⟩
    have p3' := eq_of_beq p3
    show (l.getD j (0, 0)).2 = match nowOf o (l.getD j (0, 0)).1.toNat with | none => 1 | some k => wrap64 (1 + (l.getD k (0, 0)).2)
    rw [p3']
    unfold rankOf nowOf
    split <;> rfl

/-- what is found: an item's reason, or none as it is made -/
def outL (n : Nat) (s : Sta) : List (Int × Int) := (List.range n).map fun j => match s j with | some p => (p.1, (p.2 : Int)) | none => (-1, 0)
theorem outL_get {n : Nat} {s : Sta} {j : Nat} (hj : j < n) : (outL n s)[j]? = some (match s j with | some p => (p.1, (p.2 : Int)) | none => (-1, 0)) := by simp [outL, hj]
theorem outL_length (n : Nat) (s : Sta) : (outL n s).length = n := by simp [outL]
/-- all have a reason -/
def allB (W : Wood) : Bool := (List.range W.N).all fun j => (lv W W.N j).isSome
theorem all_of {W : Wood} {n : Nat} (hnow : ∀ i k, W.now i = some k → k < W.N) (h : ∀ j, j < W.N → ∃ x, lv W n j = some x) : allB W = true ∧ ∀ j, j < W.N → lv W W.N j = lv W n j := by
  have key : ∀ j, j < W.N → lv W W.N j = lv W n j := fun j hj => by
    obtain ⟨⟨b, r⟩, hx⟩ := h j hj
    rw [hx]
    exact lv_keep (lv_at hx) (lv_most hnow hj hx)
  refine ⟨List.all_eq_true.2 fun j hj => ?_, key⟩
  have hj' := List.mem_range.1 hj
  obtain ⟨x, hx⟩ := h j hj'
  rw [key j hj', hx]; rfl
theorem none_of {W : Wood} {n : Nat} (hnow : ∀ i k, W.now i = some k → k < W.N) (hst : ∀ j, j < W.N → lv W (n + 1) j = lv W n j) {j : Nat} (hj : j < W.N) (hn : lv W n j = none) : allB W = false := by
  have h1 : lv W W.N j = none := by
    rcases Nat.lt_or_ge W.N n with h | h
    · cases hx : lv W W.N j with
      | none => rfl
      | some x => rw [lv_keep hx (Nat.le_of_lt h)] at hn; cases hn
    · rw [lv_still hst hnow _ h j hj, hn]
  unfold allB
  rw [List.all_eq_false]
  exact ⟨j, List.mem_range.2 hj, by rw [h1]; simp⟩
end Go.Proofs.Ytbnjeegicbffeaa
