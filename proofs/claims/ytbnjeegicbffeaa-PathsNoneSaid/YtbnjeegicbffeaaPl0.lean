/- More as lists. -/
import Derived.Test.YtbnjeegicbffeaaPs5
namespace Go.Proofs.Ytbnjeegicbffeaa
open Go.RowKit

/-! ### More as lists -/
def itm (o : Option Nat) : Int := match o with
  | some k => k
  | none => -1
def listOf (n : Nat) (h : Nat → Option Nat) : List Int := (List.range n).map fun i => itm (h i)
theorem listOf_length (n : Nat) (h : Nat → Option Nat) : (listOf n h).length = n := by simp [listOf]
theorem listOf_get {n i : Nat} (h : Nat → Option Nat) (hi : i < n) : (listOf n h)[i]? = some (itm (h i)) := by simp [listOf, hi]
theorem itm_ge (o : Option Nat) : -1 ≤ itm o := by
  cases o with
  | none => exact Int.le_refl _
  | some k => show (-1 : Int) ≤ (k : Int); omega
theorem itm_some (k : Nat) : itm (some k) = (k : Int) := rfl
theorem listOf_hasAt {hs : List Int} {n : Nat} (hl : hs.length = n) (hb : ∀ x, x ∈ hs → -1 ≤ x) : hs = listOf n (hasAt hs) := by
  apply List.ext_getElem?
  intro i
  by_cases hi : i < n
  · obtain ⟨x, hx⟩ : ∃ x, hs[i]? = some x := ⟨_, List.getElem?_eq_getElem (by omega)⟩
    have := hb x (List.mem_of_getElem? hx)
    rw [listOf_get _ hi, hasAt_of hx, hx]
    by_cases e : x = -1
    · rw [if_pos e, e]; rfl
    · rw [if_neg e]; simp only [itm]; congr 1; omega
  · rw [List.getElem?_eq_none (by omega), List.getElem?_eq_none (by rw [listOf_length]; omega)]
theorem hasAt_listOf {h : Nat → Option Nat} {n : Nat} (hn : ∀ i k, h i = some k → i < n) : hasAt (listOf n h) = h := by
  funext i
  by_cases hi : i < n
  · rw [hasAt_of (listOf_get h hi)]
    cases hh : h i with
    | none => rfl
    | some k => rw [itm_some, if_neg (by omega), Int.toNat_natCast]
  · unfold hasAt
    rw [List.getElem?_eq_none (by rw [listOf_length]; omega)]
    cases hh : h i with
    | none => rfl
    | some k => exact absurd (hn i k hh) hi

def moreOf (G : List (List Nat)) (has : List Int) (f : Nat) : Option (List Int) := (Way.more (nbOf G) (Way.holdTo (hasAt has) has.length) (hasAt has) f).map (listOf has.length)
def reachOf (G : List (List Nat)) (has : List Int) (f : Nat) : Way.St := Way.full (nbOf G) (Way.holdTo (hasAt has) has.length) f

def MoreRes (n : Nat) (r : Option (List Int)) (w : World) (e : Ending) (w' : World) : Prop := match r with
  | none => e = .returned (.tuple #[.slice none 0 0, .bool false, .int .i64 0]) ∧ Below w.heap.size w w'
  | some l => ∃ a, e = .returned (.tuple #[.slice a n n, .bool true, .int .i64 0]) ∧ Ints w' a n n l ∧ Below w.heap.size w w'

theorem More_res (ga ha : Option Addr) (gn gc hn hc f : Nat) (G : List (List Nat)) (items : Int) (has : List Int) (w : World) (hg : Rows w ga gn gc (G.map nats)) (hh : Ints w ha hn hc has) (hok : bOk (G.map nats) items has f = true) :
    Calls Try.prog 32 #[.slice ga gn gc, .int .i64 items, .slice ha hn hc, .int .i64 f] w (MoreRes hn (moreOf G has f) w) := by
  refine (More_yes ga ha gn gc hn hc f G items has w hg hh hok).mono ?_
  intro e w' h
  unfold moreOf
  rw [hh.len]
  cases hm : Way.more (nbOf G) (Way.holdTo (hasAt has) hn) (hasAt has) f with
  | none => rw [hm] at h; exact h
  | some h' =>
    rw [hm] at h
    obtain ⟨a, hs, h1, h2, h3, h4, h5⟩ := h
    refine ⟨a, h1, ?_, h5⟩
    rw [← h3, ← listOf_hasAt h2.len fun x hx => (h4 x hx).1]
    exact h2

/-- refused, or not -/
theorem bCase (g : List (List Int)) (items : Int) (has : List Int) (start : Int) : bOk g items has start = false ∨ ∃ (G : List (List Nat)) (f : Nat), g = G.map nats ∧ start = f ∧ bOk (G.map nats) items has f = true := by
  cases h : bOk g items has start with
  | false => exact .inl rfl
  | true =>
    right
    have h' := h
    simp only [bOk, Bool.and_eq_true, decide_eq_true_eq] at h'
    obtain ⟨G, rfl⟩ := gcheck_nats (fitsB_parts h'.1.1.1).1
    obtain ⟨f, rfl⟩ := Int.eq_ofNat_of_zero_le h'.1.1.2
    exact ⟨G, f, rfl, rfl, h⟩

end Go.Proofs.Ytbnjeegicbffeaa
