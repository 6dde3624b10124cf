/- The first of the best, as the law FirstsFirst asks it: with any other matching that gains as much, where they part first. -/
import Derived.Test.YtbnjeegicbffeaaFp1
namespace Go.Proofs.Ytbnjeegicbffeaa
open Go.RowKit Sale

theorem isM_ge {gains : List (List Int)} {has : List Int} (h : isM gains has gains.length = true) (hlen : has.length = gains.length) {i : Nat} {x : Int} (hx : has[i]? = some x) : -1 ≤ x := by
  have hi : i < gains.length := by have := (List.getElem?_eq_some_iff.1 hx).1; omega
  by_cases hne : x = -1
  · omega
  · have := isM_at h hi hx hne; omega

theorem mSum_most {gains : List (List Int)} {n : Nat} {has : List Int} (hl : ∀ l, l ∈ gains → (l.length : Int) = (n : Int)) (hlen : has.length = gains.length) (h : isM gains has gains.length = true) : mSum gains has gains.length ≤ bestVal gains n := by
  rw [mSum_total _ _ _ (by omega), bestVal]
  exact total_most List.nodup_range (fits_of_isM hl h)

theorem first_parts {gains : List (List Int)} {n : Nat} {on : List Nat} {other : List Int} (hl : ∀ l, l ∈ gains → (l.length : Int) = (n : Int)) (hp : on.Perm (List.range gains.length)) (hM : isM gains other gains.length = true)
    (hlen : other.length = gains.length) (hs : mSum gains other gains.length = bestVal gains n) {d x : Nat} {h o : Int} (hd : on[d]? = some x) (heq : ∀ y, y ∈ on.take d → (firstOf gains n on)[y]? = other[y]?)
    (hh : (firstOf gains n on)[x]? = some h) (ho : other[x]? = some o) (hne : h ≠ o) : h ≠ -1 ∧ (o = -1 ∨ h < o) := by
  have hF := first_is (n := n) hp
  have hfit := (fits_of_isM hl hM).perm hp.symm
  have ht : total (gi gains) (slotOf other) on = opt (gi gains) n on (fun _ => true) := by
    rw [total_perm hp, ← mSum_total _ _ _ (by omega), hs, bestVal, opt_perm hF.nodup hp]
  have hA := hF.ahead hfit ht
  have h1 := firstOf_ge gains n on h (List.mem_of_getElem? hh)
  have h2 := isM_ge hM hlen ho
  have hsl : slotOf (firstOf gains n on) x ≠ slotOf other x := by
    rw [slot_of hh, slot_of ho]
    by_cases e1 : h = -1 <;> by_cases e2 : o = -1
    · omega
    · rw [if_pos e1, if_neg e2]; simp
    · rw [if_neg e1, if_pos e2]; simp
    · rw [if_neg e1, if_neg e2]
      intro e
      have := Option.some.inj e
      omega
  obtain ⟨r, hr, hc⟩ := hA.parts hd (fun y hy => by simp only [slotOf, heq y hy]) hsl
  rw [slot_of hh] at hr
  rw [slot_of ho] at hc
  split at hr
  · cases hr
  · rename_i hne1
    refine ⟨hne1, ?_⟩
    have hr' := Option.some.inj hr
    rcases hc with hc | ⟨r', hc, hlt⟩
    · split at hc
      · exact .inl (by assumption)
      · cases hc
    · split at hc
      · cases hc
      · have := Option.some.inj hc
        right; omega
end Go.Proofs.Ytbnjeegicbffeaa
