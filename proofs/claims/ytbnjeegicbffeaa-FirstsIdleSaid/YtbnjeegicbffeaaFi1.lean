/- FirstsIdle: the first of the best with one more. -/
import Derived.Test.YtbnjeegicbffeaaFi0
import Derived.Test.YtbnjeegicbffeaaFp6
namespace Go.Proofs.Ytbnjeegicbffeaa
open Go.RowKit Sale

theorem First_idle {gains : List (List Int)} {n k kk : Nat} {on : List Nat} (h1 : wcheck gains n = true) (h2 : isOrd (on.map fun k : Nat => (k : Int)) gains.length = true) (hn7 : n ≤ 7) (hk7 : k ≤ 7) (hl : gains.length = k)
    (a ao : Option Addr) (gc co : Nat) (w : World) (t4 : List Int) (ht : t4 = (on.map fun k : Nat => (k : Int)).take kk ++ [(k : Int)] ++ (on.map fun k : Nat => (k : Int)).drop kk) (hg : Rows w a (k + 1) gc (gains.map (· ++ [-1]) ++ [List.replicate (n + 1) (-1)])) (ho : Ints w ao (k + 1) co t4) :
    Calls Try.prog 23 #[.slice a (k + 1) gc, .int .i64 ((n : Int) + 1), .slice ao (k + 1) co] w (RetList 0 (firstOf gains n on ++ [-1]) w) := by
  obtain ⟨p1, p2, p3, p4, p5⟩ := wcheck_parts h1
  have hp := isOrd_parts h2
  obtain ⟨hp', hf⟩ := firstOf_idle (n := n) p4 hp kk
  rw [hl] at hp' hf
  have e4 : t4 = (on.take kk ++ k :: on.drop kk).map fun k : Nat => (k : Int) := by rw [ht, List.map_append, List.map_cons, List.map_take, List.map_drop]; simp
  rw [e4] at ho
  have hw : wcheck (idleG gains n) ((n + 1 : Nat) : Int) = true := by
    refine wcheck_of (by omega) (by omega) (by rw [idleG_length]; omega) (fun l h => ?_) fun l h x hx => ?_
    · rcases List.mem_append.1 h with h | h
      · obtain ⟨l', hl', rfl⟩ := List.mem_map.1 h
        have := p4 l' hl'
        simp; omega
      · simp at h; subst h; simp
    · rcases List.mem_append.1 h with h | h
      · obtain ⟨l', hl', rfl⟩ := List.mem_map.1 h
        rcases List.mem_append.1 hx with hx | hx
        · exact p5 l' hl' x hx
        · simp at hx; omega
      · simp at h; subst h
        have := (List.mem_replicate.1 hx).2; omega
  have := First_yes a ao (k + 1) gc (k + 1) co (idleG gains n) (n + 1) _ w hg ho hw (isOrd_of_perm hp')
  rw [hf] at this
  exact this
end Go.Proofs.Ytbnjeegicbffeaa
