/- The first of the best under other names: what the law FirstsNamed asks. -/
import Derived.Test.YtbnjeegicbffeaaFp3
namespace Go.Proofs.Ytbnjeegicbffeaa
open Go.RowKit Sale

/-- a name moved on by so many, of n -/
def mv (by' n x : Nat) : Nat := (x + by') % n
/-- .. and back -/
def bk (by' n j : Nat) : Nat := (j + (n - by')) % n

theorem mv_lt {by' n : Nat} (hn : 0 < n) (x : Nat) : mv by' n x < n := Nat.mod_lt _ hn
theorem bk_lt {by' n : Nat} (hn : 0 < n) (x : Nat) : bk by' n x < n := Nat.mod_lt _ hn
theorem bk_mv {by' n x : Nat} (hb : by' < n) (hx : x < n) : bk by' n (mv by' n x) = x := by
  unfold bk mv
  rcases Nat.lt_or_ge (x + by') n with h | h
  · rw [Nat.mod_eq_of_lt h, show x + by' + (n - by') = x + n by omega, Nat.add_mod_right, Nat.mod_eq_of_lt hx]
  · rw [Nat.mod_eq_sub_mod h, Nat.mod_eq_of_lt (show x + by' - n < n by omega), show x + by' - n + (n - by') = x by omega, Nat.mod_eq_of_lt hx]
theorem mv_bk {by' n j : Nat} (hb : by' < n) (hj : j < n) : mv by' n (bk by' n j) = j := by
  unfold bk mv
  rcases Nat.lt_or_ge (j + (n - by')) n with h | h
  · rw [Nat.mod_eq_of_lt h, show j + (n - by') + by' = j + n by omega, Nat.add_mod_right, Nat.mod_eq_of_lt hj]
  · rw [Nat.mod_eq_sub_mod h, Nat.mod_eq_of_lt (show j + (n - by') - n < n by omega), show j + (n - by') - n + by' = j by omega, Nat.mod_eq_of_lt hj]
theorem mv_inj {by' n x y : Nat} (hb : by' < n) (hx : x < n) (hy : y < n) (h : mv by' n x = mv by' n y) : x = y := by
  have := congrArg (bk by' n) h
  rwa [bk_mv hb hx, bk_mv hb hy] at this
theorem mv_eq {by' n i j : Nat} (hb : by' < n) (hi : i < n) (hj : j < n) : mv by' n i = j ↔ bk by' n j = i :=
  ⟨fun h => by rw [← h]; exact bk_mv hb hi, fun h => by rw [← h]; exact mv_bk hb hj⟩

/-- the gains, by the new names -/
def namedG (by' : Nat) (gains : List (List Int)) : List (List Int) := (List.range gains.length).map fun j => gains[bk by' gains.length j]?.getD []
theorem namedG_length (by' : Nat) (gains : List (List Int)) : (namedG by' gains).length = gains.length := by simp [namedG]
theorem namedG_get {by' : Nat} {gains : List (List Int)} {j : Nat} (hj : j < gains.length) : (namedG by' gains)[j]? = gains[bk by' gains.length j]? := by
  have : bk by' gains.length j < gains.length := bk_lt (by omega) j
  simp [namedG, hj, this]
theorem namedG_mem {by' : Nat} {gains : List (List Int)} {l : List Int} (h : l ∈ namedG by' gains) : l ∈ gains := by
  obtain ⟨j, hj⟩ := List.mem_iff_getElem?.1 h
  have hl : j < gains.length := by have := (List.getElem?_eq_some_iff.1 hj).1; rwa [namedG_length] at this
  rw [namedG_get hl] at hj
  exact List.mem_of_getElem? hj
theorem gi_named {by' : Nat} {gains : List (List Int)} {x r : Nat} (hb : by' < gains.length) (hx : x < gains.length) : gi (namedG by' gains) (mv by' gains.length x) r = gi gains x r := by
  unfold gi
  rw [namedG_get (mv_lt (by omega) x), bk_mv hb hx]

theorem lookup_named {f : Nat → Nat} {i : Nat} : ∀ (ls : List Nat) (ms : List (Option Nat)), (∀ x, x ∈ ls → f x = f i → x = i) → ((ls.map f).zip ms).lookup (f i) = (ls.zip ms).lookup i
  | [], _, _ => by simp
  | l :: ls, [], _ => by simp
  | l :: ls, m :: ms, h => by
    simp only [List.map_cons, List.zip_cons_cons, List.lookup_cons]
    by_cases e : l = i
    · subst e; simp
    · have e1 : (i == l) = false := by simp [Ne.symm e]
      have e2 : (f i == f l) = false := by
        rw [beq_eq_false_iff_ne]; exact fun e' => e (h l List.mem_cons_self e'.symm)
      rw [e1, e2]
      exact lookup_named ls ms fun x hx => h x (List.mem_cons_of_mem _ hx)

/-- whoever is named otherwise has the same -/
theorem firstOf_named {by' : Nat} {gains : List (List Int)} {n : Nat} {on : List Nat} (hb : by' < gains.length) (hp : on.Perm (List.range gains.length)) {i : Nat} (hi : i < gains.length) :
    (firstOf (namedG by' gains) n (on.map (mv by' gains.length)))[mv by' gains.length i]? = (firstOf gains n on)[i]? := by
  have hlt : ∀ x, x ∈ on → x < gains.length := fun x hx => List.mem_range.1 (hp.mem_iff.1 hx)
  unfold firstOf
  rw [namedG_length, tabN_get _ (mv_lt (by omega) i), tabN_get _ hi, firsts_named (g := gi gains) on _ fun l hl r _ => gi_named hb (hlt l hl)]
  unfold hasF
  rw [lookup_named on _ fun x hx e => mv_inj hb (hlt x hx) hi e]

theorem perm_named {by' m : Nat} {on : List Nat} (hb : by' < m) (hp : on.Perm (List.range m)) : (on.map (mv by' m)).Perm (List.range m) := by
  refine (hp.map (mv by' m)).trans ?_
  refine (List.perm_ext_iff_of_nodup ?_ List.nodup_range).2 fun a => ?_
  · rw [List.nodup_iff_pairwise_ne, List.pairwise_map]
    exact (List.nodup_range.imp_of_mem fun {a b} ha hb' hne e => hne (mv_inj hb (List.mem_range.1 ha) (List.mem_range.1 hb') e))
  · rw [List.mem_map, List.mem_range]
    constructor
    · rintro ⟨x, _, rfl⟩; exact mv_lt (by omega) x
    · exact fun ha => ⟨bk by' m a, List.mem_range.2 (bk_lt (by omega) a), mv_bk hb ha⟩

end Go.Proofs.Ytbnjeegicbffeaa
