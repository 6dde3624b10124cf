/- A table of lists of ints, all as long, whose entries are written. -/
import Derived.Test.YtbnjeegicbffeaaTw2
import Derived.Test.YtbnjeegicbffeaaWt3
namespace Go.Proofs.Ytbnjeegicbffeaa
open Go.RowKit

def rowsF (n m : Nat) (F : Nat → Nat → Int) : List (List Int) := (List.range n).map fun i => (List.range m).map (F i)
theorem rowsF_length (n m : Nat) (F : Nat → Nat → Int) : (rowsF n m F).length = n := by simp [rowsF]
theorem rowsF_get {n m i : Nat} (F : Nat → Nat → Int) (hi : i < n) : (rowsF n m F)[i]? = some ((List.range m).map (F i)) := by simp [rowsF, hi]
theorem gi_rowsF {n m i k : Nat} (F : Nat → Nat → Int) (hi : i < n) (hk : k < m) : gi (rowsF n m F) i k = F i k := gi_at (rowsF_get F hi) (by simp [hk])
theorem rowsF_of {gains : List (List Int)} {m : Nat} (hl : ∀ l, l ∈ gains → (l.length : Int) = (m : Int)) : rowsF gains.length m (gi gains) = gains := by
  apply List.ext_getElem?
  intro i
  by_cases hi : i < gains.length
  · have hg : gains[i]? = some gains[i] := by simp
    rw [rowsF_get _ hi, hg]
    congr 1
    have hlen := hl _ (List.getElem_mem hi)
    apply List.ext_getElem?
    intro k
    by_cases hk : k < m
    · have hx : gains[i][k]? = some (gains[i][k]'(by omega)) := by simp
      rw [hx, List.getElem?_map, List.getElem?_range hk, Option.map_some, gi_at hg hx]
    · rw [List.getElem?_eq_none (by simp; omega), List.getElem?_eq_none (by omega)]
  · rw [List.getElem?_eq_none (by rw [rowsF_length]; omega), List.getElem?_eq_none (by omega)]
def upd2 (F : Nat → Nat → Int) (i k : Nat) (v : Int) : Nat → Nat → Int := fun a b => if a = i ∧ b = k then v else F a b
theorem rowsF_set {n m i k : Nat} (F : Nat → Nat → Int) (v : Int) : (rowsF n m F).set i (((List.range m).map (F i)).set k v) = rowsF n m (upd2 F i k v) := by
  apply List.ext_getElem?
  intro a
  rw [List.getElem?_set]
  by_cases ha : a < n
  · rw [rowsF_get _ ha, rowsF_get _ ha]
    by_cases e : i = a
    · subst e
      rw [if_pos rfl, if_pos (by rw [rowsF_length]; exact ha)]
      congr 1
      apply List.ext_getElem?
      intro b
      rw [List.getElem?_set]
      by_cases hb : b < m
      · by_cases e : k = b
        · subst e; simp [hb, upd2]
        · simp [hb, upd2, e, Ne.symm e]
      · have h1 : ((List.range m).map (upd2 F i k v i))[b]? = none := List.getElem?_eq_none (by simp; omega)
        have h2 : ((List.range m).map (F i))[b]? = none := List.getElem?_eq_none (by simp; omega)
        rw [h1, h2]
        split
        · rw [if_neg (by simp; omega)]
        · rfl
    · rw [if_neg e]
      congr 1
      refine List.map_congr_left fun b _ => ?_
      simp [upd2, Ne.symm e]
  · have h1 : ∀ G, (rowsF n m G)[a]? = none := fun G => List.getElem?_eq_none (by rw [rowsF_length]; omega)
    rw [h1, h1]
    split
    · rw [if_neg (by rw [rowsF_length]; omega)]
    · rfl

/-- the table in memory -/
structure Grid (w : World) (base B n m : Nat) (vals : List Value) (gs : List Nat) (F : Nat → Nat → Int) : Prop where
  tab : Tab w B 22 vals
  len : vals.length = n
  rows : TwinsOf w base B vals gs (rowsF n m F)

theorem Grid.at' {w : World} {base B n m i : Nat} {vals : List Value} {gs : List Nat} {F : Nat → Nat → Int} (h : Grid w base B n m vals gs F) (hi : i < n) :
    ∃ g c, gs[i]? = some g ∧ w.cell? ⟨B, i, none⟩ = some (Value.slice (some ⟨g, 0, none⟩) m c) ∧ m ≤ c ∧ ∀ k, k < m → w.cell? ⟨g, k, none⟩ = some (.int .i64 (F i k)) ∧ w.frozen? ⟨g, k, none⟩ = false := by
  have hl := h.rows.len
  rw [rowsF_length] at hl
  obtain ⟨g, hg⟩ : ∃ g, gs[i]? = some g := ⟨_, List.getElem?_eq_getElem (by omega)⟩
  obtain ⟨c, h1, h2, h3⟩ := h.rows.row i _ g (rowsF_get F hi) hg
  rw [show ((List.range m).map (F i)).length = m by simp] at h1 h2
  exact ⟨g, c, hg, h.tab.cell h1, h2, fun k hk => ⟨Tab.cell h3 (by simp [hk]), Tab.frozen h3 k⟩⟩

theorem Grid.poke {w : World} {base B n m i k g : Nat} {vals : List Value} {gs : List Nat} {F : Nat → Nat → Int} (h : Grid w base B n m vals gs F) (_hi : i < n) (hg : gs[i]? = some g) (v : Int) :
    Grid (w.setCell ⟨g, k, none⟩ (.int .i64 v)) base B n m vals gs (upd2 F i k v) := by
  have hm := h.rows.at' g (List.mem_of_getElem? hg)
  refine ⟨h.tab.other (by simp; exact Ne.symm hm.2.1) _, h.len, ?_⟩
  refine ⟨by rw [rowsF_length, ← rowsF_length n m F]; exact h.rows.len, h.rows.nodup, fun x hx => by simpa using h.rows.at' x hx, fun j xs g' hj hg' => ?_⟩
  have hjn : j < n := by have := (List.getElem?_eq_some_iff.1 hj).1; rwa [rowsF_length] at this
  obtain ⟨c, h1, h2, h3⟩ := h.rows.row j _ g' (rowsF_get F hjn) hg'
  rw [← rowsF_set F v, List.getElem?_set] at hj
  by_cases e : i = j
  · subst e
    rw [if_pos rfl, if_pos (by rw [rowsF_length]; exact hjn)] at hj
    cases hj
    have eg : g' = g := by rw [hg] at hg'; exact (Option.some.inj hg').symm
    subst eg
    refine ⟨c, ?_, ?_, TabI.set h3 k v⟩
    · rw [List.length_set]; exact h1
    · rw [List.length_set]; exact h2
  · rw [if_neg e, rowsF_get F hjn] at hj
    cases hj
    refine ⟨c, h1, h2, Tab.other h3 ?_ _⟩
    intro eg
    simp only at eg
    subst eg
    exact e ((List.getElem?_inj (List.getElem?_eq_some_iff.1 hg).1 h.rows.nodup).1 (hg.trans hg'.symm))

theorem Grid.below {w w' : World} {base B B' n m : Nat} {vals : List Value} {gs : List Nat} {F : Nat → Nat → Int} (h : Grid w base B n m vals gs F) (hb : Below B' w w') (hB : w.heap.size ≤ B') : Grid w' base B n m vals gs F :=
  ⟨h.tab.below hb (by have := h.tab.lt; omega), h.len, h.rows.below hb hB⟩

theorem Grid.toRows {w : World} {base B n m c : Nat} {vals : List Value} {gs : List Nat} {F : Nat → Nat → Int} (h : Grid w base B n m vals gs F) (hc : n ≤ c) (hn : n ≤ 100000) (hm : m ≤ 100000) (hF : ∀ i, i < n → ∀ k, -9223372036854775808 ≤ F i k ∧ F i k ≤ 9223372036854775807) :
    Rows w (some ⟨B, 0, none⟩) n c (rowsF n m F) :=
  ⟨rowsF_length n m F, hc, by omega, fun _ => ⟨_, _, rfl⟩, fun b o e j xs hj => by
    cases e
    have hjn : j < n := by have := (List.getElem?_eq_some_iff.1 hj).1; rwa [rowsF_length] at this
    have hl := h.rows.len
    rw [rowsF_length] at hl
    obtain ⟨g, hg⟩ : ∃ g, gs[j]? = some g := ⟨_, List.getElem?_eq_getElem (by omega)⟩
    obtain ⟨c', h1, h2, h3⟩ := h.rows.row j xs g hj hg
    rw [rowsF_get F hjn] at hj
    cases hj
    exact ⟨_, _, c', by rw [Nat.zero_add]; exact h.tab.cell h1, h3.ints h2 (by simp; omega) (fun x hx => by
      obtain ⟨k, _, rfl⟩ := List.mem_map.1 hx
      exact hF j hjn k)⟩⟩
end Go.Proofs.Ytbnjeegicbffeaa
