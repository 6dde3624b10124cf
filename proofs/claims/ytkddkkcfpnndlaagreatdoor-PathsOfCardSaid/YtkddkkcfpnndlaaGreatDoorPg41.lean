/- Walks: demands.All. -/
import Derived.Test.YtkddkkcfpnndlaaGreatDoorPg40
import Derived.Test.YtkddkkcfpnndlaaGreatDoorPg29
namespace Go.Proofs.YtkddkkcfpnndlaaGreatDoor
open Go.RowKit Go.Shelf

attribute [local go_sem] Oper.semAt_some
/-- a table of lists that is filled, list by list; the lists lie from lo on, the table below -/
structure Filled (w : World) (B lo n : Nat) (xss : List (List Int)) (vals : List Value) : Prop where
  row : VRow w B 25 vals
  len : vals.length = n
  blt : B < lo
  done : ∀ (j : Nat) (xs : List Int), xss[j]? = some xs → ∃ (a : Option Addr) (c : Nat), vals[j]? = some (Value.slice a xs.length c) ∧ Ints w a xs.length c xs ∧ (0 < xs.length → ∀ b o : Nat, a = some ⟨b, o, none⟩ → lo ≤ b)
theorem Filled.under {w : World} {B lo n : Nat} {xss : List (List Int)} {vals : List Value} (h : Filled w B lo n xss vals) {p : Addr} (hp : p.block < lo) (hB : p.block ≠ B) (u : Value) : Filled (w.setCell p u) B lo n xss vals := by
  refine ⟨?_, h.len, h.blt, fun j xs hj => ?_⟩
  · unfold VRow; rw [heap_setCell_other w p B u (fun e => hB e.symm)]; exact h.row
  · obtain ⟨a, c, h1, h2, h3⟩ := h.done j xs hj
    exact ⟨a, c, h1, h2.far (fun hn b o e => by have := h3 hn b o e; omega) u, h3⟩
theorem Filled.below {w w' : World} {B lo n B' : Nat} {xss : List (List Int)} {vals : List Value} (h : Filled w B lo n xss vals) (hb : Below B' w w') (ht : w.heap.size ≤ B') : Filled w' B lo n xss vals := by
  refine ⟨h.row.below hb (Nat.lt_of_lt_of_le h.row.lt ht), h.len, h.blt, fun j xs hj => ?_⟩
  obtain ⟨a, c, h1, h2, h3⟩ := h.done j xs hj
  exact ⟨a, c, h1, h2.below hb ht, h3⟩
theorem Filled.grown {w w' : World} {B lo n top : Nat} {xss : List (List Int)} {vals : List Value} (h : Filled w B lo n xss vals) (hb : Below top w w') (hB : B < top) (ht : ∀ (j : Nat) (xs : List Int), xss[j]? = some xs → ∀ a c, vals[j]? = some (Value.slice a xs.length c) → 0 < xs.length → ∀ b o : Nat, a = some ⟨b, o, none⟩ → b < top) : Filled w' B lo n xss vals := by
  refine ⟨h.row.below hb hB, h.len, h.blt, fun j xs hj => ?_⟩
  obtain ⟨a, c, h1, h2, h3⟩ := h.done j xs hj
  exact ⟨a, c, h1, h2.upTo hb (fun hn b o e => ht j xs hj a c h1 hn b o e), h3⟩
/-- one more -/
theorem Filled.put {w : World} {B lo n : Nat} {xss : List (List Int)} {vals : List Value} (h : Filled w B lo n xss vals) {i : Nat} (hi : i = xss.length) (hn : i < n) {a : Option Addr} {c : Nat} {xs : List Int} (hI : Ints w a xs.length c xs) (hlo : 0 < xs.length → ∀ b o : Nat, a = some ⟨b, o, none⟩ → lo ≤ b) :
    Filled (w.setCell ⟨B, i, none⟩ (.slice a xs.length c)) B lo n (xss ++ [xs]) (vals.set i (.slice a xs.length c)) := by
  refine ⟨h.row.set i _, by rw [List.length_set]; exact h.len, h.blt, fun j ys hj => ?_⟩
  have hblt := h.blt
  have hl := h.len
  by_cases e : j < xss.length
  · rw [List.getElem?_append_left e] at hj
    obtain ⟨a', c', h1, h2, h3⟩ := h.done j ys hj
    exact ⟨a', c', by rw [List.getElem?_set_ne (by omega)]; exact h1, h2.far (fun hn b o e => by have := h3 hn b o e; show b ≠ B; omega) _, h3⟩
  · have : j = xss.length := by have := (List.getElem?_eq_some_iff.1 hj).1; simp at this; omega
    subst this
    rw [List.getElem?_append_right (Nat.le_refl _), Nat.sub_self] at hj
    cases hj
    exact ⟨a, c, by rw [hi, List.getElem?_set_self (by omega)], hI.far (fun hn b o e => by have := hlo hn b o e; show b ≠ B; omega) _, hlo⟩
/-- one is none -/
theorem Filled.clear {w : World} {B lo n : Nat} {xss : List (List Int)} {vals : List Value} (h : Filled w B lo n xss vals) {i : Nat} (hn : i < n) : Filled (w.setCell ⟨B, i, none⟩ (.slice none 0 0)) B lo n (xss.set i []) (vals.set i (.slice none 0 0)) := by
  refine ⟨h.row.set i _, by rw [List.length_set]; exact h.len, h.blt, fun j ys hj => ?_⟩
  have hblt := h.blt
  have hl := h.len
  by_cases e : i = j
  · subst e
    have hlt : i < xss.length := by have := (List.getElem?_eq_some_iff.1 hj).1; simpa using this
    rw [List.getElem?_set_self hlt] at hj
    cases hj
    exact ⟨none, 0, by rw [List.getElem?_set_self (by omega)]; rfl, Ints.empty _ _ _, fun h => by simp at h⟩
  · rw [List.getElem?_set_ne e] at hj
    obtain ⟨a', c', h1, h2, h3⟩ := h.done j ys hj
    exact ⟨a', c', by rw [List.getElem?_set_ne e]; exact h1, h2.far (fun hn b o e => by have := h3 hn b o e; show b ≠ B; omega) _, h3⟩
theorem Filled.rows {w : World} {B lo n : Nat} {xss : List (List Int)} {vals : List Value} (h : Filled w B lo n xss vals) (hn : xss.length = n) (hbig : n ≤ 4611686018427387904) : Rows w (some ⟨B, 0, none⟩) n n xss := by
  have := h.row.rows (xss := xss) (by omega) fun j xs hj => by
    obtain ⟨a, c, h1, h2, _⟩ := h.done j xs hj
    exact ⟨a, xs.length, c, h1, h2⟩
  rwa [hn] at this

def demItems (m : Mkt) (prices : List Int) : List (List Int) := m.bids.map fun b => nats (demOf b prices).1
def demNone (m : Mkt) (prices : List Int) : List Value := m.bids.map fun b => .bool ((demOf b prices).2 == 0)

/-- what the loop holds -/
structure AllAt (w : World) (ra ba oa : Option Addr) (rn rc bn bc on oc : Nat) (m : Mkt) (prices : List Int) (B1 B2 lo i : Nat) (vals : List Value) (wr : World) : Prop where
  fill : Filled wr B1 lo bn ((demItems m prices).take i) vals
  none' : VRow wr B2 4 ((demNone m prices).take i ++ List.replicate (bn - i) (.bool false))
  b2 : B2 < lo
  ne : B1 ≠ B2
  b1l : w.heap.size + 1 ≤ B1
  b2l : w.heap.size + 1 ≤ B2
  lo' : lo ≤ wr.heap.size
  mw' : Below (w.heap.size + 1) (mw w ra ba oa rn rc bn bc on oc) wr

theorem set_none {α : Type} (l : List α) (z x : α) {i n : Nat} (hi : i < n) (hl : l.length = n) (hx : l[i]? = some x) : (l.take i ++ List.replicate (n - i) z).set i x = l.take (i + 1) ++ List.replicate (n - (i + 1)) z := by
  have h1 : (l.take i).length = i := by rw [List.length_take]; omega
  rw [List.set_append_right _ _ (by omega), h1, Nat.sub_self, List.take_add_one, hx, List.append_assoc]
  congr 1
  obtain ⟨d, hd⟩ : ∃ d, n - i = d + 1 := ⟨n - i - 1, by omega⟩
  rw [hd, show n - (i + 1) = d from by omega]
  rfl
theorem AllAt.next {w : World} {ra ba oa : Option Addr} {rn rc bn bc on oc : Nat} {m : Mkt} {prices : List Int} {B1 B2 lo i : Nat} {vals : List Value} {wr w3 : World} (h : AllAt w ra ba oa rn rc bn bc on oc m prices B1 B2 lo i vals wr) (hi : i < bn) (hl : m.bids.length = bn) {bid : List Int} (hb : m.bids[i]? = some bid)
    (h3 : Below wr.heap.size wr w3) {a : Option Addr} {n : Nat} (hI : Ints w3 a n n (nats (demOf bid prices).1)) (hlo : ∀ b o, a = some ⟨b, o, none⟩ → wr.heap.size ≤ b) :
    AllAt w ra ba oa rn rc bn bc on oc m prices B1 B2 lo (i + 1) (vals.set i (.slice a n n)) ((w3.setCell ⟨B1, i, none⟩ (.slice a n n)).setCell ⟨B2, i, none⟩ (.bool ((demOf bid prices).2 == 0))) := by
  have hn := hI.len
  subst hn
  have hdl : (demItems m prices).length = bn := by unfold demItems; rw [List.length_map, hl]
  have hnl : (demNone m prices).length = bn := by unfold demNone; rw [List.length_map, hl]
  have hdi : (demItems m prices)[i]? = some (nats (demOf bid prices).1) := by unfold demItems; rw [List.getElem?_map, hb]; rfl
  have hni : (demNone m prices)[i]? = some (.bool ((demOf bid prices).2 == 0)) := by unfold demNone; rw [List.getElem?_map, hb]; rfl
  have hB1 := h.fill.row.lt
  have hB2 := h.none'.lt
  have hs := h3.size
  have hlo' := h.lo'
  have hb2 := h.b2
  have hb1l := h.b1l
  have hb2l := h.b2l
  have hfp := (h.fill.below h3 (Nat.le_refl _)).put (i := i) (by rw [List.length_take, hdl]; omega) hi hI (fun _ b o e => by have := hlo b o e; omega)
  refine ⟨?_, ?_, h.b2, h.ne, h.b1l, h.b2l, by simp; omega, ?_⟩
  · rw [List.take_add_one, hdi]
    exact hfp.under (by show B2 < lo; omega) (by show B2 ≠ B1; exact fun e => h.ne e.symm) _
  · rw [← set_none (demNone m prices) (.bool false) _ hi hnl hni]
    exact ((h.none'.below h3 hB2).other (by show B2 ≠ B1; exact fun e => h.ne e.symm) _).set i _
  · exact (((h.mw'.trans (h3.mono (by omega))).setCell (p := ⟨B1, i, none⟩) (by show _ ≤ B1; omega) _).setCell (p := ⟨B2, i, none⟩) (by show _ ≤ B2; omega) _)

end Go.Proofs.YtkddkkcfpnndlaaGreatDoor
