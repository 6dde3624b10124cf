/- Lists, with the room behind them: lots of memory; what an append leaves; frames. The book of lists: what it holds, in memory. The book in memory; of the kinds that it holds none of nothing is written, grown or looked at. The book of lists, for lists of any kind: marks that are written into lists, and put behind them. -/
import Derived.Test.YtkddkkcfpnndlaaGreatDoorOq09
import Derived.ArgAppend
namespace Go.Proofs.YtkddkkcfpnndlaaGreatDoor
open Go.RowKit

def Fr (S : Nat → Prop) (w w' : World) : Prop := w.heap.size ≤ w'.heap.size ∧ ∀ b, b < w.heap.size → ¬ S b → w'.heap[b]? = w.heap[b]?
theorem Fr.refl (S : Nat → Prop) (w : World) : Fr S w w := ⟨Nat.le_refl _, fun _ _ _ => rfl⟩
theorem Fr.trans {S : Nat → Prop} {w w1 w2 : World} (h : Fr S w w1) (k : Fr S w1 w2) : Fr S w w2 :=
 ⟨Nat.le_trans h.1 k.1, fun b hb hs => (k.2 b (Nat.lt_of_lt_of_le hb h.1) hs).trans (h.2 b hb hs)⟩
theorem Fr.mono {S S' : Nat → Prop} {w w' : World} (h : Fr S w w') (hs : ∀ b, b < w.heap.size → S b → S' b) : Fr S' w w' := ⟨h.1, fun b hb hn => h.2 b hb (fun hS => hn (hs b hb hS))⟩
theorem Fr.below {S : Nat → Prop} {w w' : World} (h : Below w.heap.size w w') : Fr S w w' := ⟨h.size, fun b hb _ => h.block b hb⟩
theorem Fr.set {S : Nat → Prop} (w : World) (a : Addr) (ha : S a.block) (v : Value) : Fr S w (w.setCell a v) :=
 ⟨by simp, fun b _ hn => heap_setCell_other w a b v (fun e => hn (e ▸ ha))⟩
theorem Fr.cell {S : Nat → Prop} {w w' : World} (h : Fr S w w') {b o : Nat} {v : Value} (hb : ¬ S b) (hc : w.cell? ⟨b, o, none⟩ = some v) : w'.cell? ⟨b, o, none⟩ = some v := by
 rw [World.cell?_of_block (a := ⟨b, o, none⟩) (h.2 b (block_lt_of_cell hc) hb)]; exact hc

def Lot (T : TypeId) (w : World) (base : Nat) (a : Option Addr) (n c : Nat) : Prop :=
 (n = 0 ∧ c = 0) ∨ ∃ b o cur, a = some ⟨b, o, none⟩ ∧ base ≤ b ∧ w.heap[b]? = some (.cells cur T (0, 0)) ∧ o + c ≤ cur.size ∧ n ≤ c
theorem Lot.fr {T : TypeId} {S : Nat → Prop} {w w' : World} {base : Nat} {a : Option Addr} {n c : Nat} (h : Lot T w base a n c) (hf : Fr S w w') (hs : ∀ b o, a = some ⟨b, o, none⟩ → ¬ S b) : Lot T w' base a n c := by
 rcases h with h | ⟨b, o, cur, e, hb, hh, hc, hn⟩
 · exact .inl h
 · exact .inr ⟨b, o, cur, e, hb, by rw [hf.2 b (Array.getElem?_eq_some_iff.1 hh).1 (hs b o e)]; exact hh, hc, hn⟩
theorem Lot.step {T : TypeId} {w w' : World} {base : Nat} {a : Option Addr} {n c : Nat} (h : Lot T w base a n c) (hb : Below w.heap.size w w') : Lot T w' base a n c :=
 h.fr (S := fun _ => False) (Fr.below hb) (fun _ _ _ h => h)
theorem Lot.own {w : World} {base n c : Nat} {a : Option Addr} {xs : List Int} (h : Own w base (.slice a n c) xs) : Lot 3 w base a n c := by
 obtain ⟨h1, h2⟩ := h
 rcases h2 with ⟨e, _⟩ | ⟨g, cap, cur, e, hg, hh, hc, hm, hs, ht⟩
 · cases e; exact .inl ⟨rfl, rfl⟩
 · obtain ⟨e1, e2, e3⟩ := Value.slice.inj e
   subst e1; subst e2; subst e3
   exact .inr ⟨g, 0, cur, rfl, hg, hh, by omega, by omega⟩
theorem Lot.clip {T : TypeId} {w : World} {base n c : Nat} {a : Option Addr} (h : Lot T w base a n c) : Lot T w base a n n := by
 rcases h with ⟨h, _⟩ | ⟨b, o, cur, e, hb, hh, hc, hn⟩
 · exact .inl ⟨h, h⟩
 · exact .inr ⟨b, o, cur, e, hb, hh, by omega, Nat.le_refl _⟩
theorem Lot.cut {T : TypeId} {w : World} {base n c k : Nat} {a : Option Addr} (h : Lot T w base a n c) (hk : k ≤ n) : Lot T w base a k c := by
 rcases h with ⟨h, h'⟩ | ⟨b, o, cur, e, hb, hh, hc, hn⟩
 · exact .inl ⟨by omega, h'⟩
 · exact .inr ⟨b, o, cur, e, hb, hh, hc, by omega⟩

structure FilledBy (T : TypeId) (w : World) (base : Nat) (a : Option Addr) (n c : Nat) (vals : List Value) : Prop where
 lot : Lot T w base a n c
 len : vals.length = n
 cell : ∀ b o, a = some ⟨b, o, none⟩ → ∀ k v, vals[k]? = some v → w.cell? ⟨b, o + k, none⟩ = some v
theorem FilledBy.fr {T : TypeId} {S : Nat → Prop} {w w' : World} {base : Nat} {a : Option Addr} {n c : Nat} {vals : List Value} (h : FilledBy T w base a n c vals) (hf : Fr S w w') (hs : ∀ b o, a = some ⟨b, o, none⟩ → ¬ S b) : FilledBy T w' base a n c vals :=
 ⟨h.lot.fr hf hs, h.len, fun b o e k v hk => hf.cell (hs b o e) (h.cell b o e k v hk)⟩
theorem FilledBy.step {T : TypeId} {w w' : World} {base : Nat} {a : Option Addr} {n c : Nat} {vals : List Value} (h : FilledBy T w base a n c vals) (hb : Below w.heap.size w w') : FilledBy T w' base a n c vals :=
 h.fr (S := fun _ => False) (Fr.below hb) (fun _ _ _ h => h)

theorem appLot {ops : Array Oper} {rest : List Oper} {o : Oper} {act : Act} {Q : Exit → Act → World → Prop} {t T : TypeId} {i0 : TypeInfo} {z : Value} {bytes : Nat} (w : World) (hgd : o.guard = none) (s x : Operand)
   (ho : o.op = .call { callee := .builtin .append, args := #[s, x], argTypes := #[t, t] })
   (h1 : Tryz.prog.underlying t = some (.slice T)) (h2 : Tryz.prog.info? T = some i0) (h3 : i0.zero = some z) (h4 : i0.size = 1) (h5 : i0.bytes = bytes) (h6 : z.cells.size = 1) (hby : bytes ≤ 64)
   (base : Nat) (a : Option Addr) (n c : Nat) (vals : List Value) (hs : act.eval s = .slice a n c) (hf : FilledBy T w base a n c vals) (xb : Nat) (u : Value) (hx : act.eval x = .slice (some ⟨xb, 0, none⟩) 1 1)
   (hc : w.cell? ⟨xb, 0, none⟩ = some u) (hu : u.oneCell' = true) (hlen : n < 1000000) (hbase : base ≤ w.heap.size)
   (h : ∀ a' c' w', FilledBy T w' base a' (n + 1) c' (vals ++ [u]) → ((∃ b off, a = some ⟨b, off, none⟩ ∧ a' = a ∧ c' = c ∧ n < c ∧ w' = w.setCell ⟨b, off + n, none⟩ u) ∨ (∃ g, a' = some ⟨g, 0, none⟩ ∧ w.heap.size ≤ g ∧ Below w.heap.size w w')) → wpList Tryz.prog ops Q rest (act.put o.dst (.slice a' (n + 1) c')) w') : wpList Tryz.prog ops Q (o :: rest) act w := by
 have hnews : ∀ j v, [u][j]? = some v → w.cell? ((⟨xb, 0, none⟩ : Addr).add j) = some v := by
   intro j v hj
   cases j with
   | zero => simp at hj; subst hj; simpa [Addr.add] using hc
   | succ j => simp at hj
 have h1c : ∀ v ∈ [u], v.oneCell' = true := fun v hv => by simp at hv; subst hv; exact hu
 have grow : ∀ v' w', w'.ownsRow w.heap.size T 1 v' (n + 1) (vals ++ [u]) → w.grownBy w' none → wpList Tryz.prog ops Q rest (act.put o.dst v') w' := by
   intro v' w' hown hgr
   obtain ⟨e1, e2⟩ := hown
   rcases e2 with ⟨e, e0⟩ | ⟨g, cap, cur, e, hg, hh, hcc, hm, hsz, ht⟩
   · omega
   · subst e
     refine h (some ⟨g, 0, none⟩) cap w' ⟨.inr ⟨g, 0, cur, rfl, by omega, hh, by omega, hcc⟩, by rw [List.length_append, hf.len]; rfl, fun b o e k v hk => ?_⟩ (.inr ⟨g, rfl, hg, (Below.refl _ w).grown hgr (Nat.le_refl _) (fun k hk => by cases hk)⟩)
     cases e
     have hkl := (List.getElem?_eq_some_iff.1 hk).1
     rw [List.length_append, hf.len, List.length_singleton] at hkl
     rw [cell_of_row w' g _ cur _ _ hh, Nat.zero_add]
     have h5 : (cur.toList.take ((n + 1) * 1))[k]? = some v := by rw [ht]; exact hk
     rw [List.getElem?_take_of_lt (by omega)] at h5
     simpa using h5
 have hmx : n + 1 ≤ maxLen := by unfold maxLen; omega
 have hbx : (n + 1) * bytes ≤ 140737488355328 := by
   have : (n + 1) * bytes ≤ 1000000 * 64 := Nat.mul_le_mul (by omega) hby
   omega
 rcases hf.lot with ⟨h0, hc0⟩ | ⟨b, off, cur, ea, hb, hh, hoc, hnc⟩
 · subst h0
   subst hc0
   have hv : vals = [] := List.eq_nil_of_length_eq_zero hf.len
   exact wpList_append_grows w hgd s x t ho T i0 z 1 bytes h1 h2 h3 h4 h5 h6 (by omega) a 0 0 vals hs (fun _ => ⟨rfl, rfl⟩) (by rw [hf.len]) (fun b _ j v hj => by rw [hv] at hj; simp at hj) ⟨xb, 0, none⟩ 1 1 [u] hx rfl hnews h1c (by omega) hmx hbx
     (fun v' w' a1 a2 => grow v' w' a1 a2)
 · subst ea
   refine wpList_append_arg w hgd s x t ho T i0 z 1 bytes h1 h2 h3 h4 h5 h6 (by omega) b off n c vals hs (by rw [hf.len]; omega) (fun j v hj => hf.cell b off rfl j v hj) ⟨xb, 0, none⟩ 1 1 [u] hx rfl hnews h1c ?_ hmx hbx ?_ (fun _ v' w' a1 a2 => grow v' w' a1 a2)
   · intro hroom j hj
     simp at hj
     subst hj
     rw [cell_of_row w b _ cur _ _ hh, frozen_of_row w b _ cur _ hh]
     exact ⟨by simp; omega, rfl⟩
   · intro hroom
     rw [show w.setCells b (off + n * 1) [u] = w.setCell ⟨b, off + n, none⟩ u by simp [World.setCells]]
     refine h (some ⟨b, off, none⟩) c _ ⟨.inr ⟨b, off, cur.setIfInBounds (off + n) u, rfl, hb, by rw [heap_setCell_same w b _ cur _ _ hh], by simpa using hoc, by omega⟩, by rw [List.length_append, hf.len]; rfl, fun b' o' e k v hk => ?_⟩ (.inl ⟨b, off, rfl, rfl, rfl, by omega, rfl⟩)
     cases e
     have hkl := (List.getElem?_eq_some_iff.1 hk).1
     rw [List.length_append, hf.len, List.length_singleton] at hkl
     rw [cell_of_row _ b _ _ _ _ (heap_setCell_same w b _ cur _ _ hh)]
     by_cases e : k = n
     · subst e
       rw [List.getElem?_append_right (by rw [hf.len]; exact Nat.le_refl _), hf.len] at hk
       simp at hk
       subst hk
       rw [Array.getElem?_setIfInBounds, if_pos rfl, if_pos (by omega)]
     · rw [List.getElem?_append_left (by rw [hf.len]; omega)] at hk
       have := hf.cell b off rfl k v hk
       rw [cell_of_row w b _ cur _ _ hh] at this
       rw [Array.getElem?_setIfInBounds, if_neg (by omega)]
       exact this
end Go.Proofs.YtkddkkcfpnndlaaGreatDoor

namespace Go.Proofs.YtkddkkcfpnndlaaGreatDoor
open Go.RowKit

structure Held where
 a : Option Addr
 n : Nat
 c : Nat
 la : Option Addr
 ln : Nat
 lc : Nat
 no : Nat
def Held.cells (h : Held) : List Value := [.slice h.a h.n h.c, .slice h.la h.ln h.lc, .int .i64 (h.no : Int)]
def heldCells (l : List Held) : List Value := l.flatMap Held.cells
theorem heldCells_snoc (l : List Held) (h : Held) : heldCells (l ++ [h]) = heldCells l ++ h.cells := by simp [heldCells]
theorem heldCells_get {l : List Held} {i : Nat} {h : Held} (hi : l[i]? = some h) (j : Nat) (hj : j < 3) : (heldCells l)[i * 3 + j]? = h.cells[j]? := by
 induction l generalizing i with
 | nil => simp at hi
 | cons h0 l ih =>
   unfold heldCells at *
   rw [List.flatMap_cons]
   cases i with
   | zero =>
     simp at hi
     subst hi
     rw [List.getElem?_append_left (by simp [Held.cells]; omega)]; simp
   | succ i =>
     rw [List.getElem?_append_right (by simp [Held.cells]; omega)]
     rw [show (i + 1) * 3 + j - h0.cells.length = i * 3 + j by simp [Held.cells]; omega]
     exact ih (by simpa using hi)
theorem heldCells_set {l : List Held} {i : Nat} {h : Held} (hi : l[i]? = some h) (la : Option Addr) (ln lc : Nat) : (heldCells l).set (i * 3 + 1) (.slice la ln lc) = heldCells (l.set i { h with la := la, ln := ln, lc := lc }) := by
 induction l generalizing i with
 | nil => simp at hi
 | cons h0 l ih =>
   unfold heldCells at *
   rw [List.flatMap_cons]
   cases i with
   | zero =>
     simp at hi
     subst hi
     simp [Held.cells]
   | succ i =>
     rw [List.set_append_right _ _ (by simp [Held.cells]; omega), show (i + 1) * 3 + 1 - h0.cells.length = i * 3 + 1 by simp [Held.cells]; omega, ih (by simpa using hi)]
     simp

def Helds (T : TypeId) (w : World) (kb : Nat) (v : Value) (l : List Held) : Prop := w.ownsRow kb T 3 v l.length (heldCells l)
theorem Helds.nil (T : TypeId) (w : World) (kb : Nat) : Helds T w kb (.slice none 0 0) [] := World.ownsRow_nil _ _ _ _
theorem Helds.fr {T : TypeId} {S : Nat → Prop} {w w' : World} {kb : Nat} {v : Value} {l : List Held} (h : Helds T w kb v l) (hf : Fr S w w') (hs : ∀ b, kb ≤ b → (∃ cur, w.heap[b]? = some (.cells cur T (0, 0))) → ¬ S b) : Helds T w' kb v l := by
 obtain ⟨h1, h2⟩ := h
 refine ⟨h1, ?_⟩
 rcases h2 with h2 | ⟨g, cap, cur, e, hg, hh, r⟩
 · exact .inl h2
 · exact .inr ⟨g, cap, cur, e, hg, by rw [hf.2 g (Array.getElem?_eq_some_iff.1 hh).1 (hs g hg ⟨cur, hh⟩)]; exact hh, r⟩
theorem Helds.form {T : TypeId} {w : World} {kb : Nat} {v : Value} {l : List Held} (h : Helds T w kb v l) : ∃ (a : Option Addr) (c : Nat), v = .slice a l.length c ∧ l.length ≤ c ∧ c ≤ maxLen ∧ (0 < l.length → ∃ g cur, a = some ⟨g, 0, none⟩ ∧ kb ≤ g ∧ w.heap[g]? = some (.cells cur T (0, 0)) ∧ cur.size = c * 3 ∧ cur.toList.take (l.length * 3) = heldCells l) := by
 obtain ⟨h1, h2⟩ := h
 rcases h2 with ⟨e, e0⟩ | ⟨g, cap, cur, e, hg, hh, hc, hm, hs, ht⟩
 · exact ⟨none, 0, by rw [e, e0], by omega, by omega, fun h => by omega⟩
 · exact ⟨_, cap, e, hc, hm, fun _ => ⟨g, cur, rfl, hg, hh, hs, ht⟩⟩
theorem Helds.cell {T : TypeId} {w : World} {kb : Nat} {l : List Held} {g c : Nat} (h : Helds T w kb (.slice (some ⟨g, 0, none⟩) l.length c) l) {i : Nat} {x : Held} (hi : l[i]? = some x) :
   w.cell? ⟨g, i * 3, none⟩ = some (.slice x.a x.n x.c) ∧ w.cell? ⟨g, i * 3 + 1, none⟩ = some (.slice x.la x.ln x.lc) ∧ w.cell? ⟨g, i * 3 + 2, none⟩ = some (.int .i64 (x.no : Int)) ∧ ∀ k, w.frozen? ⟨g, k, none⟩ = false := by
 have hil := (List.getElem?_eq_some_iff.1 hi).1
 obtain ⟨h1, h2⟩ := h
 rcases h2 with ⟨e, _⟩ | ⟨g', cap, cur, e, hg, hh, hc, hm, hs, ht⟩
 · cases e
 · cases e
   have key : ∀ j, j < 3 → cur[i * 3 + j]? = x.cells[j]? := fun j hj => by
     have h5 : (cur.toList.take (l.length * 3))[i * 3 + j]? = x.cells[j]? := by rw [ht]; exact heldCells_get hi j hj
     rw [List.getElem?_take_of_lt (by omega)] at h5
     simpa using h5
   refine ⟨?_, ?_, ?_, fun k => frozen_of_row w g k cur _ hh⟩
   · rw [cell_of_row w g _ cur _ _ hh]; exact key 0 (by omega)
   · rw [cell_of_row w g _ cur _ _ hh]; exact key 1 (by omega)
   · rw [cell_of_row w g _ cur _ _ hh]; exact key 2 (by omega)
theorem Helds.put {T : TypeId} {w : World} {kb : Nat} {l : List Held} {g c : Nat} (h : Helds T w kb (.slice (some ⟨g, 0, none⟩) l.length c) l) {i : Nat} {x : Held} (hi : l[i]? = some x) (la : Option Addr) (ln lc : Nat) :
   Helds T (w.setCell ⟨g, i * 3 + 1, none⟩ (.slice la ln lc)) kb (.slice (some ⟨g, 0, none⟩) l.length c) (l.set i { x with la := la, ln := ln, lc := lc }) := by
 obtain ⟨h1, h2⟩ := h
 unfold Helds
 rw [← heldCells_set hi, List.length_set]
 refine ⟨by rw [List.length_set]; exact h1, ?_⟩
 rcases h2 with ⟨e, _⟩ | ⟨g', cap, cur, e, hg, hh, hc, hm, hs, ht⟩
 · cases e
 · have e' := e
   cases e'
   refine .inr ⟨g, c, cur.setIfInBounds (i * 3 + 1) (.slice la ln lc), rfl, hg, by rw [heap_setCell_same w g _ cur _ _ hh], hc, hm, by simpa using hs, ?_⟩
   rw [Array.toList_setIfInBounds]
   conv => rhs; rw [← ht]
   rw [List.take_set]

end Go.Proofs.YtkddkkcfpnndlaaGreatDoor

namespace Go.Proofs.YtkddkkcfpnndlaaGreatDoor
open Go.RowKit

def bookVals (n : Nat) (vB vI vL : Value) : List Value := [.int .i64 (n : Int), vB, vI, .slice none 0 0, vL, .slice none 0 0, .slice none 0 0, .slice none 0 0, .slice none 0 0, .slice none 0 0]
def BookRow (w : World) (B n : Nat) (vB vI vL : Value) : Prop := VRow w B 44 (bookVals n vB vI vL)
theorem BookRow.cells {w : World} {B n : Nat} {vB vI vL : Value} (h : BookRow w B n vB vI vL) : w.cell? ⟨B, 0, none⟩ = some (.int .i64 (n : Int)) ∧ w.cell? ⟨B, 1, none⟩ = some vB ∧ w.cell? ⟨B, 2, none⟩ = some vI ∧ w.cell? ⟨B, 4, none⟩ = some vL :=
 ⟨VRow.cell h rfl, VRow.cell h rfl, VRow.cell h rfl, VRow.cell h rfl⟩

theorem BookRow.c3 {w : World} {B n : Nat} {vB vI vL : Value} (h : BookRow w B n vB vI vL) : w.cell? ⟨B, 3, none⟩ = some (.slice none 0 0) := VRow.cell h rfl
theorem BookRow.c5 {w : World} {B n : Nat} {vB vI vL : Value} (h : BookRow w B n vB vI vL) : w.cell? ⟨B, 5, none⟩ = some (.slice none 0 0) := VRow.cell h rfl
theorem BookRow.c6 {w : World} {B n : Nat} {vB vI vL : Value} (h : BookRow w B n vB vI vL) : w.cell? ⟨B, 6, none⟩ = some (.slice none 0 0) := VRow.cell h rfl
theorem BookRow.c7 {w : World} {B n : Nat} {vB vI vL : Value} (h : BookRow w B n vB vI vL) : w.cell? ⟨B, 7, none⟩ = some (.slice none 0 0) := VRow.cell h rfl
theorem BookRow.c8 {w : World} {B n : Nat} {vB vI vL : Value} (h : BookRow w B n vB vI vL) : w.cell? ⟨B, 8, none⟩ = some (.slice none 0 0) := VRow.cell h rfl
theorem BookRow.c9 {w : World} {B n : Nat} {vB vI vL : Value} (h : BookRow w B n vB vI vL) : w.cell? ⟨B, 9, none⟩ = some (.slice none 0 0) := VRow.cell h rfl

theorem fillText_none (B n : Nat) (vB vI vL : Value) (w : World) (h : BookRow w B n vB vI vL) : Calls Tryz.prog 68 #[.pointer (some ⟨B, 0, none⟩)] w (fun e w' => (∃ v, e = .returned v) ∧ w' = w) := by
 have c := h.c3
 clear h
 go_enter Tryz.func68, Tryz.ntmps68
 go_wp2_with fail
 go_loopg [2] 0 (fun g' s2 wr => s2 = .int .i64 0 ∧ wr = w)
 case atStart => exact ⟨rfl, rfl⟩
 case round =>
   obtain ⟨rfl, rfl⟩ := hrel
   go_wp2_with fail
   go_end0
   exact ⟨⟨_, rfl⟩, rfl⟩

theorem growText_none (B n : Nat) (vB vI vL : Value) (w : World) (h : BookRow w B n vB vI vL) : Calls Tryz.prog 77 #[.pointer (some ⟨B, 0, none⟩)] w (fun e w' => (∃ v, e = .returned v) ∧ w' = w) := by
 have c := h.c3
 clear h
 go_enter Tryz.func77, Tryz.ntmps77
 go_wp2_with fail
 go_loopg [2] 0 (fun g' s2 wr => s2 = .int .i64 0 ∧ wr = w)
 case atStart => exact ⟨rfl, rfl⟩
 case round =>
   obtain ⟨rfl, rfl⟩ := hrel
   go_wp2_with fail
   go_end0
   exact ⟨⟨_, rfl⟩, rfl⟩

theorem lookText_none (B n : Nat) (vB vI vL : Value) (w : World) (h : BookRow w B n vB vI vL) : Calls Tryz.prog 86 #[.pointer (some ⟨B, 0, none⟩)] w (fun e w' => e = .returned (.bool true) ∧ w' = w) := by
 have c := h.c3
 clear h
 go_enter Tryz.func86, Tryz.ntmps86
 go_wp2_with fail
 go_loopg [3] 0 (fun g' s3 wr => s3 = .int .i64 0 ∧ wr = w)
 case atStart => exact ⟨rfl, rfl⟩
 case round =>
   obtain ⟨rfl, rfl⟩ := hrel
   go_wp2_with fail
   go_ret
   exact ⟨rfl, rfl⟩

theorem fillByteList_none (B n : Nat) (vB vI vL : Value) (w : World) (h : BookRow w B n vB vI vL) : Calls Tryz.prog 70 #[.pointer (some ⟨B, 0, none⟩)] w (fun e w' => (∃ v, e = .returned v) ∧ w' = w) := by
 have c := h.c5
 clear h
 go_enter Tryz.func70, Tryz.ntmps70
 go_wp2_with fail
 go_loopg [2] 0 (fun g' s2 wr => s2 = .int .i64 0 ∧ wr = w)
 case atStart => exact ⟨rfl, rfl⟩
 case round =>
   obtain ⟨rfl, rfl⟩ := hrel
   go_wp2_with fail
   go_end0
   exact ⟨⟨_, rfl⟩, rfl⟩

theorem growByteList_none (B n : Nat) (vB vI vL : Value) (w : World) (h : BookRow w B n vB vI vL) : Calls Tryz.prog 79 #[.pointer (some ⟨B, 0, none⟩)] w (fun e w' => (∃ v, e = .returned v) ∧ w' = w) := by
 have c := h.c5
 clear h
 go_enter Tryz.func79, Tryz.ntmps79
 go_wp2_with fail
 go_loopg [2] 0 (fun g' s2 wr => s2 = .int .i64 0 ∧ wr = w)
 case atStart => exact ⟨rfl, rfl⟩
 case round =>
   obtain ⟨rfl, rfl⟩ := hrel
   go_wp2_with fail
   go_end0
   exact ⟨⟨_, rfl⟩, rfl⟩

theorem lookByteList_none (B n : Nat) (vB vI vL : Value) (w : World) (h : BookRow w B n vB vI vL) : Calls Tryz.prog 88 #[.pointer (some ⟨B, 0, none⟩)] w (fun e w' => e = .returned (.bool true) ∧ w' = w) := by
 have c := h.c5
 clear h
 go_enter Tryz.func88, Tryz.ntmps88
 go_wp2_with fail
 go_loopg [3] 0 (fun g' s3 wr => s3 = .int .i64 0 ∧ wr = w)
 case atStart => exact ⟨rfl, rfl⟩
 case round =>
   obtain ⟨rfl, rfl⟩ := hrel
   go_wp2_with fail
   go_ret
   exact ⟨rfl, rfl⟩

theorem fillWhy_none (B n : Nat) (vB vI vL : Value) (w : World) (h : BookRow w B n vB vI vL) : Calls Tryz.prog 71 #[.pointer (some ⟨B, 0, none⟩)] w (fun e w' => (∃ v, e = .returned v) ∧ w' = w) := by
 have c := h.c6
 clear h
 go_enter Tryz.func71, Tryz.ntmps71
 go_wp2_with fail
 go_loopg [2] 0 (fun g' s2 wr => s2 = .int .i64 0 ∧ wr = w)
 case atStart => exact ⟨rfl, rfl⟩
 case round =>
   obtain ⟨rfl, rfl⟩ := hrel
   go_wp2_with fail
   go_end0
   exact ⟨⟨_, rfl⟩, rfl⟩

theorem growWhy_none (B n : Nat) (vB vI vL : Value) (w : World) (h : BookRow w B n vB vI vL) : Calls Tryz.prog 80 #[.pointer (some ⟨B, 0, none⟩)] w (fun e w' => (∃ v, e = .returned v) ∧ w' = w) := by
 have c := h.c6
 clear h
 go_enter Tryz.func80, Tryz.ntmps80
 go_wp2_with fail
 go_loopg [2] 0 (fun g' s2 wr => s2 = .int .i64 0 ∧ wr = w)
 case atStart => exact ⟨rfl, rfl⟩
 case round =>
   obtain ⟨rfl, rfl⟩ := hrel
   go_wp2_with fail
   go_end0
   exact ⟨⟨_, rfl⟩, rfl⟩

theorem lookWhy_none (B n : Nat) (vB vI vL : Value) (w : World) (h : BookRow w B n vB vI vL) : Calls Tryz.prog 89 #[.pointer (some ⟨B, 0, none⟩)] w (fun e w' => e = .returned (.bool true) ∧ w' = w) := by
 have c := h.c6
 clear h
 go_enter Tryz.func89, Tryz.ntmps89
 go_wp2_with fail
 go_loopg [3] 0 (fun g' s3 wr => s3 = .int .i64 0 ∧ wr = w)
 case atStart => exact ⟨rfl, rfl⟩
 case round =>
   obtain ⟨rfl, rfl⟩ := hrel
   go_wp2_with fail
   go_ret
   exact ⟨rfl, rfl⟩

theorem fillFrame_none (B n : Nat) (vB vI vL : Value) (w : World) (h : BookRow w B n vB vI vL) : Calls Tryz.prog 72 #[.pointer (some ⟨B, 0, none⟩)] w (fun e w' => (∃ v, e = .returned v) ∧ w' = w) := by
 have c := h.c7
 clear h
 go_enter Tryz.func72, Tryz.ntmps72
 go_wp2_with fail
 go_loopg [2] 0 (fun g' s2 wr => s2 = .int .i64 0 ∧ wr = w)
 case atStart => exact ⟨rfl, rfl⟩
 case round =>
   obtain ⟨rfl, rfl⟩ := hrel
   go_wp2_with fail
   go_end0
   exact ⟨⟨_, rfl⟩, rfl⟩

theorem growFrame_none (B n : Nat) (vB vI vL : Value) (w : World) (h : BookRow w B n vB vI vL) : Calls Tryz.prog 81 #[.pointer (some ⟨B, 0, none⟩)] w (fun e w' => (∃ v, e = .returned v) ∧ w' = w) := by
 have c := h.c7
 clear h
 go_enter Tryz.func81, Tryz.ntmps81
 go_wp2_with fail
 go_loopg [2] 0 (fun g' s2 wr => s2 = .int .i64 0 ∧ wr = w)
 case atStart => exact ⟨rfl, rfl⟩
 case round =>
   obtain ⟨rfl, rfl⟩ := hrel
   go_wp2_with fail
   go_end0
   exact ⟨⟨_, rfl⟩, rfl⟩

theorem lookFrame_none (B n : Nat) (vB vI vL : Value) (w : World) (h : BookRow w B n vB vI vL) : Calls Tryz.prog 90 #[.pointer (some ⟨B, 0, none⟩)] w (fun e w' => e = .returned (.bool true) ∧ w' = w) := by
 have c := h.c7
 clear h
 go_enter Tryz.func90, Tryz.ntmps90
 go_wp2_with fail
 go_loopg [3] 0 (fun g' s3 wr => s3 = .int .i64 0 ∧ wr = w)
 case atStart => exact ⟨rfl, rfl⟩
 case round =>
   obtain ⟨rfl, rfl⟩ := hrel
   go_wp2_with fail
   go_ret
   exact ⟨rfl, rfl⟩

theorem fillReply_none (B n : Nat) (vB vI vL : Value) (w : World) (h : BookRow w B n vB vI vL) : Calls Tryz.prog 73 #[.pointer (some ⟨B, 0, none⟩)] w (fun e w' => (∃ v, e = .returned v) ∧ w' = w) := by
 have c := h.c8
 clear h
 go_enter Tryz.func73, Tryz.ntmps73
 go_wp2_with fail
 go_loopg [2] 0 (fun g' s2 wr => s2 = .int .i64 0 ∧ wr = w)
 case atStart => exact ⟨rfl, rfl⟩
 case round =>
   obtain ⟨rfl, rfl⟩ := hrel
   go_wp2_with fail
   go_end0
   exact ⟨⟨_, rfl⟩, rfl⟩

theorem growReply_none (B n : Nat) (vB vI vL : Value) (w : World) (h : BookRow w B n vB vI vL) : Calls Tryz.prog 82 #[.pointer (some ⟨B, 0, none⟩)] w (fun e w' => (∃ v, e = .returned v) ∧ w' = w) := by
 have c := h.c8
 clear h
 go_enter Tryz.func82, Tryz.ntmps82
 go_wp2_with fail
 go_loopg [2] 0 (fun g' s2 wr => s2 = .int .i64 0 ∧ wr = w)
 case atStart => exact ⟨rfl, rfl⟩
 case round =>
   obtain ⟨rfl, rfl⟩ := hrel
   go_wp2_with fail
   go_end0
   exact ⟨⟨_, rfl⟩, rfl⟩

theorem lookReply_none (B n : Nat) (vB vI vL : Value) (w : World) (h : BookRow w B n vB vI vL) : Calls Tryz.prog 91 #[.pointer (some ⟨B, 0, none⟩)] w (fun e w' => e = .returned (.bool true) ∧ w' = w) := by
 have c := h.c8
 clear h
 go_enter Tryz.func91, Tryz.ntmps91
 go_wp2_with fail
 go_loopg [3] 0 (fun g' s3 wr => s3 = .int .i64 0 ∧ wr = w)
 case atStart => exact ⟨rfl, rfl⟩
 case round =>
   obtain ⟨rfl, rfl⟩ := hrel
   go_wp2_with fail
   go_ret
   exact ⟨rfl, rfl⟩

theorem fillRecord_none (B n : Nat) (vB vI vL : Value) (w : World) (h : BookRow w B n vB vI vL) : Calls Tryz.prog 74 #[.pointer (some ⟨B, 0, none⟩)] w (fun e w' => (∃ v, e = .returned v) ∧ w' = w) := by
 have c := h.c9
 clear h
 go_enter Tryz.func74, Tryz.ntmps74
 go_wp2_with fail
 go_loopg [2] 0 (fun g' s2 wr => s2 = .int .i64 0 ∧ wr = w)
 case atStart => exact ⟨rfl, rfl⟩
 case round =>
   obtain ⟨rfl, rfl⟩ := hrel
   go_wp2_with fail
   go_end0
   exact ⟨⟨_, rfl⟩, rfl⟩

theorem growRecord_none (B n : Nat) (vB vI vL : Value) (w : World) (h : BookRow w B n vB vI vL) : Calls Tryz.prog 83 #[.pointer (some ⟨B, 0, none⟩)] w (fun e w' => (∃ v, e = .returned v) ∧ w' = w) := by
 have c := h.c9
 clear h
 go_enter Tryz.func83, Tryz.ntmps83
 go_wp2_with fail
 go_loopg [2] 0 (fun g' s2 wr => s2 = .int .i64 0 ∧ wr = w)
 case atStart => exact ⟨rfl, rfl⟩
 case round =>
   obtain ⟨rfl, rfl⟩ := hrel
   go_wp2_with fail
   go_end0
   exact ⟨⟨_, rfl⟩, rfl⟩

theorem lookRecord_none (B n : Nat) (vB vI vL : Value) (w : World) (h : BookRow w B n vB vI vL) : Calls Tryz.prog 92 #[.pointer (some ⟨B, 0, none⟩)] w (fun e w' => e = .returned (.bool true) ∧ w' = w) := by
 have c := h.c9
 clear h
 go_enter Tryz.func92, Tryz.ntmps92
 go_wp2_with fail
 go_loopg [3] 0 (fun g' s3 wr => s3 = .int .i64 0 ∧ wr = w)
 case atStart => exact ⟨rfl, rfl⟩
 case round =>
   obtain ⟨rfl, rfl⟩ := hrel
   go_wp2_with fail
   go_ret
   exact ⟨rfl, rfl⟩
end Go.Proofs.YtkddkkcfpnndlaaGreatDoor

namespace Go.Proofs.YtkddkkcfpnndlaaGreatDoor
open Go.RowKit

structure Fs (S : Nat → Prop) (w w' : World) : Prop where
 low : Below 0 w w'
 fr : Fr S w w'
 shape : ∀ (b : Nat) (cur : Array Value) (T : TypeId), w.heap[b]? = some (.cells cur T (0, 0)) → ∃ cur', w'.heap[b]? = some (.cells cur' T (0, 0)) ∧ cur'.size = cur.size
theorem Fs.refl (S : Nat → Prop) (w : World) : Fs S w w := ⟨Below.refl _ _, Fr.refl S w, fun _ cur _ h => ⟨cur, h, rfl⟩⟩
theorem Fs.trans {S : Nat → Prop} {w w1 w2 : World} (h : Fs S w w1) (k : Fs S w1 w2) : Fs S w w2 :=
 ⟨h.low.trans k.low, h.fr.trans k.fr, fun b cur T hh => by
   obtain ⟨c1, h1, e1⟩ := h.shape b cur T hh
   obtain ⟨c2, h2, e2⟩ := k.shape b c1 T h1
   exact ⟨c2, h2, e2.trans e1⟩⟩
theorem Fs.mono {S S' : Nat → Prop} {w w' : World} (h : Fs S w w') (hs : ∀ b, b < w.heap.size → S b → S' b) : Fs S' w w' := ⟨h.low, h.fr.mono hs, h.shape⟩
theorem Fs.below {S : Nat → Prop} {w w' : World} (h : Below w.heap.size w w') : Fs S w w' :=
 ⟨h.mono (Nat.zero_le _), Fr.below h, fun b cur T hh => ⟨cur, by rw [h.block b (Array.getElem?_eq_some_iff.1 hh).1]; exact hh, rfl⟩⟩
theorem Fs.set {S : Nat → Prop} (w : World) {b o : Nat} (hS : S b) (v : Value) : Fs S w (w.setCell ⟨b, o, none⟩ v) := by
 refine ⟨(Below.refl 0 w).setCell (Nat.zero_le _) v, Fr.set w _ hS v, fun b' cur T hh => ?_⟩
 by_cases e : b' = b
 · subst e
   exact ⟨cur.setIfInBounds o v, by rw [heap_setCell_same w b' _ cur _ _ hh], by simp⟩
 · exact ⟨cur, by rw [heap_setCell_other w ⟨b, o, none⟩ b' v e]; exact hh, rfl⟩
theorem Fs.to_below {S : Nat → Prop} {w w' : World} (h : Fs S w w') {base : Nat} (hb : base ≤ w.heap.size) (hS : ∀ b, b < base → ¬ S b) : Below base w w' :=
 ⟨h.low.os, h.low.tape, h.low.output, h.low.size, fun k hk => h.fr.2 k (by omega) (hS k hk)⟩
theorem Lot.fs {T : TypeId} {S : Nat → Prop} {w w' : World} {base : Nat} {a : Option Addr} {n c : Nat} (h : Lot T w base a n c) (hf : Fs S w w') : Lot T w' base a n c := by
 rcases h with h | ⟨b, o, cur, e, hb, hh, hc, hn⟩
 · exact .inl h
 · obtain ⟨cur', h', e'⟩ := hf.shape b cur T hh
   exact .inr ⟨b, o, cur', e, hb, h', by omega, hn⟩
theorem FilledBy.fs {T : TypeId} {S : Nat → Prop} {w w' : World} {base : Nat} {a : Option Addr} {n c : Nat} {vals : List Value} (h : FilledBy T w base a n c vals) (hf : Fs S w w') (hs : ∀ b o, a = some ⟨b, o, none⟩ → 0 < c → b < w.heap.size → ¬ S b) : FilledBy T w' base a n c vals :=
 ⟨h.lot.fs hf, h.len, fun b o e k v hk => by
   have hc := h.cell b o e k v hk
   refine hf.fr.cell (hs b o e ?_ (block_lt_of_cell hc)) hc
   have hkl := (List.getElem?_eq_some_iff.1 hk).1
   rw [h.len] at hkl
   rcases h.lot with ⟨h0, _⟩ | ⟨_, _, _, _, _, _, _, hnc⟩
   · omega
   · omega⟩

def Blk (l : List Held) (b : Nat) : Prop := ∃ x, x ∈ l ∧ 0 < x.c ∧ ∃ o, x.a = some ⟨b, o, none⟩
structure Lots (T : TypeId) (w : World) (base kb : Nat) (l : List Held) : Prop where
 lot : ∀ (i : Nat) (x : Held), l[i]? = some x → Lot T w base x.a x.n x.c
 lt : ∀ b, Blk l b → b < kb
 apart : ∀ (i j : Nat) (x y : Held), i ≠ j → l[i]? = some x → l[j]? = some y → ∀ b o o', 0 < x.c → 0 < y.c → x.a = some ⟨b, o, none⟩ → y.a ≠ some ⟨b, o', none⟩
theorem Lots.fs {T : TypeId} {S : Nat → Prop} {w w' : World} {base kb : Nat} {l : List Held} (h : Lots T w base kb l) (hf : Fs S w w') : Lots T w' base kb l :=
 ⟨fun i x hx => (h.lot i x hx).fs hf, h.lt, h.apart⟩
theorem BookRow.fr {w w' : World} {S : Nat → Prop} {B n : Nat} {vB vI vL : Value} (h : BookRow w B n vB vI vL) (hf : Fr S w w') (hS : ¬ S B) : BookRow w' B n vB vI vL := by
 unfold BookRow VRow at *
 rw [hf.2 B (Array.getElem?_eq_some_iff.1 h).1 hS]; exact h

structure MkP (kb : Nat) (T : TypeId) (P : World → Nat → Value → Prop) : Prop where
 one : ∀ w no v, P w no v → v.oneCell' = true
 fr : ∀ (S : Nat → Prop) (w w' : World) (no : Nat) (v : Value), P w no v → Fr S w w' → (∀ b cur, kb ≤ b → w.heap[b]? = some (.cells cur 3 (0, 0)) → ¬ S b) → P w' no v
 set : ∀ (w : World) (b o no : Nat) (u v : Value) (cur : Array Value), w.heap[b]? = some (.cells cur T (0, 0)) → P w no v → P (w.setCell ⟨b, o, none⟩ u) no v
theorem MkP.below {kb : Nat} {T : TypeId} {P : World → Nat → Value → Prop} (M : MkP kb T P) {w w' : World} {no : Nat} {v : Value} (h : P w no v) (hb : Below w.heap.size w w') : P w' no v :=
 M.fr (fun _ => False) w w' no v h (Fr.below hb) (fun _ _ _ _ h => h)

def MF (P : World → Nat → Value → Prop) (T : TypeId) (w : World) (base : Nat) (a : Option Addr) (n c no : Nat) : Prop := ∃ vals, FilledBy T w base a n c vals ∧ ∀ v, v ∈ vals → P w no v
theorem MF.lot {P : World → Nat → Value → Prop} {T : TypeId} {w : World} {base : Nat} {a : Option Addr} {n c no : Nat} (h : MF P T w base a n c no) : Lot T w base a n c := by
 obtain ⟨vals, h, _⟩ := h; exact h.lot
theorem MF.fs {kb : Nat} {P : World → Nat → Value → Prop} {T : TypeId} (M : MkP kb T P) {S : Nat → Prop} {w w' : World} {base : Nat} {a : Option Addr} {n c no : Nat} (h : MF P T w base a n c no) (hf : Fs S w w') (hs : ∀ b o, a = some ⟨b, o, none⟩ → 0 < c → b < w.heap.size → ¬ S b)
   (hp : ∀ b cur, kb ≤ b → w.heap[b]? = some (.cells cur 3 (0, 0)) → ¬ S b) : MF P T w' base a n c no := by
 obtain ⟨vals, h, k⟩ := h
 exact ⟨vals, h.fs hf hs, fun v hv => M.fr S w w' no v (k v hv) hf.fr hp⟩
theorem MF.step {kb : Nat} {P : World → Nat → Value → Prop} {T : TypeId} (M : MkP kb T P) {w w' : World} {base : Nat} {a : Option Addr} {n c no : Nat} (h : MF P T w base a n c no) (hb : Below w.heap.size w w') : MF P T w' base a n c no :=
 h.fs M (S := fun _ => False) (Fs.below hb) (fun _ _ _ _ _ h => h) (fun _ _ _ _ h => h)
theorem MF.of_cells {P : World → Nat → Value → Prop} {T : TypeId} {w : World} {base : Nat} {a : Option Addr} {n c no : Nat} (hl : Lot T w base a n c) (h : ∀ b o, a = some ⟨b, o, none⟩ → ∀ k, k < n → ∃ v, w.cell? ⟨b, o + k, none⟩ = some v ∧ P w no v) : MF P T w base a n c no := by
 rcases hl with ⟨h0, hc⟩ | ⟨b, o, cur, e, hb, hh, hc, hn⟩
 · subst h0
   exact ⟨[], ⟨.inl ⟨rfl, hc⟩, rfl, fun _ _ _ k v hk => by simp at hk⟩, fun v hv => by cases hv⟩
 · refine ⟨(List.range n).map fun k => cur[o + k]?.getD (.bool false), ⟨.inr ⟨b, o, cur, e, hb, hh, hc, hn⟩, by simp, fun b' o' e' k v hk => ?_⟩, fun v hv => ?_⟩
   · rw [e] at e'; cases e'
     rw [cell_of_row w b _ cur _ _ hh]
     have hk' : k < n := by have := (List.getElem?_eq_some_iff.1 hk).1; simpa using this
     rw [List.getElem?_map, List.getElem?_range hk'] at hk
     simp only [Option.map_some, Option.some.injEq] at hk
     rw [← hk, Array.getElem?_eq_getElem (by omega)]; simp
   · simp only [List.mem_map, List.mem_range] at hv
     obtain ⟨k, hk, rfl⟩ := hv
     obtain ⟨v, h1, h2⟩ := h b o e k hk
     rw [cell_of_row w b _ cur _ _ hh] at h1
     rw [h1]; exact h2
theorem MF.cells {P : World → Nat → Value → Prop} {T : TypeId} {w : World} {base : Nat} {a : Option Addr} {n c no : Nat} (h : MF P T w base a n c no) {k : Nat} (hk : k < n) : ∃ b o v, a = some ⟨b, o, none⟩ ∧ w.cell? ⟨b, o + k, none⟩ = some v ∧ P w no v := by
 obtain ⟨vals, h1, h2⟩ := h
 rcases h1.lot with ⟨h0, _⟩ | ⟨b, o, cur, e, _⟩
 · omega
 · have hkl : k < vals.length := by rw [h1.len]; exact hk
   exact ⟨b, o, vals[k], e, h1.cell b o e k _ (by simp), h2 _ (List.getElem_mem hkl)⟩

def AtL (w : World) (x : Held) (a : Option Addr) (c : Nat) : Prop := (a = x.a ∧ c = x.c) ∨ ∃ g, a = some ⟨g, 0, none⟩ ∧ w.heap.size ≤ g
structure Grow (P : World → Nat → Value → Prop) (T : TypeId) (wo wr : World) (base : Nat) (x : Held) (k : Nat) (a : Option Addr) (c : Nat) : Prop where
 old : MF P T wr base x.a x.n x.c x.no
 long : MF P T wr base a (x.n + k) c x.no
 at' : AtL wo x a c
 fs : Fs (fun b => wo.heap.size ≤ b ∨ (0 < x.c ∧ ∃ o, x.a = some ⟨b, o, none⟩)) wo wr
theorem Grow.start {P : World → Nat → Value → Prop} {T : TypeId} {wo : World} {base : Nat} {x : Held} (h : MF P T wo base x.a x.n x.c x.no) : Grow P T wo wo base x 0 x.a x.c := ⟨h, h, .inl ⟨rfl, rfl⟩, Fs.refl _ _⟩
theorem Grow.below {kb : Nat} {P : World → Nat → Value → Prop} {T : TypeId} (M : MkP kb T P) {wo wr w' : World} {base : Nat} {x : Held} {k : Nat} {a : Option Addr} {c : Nat} (h : Grow P T wo wr base x k a c) (hb : Below wr.heap.size wr w') : Grow P T wo w' base x k a c :=
 ⟨h.old.step M hb, h.long.step M hb, h.at', h.fs.trans (Fs.below hb)⟩
theorem Grow.next {kb : Nat} {P : World → Nat → Value → Prop} {T : TypeId} (M : MkP kb T P) {wo wr w' : World} {base : Nat} {x : Held} {k : Nat} {a a' : Option Addr} {c c' : Nat} {vals : List Value} {u : Value} (h : Grow P T wo wr base x k a c) (hx : ∀ b o, x.a = some ⟨b, o, none⟩ → 0 < x.c → b < wo.heap.size)
   (hv : ∀ v, v ∈ vals → P wr x.no v) (hu : P wr x.no u) (hf : FilledBy T w' base a' (x.n + k + 1) c' (vals ++ [u]))
   (hd : (∃ b off, a = some ⟨b, off, none⟩ ∧ a' = a ∧ c' = c ∧ x.n + k < c ∧ w' = wr.setCell ⟨b, off + (x.n + k), none⟩ u) ∨ (∃ g, a' = some ⟨g, 0, none⟩ ∧ wr.heap.size ≤ g ∧ Below wr.heap.size wr w')) : Grow P T wo w' base x (k + 1) a' c' := by
 rcases hd with ⟨b, off, rfl, rfl, rfl, hlt, rfl⟩ | ⟨g, rfl, hg, hb⟩
 · obtain ⟨cur, hcur⟩ : ∃ cur, wr.heap[b]? = some (.cells cur T (0, 0)) := by
     rcases h.long.lot with ⟨h0, h1⟩ | ⟨b', o', cur, e, _, hh, _⟩
     · omega
     · cases e; exact ⟨cur, hh⟩
   have hS : wo.heap.size ≤ b ∨ (0 < x.c ∧ ∃ o, x.a = some ⟨b, o, none⟩) := by
     rcases h.at' with ⟨e1, e2⟩ | ⟨g, e1, hg⟩
     · exact .inr ⟨by omega, off, e1.symm⟩
     · cases e1; exact .inl hg
   have hF := Fs.set (S := fun b => wo.heap.size ≤ b ∨ (0 < x.c ∧ ∃ o, x.a = some ⟨b, o, none⟩)) wr (o := off + (x.n + k)) hS u
   have hset : ∀ v, P wr x.no v → P (wr.setCell ⟨b, off + (x.n + k), none⟩ u) x.no v := fun v hp => M.set wr b _ x.no u v cur hcur hp
   refine ⟨?_, ⟨_, hf, fun v hm => ?_⟩, h.at', h.fs.trans hF⟩
   · obtain ⟨vs, h1, h2⟩ := h.old
     refine ⟨vs, ⟨h1.lot.fs hF, h1.len, fun b' o' e j v hj => ?_⟩, fun v hm => hset v (h2 v hm)⟩
     have hjn := (List.getElem?_eq_some_iff.1 hj).1
     rw [h1.len] at hjn
     have hc : 0 < x.c := by
       rcases h1.lot with ⟨h0, _⟩ | ⟨_, _, _, _, _, _, _, hnc⟩
       · omega
       · omega
     rw [World.cell?_setCell_other]
     · exact h1.cell b' o' e j v hj
     · intro e2
       injection e2 with e3 e4
       subst e3
       rcases h.at' with ⟨e1, _⟩ | ⟨g, e1, hg⟩
       · rw [e] at e1; cases e1; omega
       · cases e1
         have := hx b o' e hc
         omega
   · rw [List.mem_append] at hm
     rcases hm with hm | hm
     · exact hset v (hv v hm)
     · simp at hm; subst hm; exact hset v hu
 · refine ⟨h.old.step M hb, ⟨_, hf, fun v hm => ?_⟩, .inr ⟨g, rfl, Nat.le_trans h.fs.fr.1 hg⟩, h.fs.trans (Fs.below hb)⟩
   rw [List.mem_append] at hm
   rcases hm with hm | hm
   · exact M.below (hv v hm) hb
   · simp at hm; subst hm; exact M.below hu hb
structure Grew (P : World → Nat → Value → Prop) (T : TypeId) (w wr : World) (base : Nat) (x y : Held) : Prop where
 same : y.a = x.a ∧ y.n = x.n ∧ y.c = x.c ∧ y.no = x.no
 ln : y.ln = x.n + 40
 long : MF P T wr base y.la y.ln y.lc x.no
 at' : AtL w x y.la y.lc
structure GrewTo (P : World → Nat → Value → Prop) (T : TypeId) (w wr : World) (base B : Nat) (a : Option Addr) (l l' : List Held) (i : Nat) : Prop where
 len : l'.length = l.length
 fs : Fs (fun b => Blk l b ∨ ∃ o, a = some ⟨b, o, none⟩) w wr
 old : ∀ (j : Nat) (x : Held), l[j]? = some x → MF P T wr base x.a x.n x.c x.no
 done : ∀ (j : Nat) (x y : Held), j < i → l[j]? = some x → l'[j]? = some y → Grew P T w wr base x y
 yet : ∀ (j : Nat) (x y : Held), i ≤ j → l[j]? = some x → l'[j]? = some y → y = x

theorem GrewTo.step {P : World → Nat → Value → Prop} {T HT : TypeId} (hHT : HT ≠ 3) {w w1 wo wr : World} {base B g o c' i : Nat} (M : MkP B T P) {a' : Option Addr} {l l' : List Held} {x : Held} (h : GrewTo P T w w1 base B (some ⟨g, 0, none⟩) l l' i) (hw : Below w1.heap.size w1 wo) (hL : Lots T w base B l) (hBg : B < g) (hg : g < w.heap.size)
   (hgT : ∃ cur, wr.heap[g]? = some (.cells cur HT (0, 0))) (hx : l[i]? = some x)
   (hG : Grow P T wo wr base x 40 a' c') (v : Value) : GrewTo P T w (wr.setCell ⟨g, o, none⟩ v) base B (some ⟨g, 0, none⟩) l (l'.set i { x with la := a', ln := x.n + 40, lc := c' }) (i + 1) := by
 have hxm : x ∈ l := List.mem_of_getElem? hx
 have hs1 := h.fs.fr.1
 have hs2 := hw.size
 have hset : Fs (fun b => b = g) wr (wr.setCell ⟨g, o, none⟩ v) := Fs.set (S := fun b => b = g) wr rfl v
 have hsP : ∀ b cur, B ≤ b → wr.heap[b]? = some (.cells cur 3 (0, 0)) → ¬ (fun b => b = g) b := by
   intro b cur _ hb e
   obtain ⟨cur', hc⟩ := hgT
   have e' : b = g := e
   rw [e', hc] at hb
   injection hb with e1; injection e1 with _ e2
   exact hHT e2
 have hlt : ∀ (j : Nat) (y : Held), l[j]? = some y → ∀ b o, y.a = some ⟨b, o, none⟩ → 0 < y.c → b < B := fun j y hy b o e hc => hL.lt b ⟨y, List.mem_of_getElem? hy, hc, o, e⟩
 have hGP : ∀ b cur, B ≤ b → wo.heap[b]? = some (.cells cur 3 (0, 0)) → ¬ (wo.heap.size ≤ b ∨ (0 < x.c ∧ ∃ o, x.a = some ⟨b, o, none⟩)) := by
   intro b cur hB hb hS
   rcases hS with hS | ⟨hc, o2, e2⟩
   · have := (Array.getElem?_eq_some_iff.1 hb).1; omega
   · have := hlt i x hx b o2 e2 hc; omega
 have hold : ∀ (j : Nat) (y : Held), l[j]? = some y → MF P T wr base y.a y.n y.c y.no := by
   intro j y hy
   by_cases ej : j = i
   · subst ej
     rw [hx] at hy; cases hy
     exact hG.old
   · refine ((h.old j y hy).step M hw).fs M hG.fs (fun b o e hc _ hS => ?_) hGP
     have hb := hlt j y hy b o e hc
     rcases hS with hS | ⟨hxc, o2, e2⟩
     · omega
     · exact hL.apart j i y x ej hy hx b o o2 hc hxc e e2
 refine ⟨by rw [List.length_set]; exact h.len, ?_, ?_, ?_, ?_⟩
 · refine ((h.fs.trans (Fs.below hw)).trans (hG.fs.mono ?_)).trans (hset.mono ?_)
   · intro b hb hS
     rcases hS with hS | ⟨hc, o2, e⟩
     · omega
     · exact .inl ⟨x, hxm, hc, o2, e⟩
   · intro b _ e; exact .inr ⟨0, by rw [e]⟩
 · intro j y hy
   refine (hold j y hy).fs M hset (fun b o e hc _ hS => ?_) hsP
   have := hlt j y hy b o e hc
   have hS' : b = g := hS
   omega
 · intro j y z hj hy hz
   rw [List.getElem?_set] at hz
   by_cases ej : i = j
   · subst ej
     rw [hx] at hy; cases hy
     rw [if_pos rfl] at hz
     split at hz
     · cases hz
       refine ⟨⟨rfl, rfl, rfl, rfl⟩, rfl, ?_, ?_⟩
       · refine hG.long.fs M hset (fun b o2 e hc _ hS => ?_) hsP
         have hS' : b = g := hS
         rcases hG.at' with ⟨e1, e2⟩ | ⟨g2, e1, hg2⟩
         · have := hlt i x hx b o2 (e1 ▸ e) (e2 ▸ hc)
           omega
         · rw [e1] at e; cases e; omega
       · rcases hG.at' with ⟨e1, e2⟩ | ⟨g2, e1, hg2⟩
         · exact .inl ⟨e1, e2⟩
         · exact .inr ⟨g2, e1, by omega⟩
     · cases hz
   · rw [if_neg ej] at hz
     have hd := h.done j y z (by omega) hy hz
     refine ⟨hd.same, hd.ln, ?_, hd.at'⟩
     have far : ∀ b o2, z.la = some ⟨b, o2, none⟩ → 0 < z.lc → b < wo.heap.size → b < w1.heap.size → b ≠ g ∧ ¬ (wo.heap.size ≤ b ∨ (0 < x.c ∧ ∃ o, x.a = some ⟨b, o, none⟩)) := by
       intro b o2 e hc hb1 hb2
       rcases hd.at' with ⟨e1, e2⟩ | ⟨g2, e1, hg2⟩
       · rw [e1] at e
         have := hlt j y hy b o2 e (e2 ▸ hc)
         refine ⟨by omega, fun hS => ?_⟩
         rcases hS with hS | ⟨hxc, o3, e3⟩
         · omega
         · exact hL.apart j i y x (fun e => ej e.symm) hy hx b o2 o3 (e2 ▸ hc) hxc e e3
       · rw [e1] at e
         cases e
         refine ⟨by omega, fun hS => ?_⟩
         rcases hS with hS | ⟨hxc, o3, e3⟩
         · omega
         · have := hlt i x hx b o3 e3 hxc
           omega
     have inw1 : ∀ b o2, z.la = some ⟨b, o2, none⟩ → 0 < z.lc → b < w1.heap.size := by
       intro b o2 e hc
       rcases hd.long.lot with ⟨_, h0⟩ | ⟨b2, o3, cur, e4, _, hh, _⟩
       · omega
       · rw [e] at e4; cases e4; exact (Array.getElem?_eq_some_iff.1 hh).1
     exact ((hd.long.step M hw).fs M hG.fs (fun b o2 e hc hb => (far b o2 e hc hb (inw1 b o2 e hc)).2) hGP).fs M hset (fun b o2 e hc _ => (far b o2 e hc (by have := inw1 b o2 e hc; omega) (inw1 b o2 e hc)).1) hsP
 · intro j y z hj hy hz
   rw [List.getElem?_set, if_neg (by omega)] at hz
   exact h.yet j y z (by omega) hy hz
end Go.Proofs.YtkddkkcfpnndlaaGreatDoor
