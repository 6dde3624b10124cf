/- Slices of a call's own, of integers and of lists of integers: what an append leaves, and where. -/
import Derived.Test.YtkddkkcfpnndlaaGreatDoorVq05
import Derived.Maps.AppendAt
namespace Go.Proofs.YtkddkkcfpnndlaaGreatDoor
open Go.RowKit

theorem infoInts : (Tryz.prog.info? 25).map (fun i => (i.zero, i.size, i.bytes)) = some (some (.slice none 0 0), 1, 24) := by kernel_rfl

theorem Ints.kept {w w' : World} {a : Option Addr} {n c : Nat} {xs : List Int} {row : Option Nat} (h : Ints w a n c xs) (hg : w.grownBy w' row) (hne : 0 < n → ∀ b o, a = some ⟨b, o, none⟩ → row ≠ some b) : Ints w' a n c xs :=
  ⟨h.len, h.cap, h.big, h.addr, fun b o e k x hx => hg.cell (h.cell b o e k x hx) (fun e' => hne (by have := (List.getElem?_eq_some_iff.1 hx).1; have := h.len; omega) b o e e'.symm), h.bd, h.nil⟩

theorem Ints.lt {w : World} {a : Option Addr} {n c : Nat} {xs : List Int} (h : Ints w a n c xs) (hn : 0 < n) {b o : Nat} (e : a = some ⟨b, o, none⟩) : b < w.heap.size := by
  obtain ⟨z, hz, _⟩ := h.get hn
  exact block_lt_of_cell (h.cell b o e 0 z hz)

/-- 'append(s, l...)' at ints -/
theorem appMany {ops : Array Oper} {rest : List Oper} {o : Oper} {a : Act} {Q : Exit → Act → World → Prop} (w : World) (hgd : o.guard = none) (s x : Operand)
    (ho : o.op = .call { callee := .builtin .append, args := #[s, x], argTypes := #[25, 25] })
    (base : Nat) (v : Value) (xs : List Int) (hs : a.eval s = v) (hown : Own w base v xs) (la : Option Addr) (m c : Nat) (ys : List Int) (hx : a.eval x = .slice la m c) (hy : Ints w la m c ys) (hpos : 0 < m)
    (hlen : xs.length + m < 17592186044000) (hbase : base ≤ w.heap.size)
    (h : ∀ v' w', Own w' base v' (xs ++ ys) → w.grownBy w' v.ownBlock → Below base w w' → (v'.ownBlock = v.ownBlock ∨ v'.ownBlock = some w.heap.size) → wpList Tryz.prog ops Q rest (a.put o.dst v') w') : wpList Tryz.prog ops Q (o :: rest) a w := by
  obtain ⟨i0, hi, hz0, hz1, hz2⟩ := info_parts infoInt
  obtain ⟨b, off, rfl⟩ := hy.addr hpos
  have hl := hy.len
  refine wpList_append_own_at w hgd s x _ ho base 3 i0 _ 1 8 Tryz.underlying25 hi hz0 hz1 hz2 rfl (by decide) v xs.length _ hs hown ⟨b, off, none⟩ m c (ys.map (Value.int .i64)) hx (by simp [hl]) ?_ ?_ ?_ ?_ hbase ?_
  · intro j u hu
    rw [List.getElem?_map] at hu
    cases hyj : ys[j]? with
    | none => rw [hyj] at hu; cases hu
    | some y =>
      rw [hyj] at hu
      cases hu
      have hcell := hy.cell b off rfl j y hyj
      have e1 : (Addr.mk b off none).add j = ⟨b, off + j, none⟩ := by
        unfold Addr.add; split
        · subst j; rfl
        · rfl
      rw [e1]; exact hcell
  · intro u hu
    obtain ⟨y, _, rfl⟩ := List.mem_map.1 hu
    rfl
  · unfold maxLen; omega
  · omega
  · intro v' w' hown' hg _ hat
    refine h v' w' ?_ hg ((Below.refl base w).grown hg hbase fun k hk => (World.ownsRow.lt hown k hk).1) hat
    unfold Own
    rw [List.map_append, List.length_append, hl]; exact hown'

/-! ### lists of lists -/
/-- v has the lists xss, in a block of the call's own, from base on; no list lies in that block -/
def OwnRows (w : World) (base : Nat) (v : Value) (xss : List (List Int)) : Prop :=
  ∃ vals : List Value, w.ownsRow base 25 1 v vals.length vals ∧ vals.length = xss.length ∧
    ∀ (i : Nat) (xs : List Int), xss[i]? = some xs → ∃ (a : Option Addr) (n c : Nat), vals[i]? = some (Value.slice a n c) ∧ Ints w a n c xs ∧ (0 < n → ∀ b o : Nat, a = some ⟨b, o, none⟩ → v.ownBlock ≠ some b)

theorem OwnRows.nil (w : World) (base : Nat) : OwnRows w base (.slice none 0 0) [] := ⟨[], World.ownsRow_nil _ _ _ _, rfl, fun i xs h => by simp at h⟩

theorem OwnRows.below {w w' : World} {base B : Nat} {v : Value} {xss : List (List Int)} (h : OwnRows w base v xss) (hb : Below B w w') (hB : w.heap.size ≤ B) : OwnRows w' base v xss := by
  obtain ⟨vals, ⟨h1, h2⟩, h3, h4⟩ := h
  refine ⟨vals, ⟨h1, ?_⟩, h3, fun i xs hi => ?_⟩
  · rcases h2 with h2 | ⟨g, cap, cur, hv, hg, hh, r⟩
    · exact .inl h2
    · have hlt : g < w.heap.size := by
        rcases Nat.lt_or_ge g w.heap.size with h | h
        · exact h
        · rw [Array.getElem?_eq_none h] at hh; cases hh
      exact .inr ⟨g, cap, cur, hv, hg, by rw [hb.block g (by omega)]; exact hh, r⟩
  · obtain ⟨a, n, c, e1, e2, e3⟩ := h4 i xs hi
    exact ⟨a, n, c, e1, e2.below hb hB, e3⟩

theorem OwnRows.lt {w : World} {base : Nat} {v : Value} {xss : List (List Int)} (h : OwnRows w base v xss) : ∀ k, v.ownBlock = some k → base ≤ k ∧ k < w.heap.size := by
  obtain ⟨vals, h1, _⟩ := h
  exact World.ownsRow.lt h1

theorem OwnRows.rows {w : World} {base : Nat} {v : Value} {xss : List (List Int)} (h : OwnRows w base v xss) (hbig : xss.length ≤ 4611686018427387904) : ∃ a c, v = .slice a xss.length c ∧ Rows w a xss.length c xss := by
  obtain ⟨vals, ⟨h1, h2⟩, h3, h4⟩ := h
  rcases h2 with ⟨hv, hn⟩ | ⟨g, cap, cur, hv, hg, hh, hc, hm, hs, ht⟩
  · have : xss = [] := List.eq_nil_of_length_eq_zero (by omega)
    subst this
    exact ⟨none, 0, hv, Rows.nil _ _ _⟩
  · refine ⟨some ⟨g, 0, none⟩, cap, by rw [hv, h3], rfl, by omega, hbig, fun _ => ⟨_, _, rfl⟩, fun b o e k xs hx => ?_⟩
    cases e
    obtain ⟨a, n, c, e1, e2, _⟩ := h4 k xs hx
    refine ⟨a, n, c, ?_, e2⟩
    rw [cell_of_row w g _ cur _ _ hh]
    have hk : k < vals.length := (List.getElem?_eq_some_iff.1 e1).1
    have h5 : (cur.toList.take (vals.length * 1))[k]? = some (.slice a n c) := by rw [ht]; exact e1
    rw [List.getElem?_take_of_lt (by omega)] at h5
    simpa using h5

end Go.Proofs.YtkddkkcfpnndlaaGreatDoor
