/- Walks: paths.begin. Walks: a search goes. -/
import Derived.Test.YtkddkkcfpnndlaaGreatDoorPq08
import Derived.Deep.RegionLaw
import Derived.ScopeJumps
namespace Go.Proofs.YtkddkkcfpnndlaaGreatDoor
open Go.RowKit

/-- what a bidder has -/
def hasAt (has : List Int) (i : Nat) : Option Nat := match has[i]? with
  | some h => if h = -1 then none else some h.toNat
  | none => none
theorem fitsB_parts {g : List (List Int)} {items : Int} {has : List Int} (h : fitsB g items has = true) : gcheck g items = true ∧ has.length = g.length ∧ fitTo g has has.length = true := by
  simp only [fitsB, Bool.and_eq_true, decide_eq_true_eq] at h
  exact ⟨h.1.1, h.1.2, h.2⟩

theorem okFit_at {g : List (List Int)} {has : List Int} {n i : Nat} {x : Int} (h : fitTo g has n = true) (hi : i < n) (hx : has[i]? = some x) (hne : x ≠ -1) : x ∈ (g[i]?.getD []) ∧ x ∉ has.take i := by
  unfold fitTo at h
  have := List.all_eq_true.1 h i (List.mem_range.2 hi)
  rw [hx] at this
  simpa [okFit, hne] using this

theorem fits_item {g : List (List Int)} {items : Int} {has : List Int} (h : fitsB g items has = true) {i : Nat} {x : Int} (hx : has[i]? = some x) (hne : x ≠ -1) : 0 ≤ x ∧ x < items ∧ items ≤ 8 ∧ x ∈ (g[i]?.getD []) := by
  obtain ⟨h1, h2, h3⟩ := fitsB_parts h
  obtain ⟨q1, q2, q3, q4⟩ := gcheck_parts h1
  have hil : i < has.length := (List.getElem?_eq_some_iff.1 hx).1
  have ho := okFit_at h3 hil hx hne
  have hg : g[i]? = some (g[i]'(by omega)) := by simp
  rw [hg, Option.getD_some] at ho
  have := risesFrom_bd (q4 _ (List.getElem_mem _)) x ho.1
  rw [hg, Option.getD_some]
  exact ⟨by omega, by omega, q2, ho.1⟩

end Go.Proofs.YtkddkkcfpnndlaaGreatDoor

namespace Go.Proofs.YtkddkkcfpnndlaaGreatDoor
open Go.RowKit

/-- 'append(s, x)' at ints, where a region draws its order -/
theorem app1wp {o : Oper} {a : Act} {K : Act → World → Prop} {Q : Exit → Act → World → Prop} (w : World) (s x : Operand)
    (ho : o.op = .call { callee := .builtin .append, args := #[s, x], argTypes := #[25, 25] })
    (base : Nat) (v : Value) (xs : List Int) (hs : a.eval s = v) (hown : Own w base v xs) (b off c : Nat) (y : Int) (hx : a.eval x = .slice (some ⟨b, off, none⟩) 1 c)
    (hc : w.cell? ⟨b, off, none⟩ = some (.int .i64 y)) (m : Nat) (hm : xs.length = m) (hlen : m < 17592186044000) (hbase : base ≤ w.heap.size)
    (h : ∀ va vc w', Own w' base (.slice va (m + 1) vc) (xs ++ [y]) → Below base w w' → w.grownBy w' v.ownBlock → ((Value.slice va (m + 1) vc).ownBlock = v.ownBlock ∨ (Value.slice va (m + 1) vc).ownBlock = some w.heap.size) → K (a.put o.dst (.slice va (m + 1) vc)) w') : o.wp Tryz.prog a w K Q := by
  subst hm
  obtain ⟨i0, hi, hz0, hz1, hz2⟩ := info_parts infoInt
  have hnews : ∀ j u, [Value.int .i64 y][j]? = some u → w.cell? ((⟨b, off, none⟩ : Addr).add j) = some u := by
    intro j u hu
    cases j with
    | zero => simp at hu; subst hu; simpa [Addr.add] using hc
    | succ j => simp at hu
  obtain ⟨v', w', hr, h2, h3, h4, h5⟩ := run_append_own_at (P := Tryz.prog) (w := w) base 25 o.type 3 i0 (.int .i64 0) 1 8 Tryz.underlying25 hi hz0 hz1 hz2 rfl (by decide) v xs.length _ hown ⟨b, off, none⟩ 1 c [.int .i64 y] rfl hnews
    (by intro u hu; simp at hu; subst hu; rfl) (by unfold maxLen; omega) (by omega) hbase
  unfold Oper.wp execOp
  simp only [ho, resolve, invoke, builtin, Sem.run_bind, Sem.run_pure, Result.andThen_ok, List.map_toArray, List.map_cons, List.map_nil, hs, hx, hr]
  have h6 : Own w' base v' (xs ++ [y]) := by
    unfold Own
    rw [List.map_append, List.length_append]; exact h2
  obtain ⟨va, vc, rfl, _, _⟩ := h6.myRow
  have e : (xs ++ [y]).length = xs.length + 1 := by rw [List.length_append]; rfl
  rw [e] at h6 h5 ⊢
  exact h va vc w' h6 ((Below.refl base w).grown h3 hbase fun k hk => (World.ownsRow.lt hown k hk).1) h3 h5

theorem app1step {ops : Array Oper} {o : Oper} {a : Act} {K : Act → World → Prop} {Q : Exit → Act → World → Prop} {E : Prop} (w : World) (hgd : o.guard = none) (s x : Operand)
    (ho : o.op = .call { callee := .builtin .append, args := #[s, x], argTypes := #[25, 25] })
    (base : Nat) (v : Value) (xs : List Int) (hs : a.eval s = v) (hown : Own w base v xs) (b off c : Nat) (y : Int) (hx : a.eval x = .slice (some ⟨b, off, none⟩) 1 c)
    (hc : w.cell? ⟨b, off, none⟩ = some (.int .i64 y)) (m : Nat) (hm : xs.length = m) (hlen : m < 17592186044000) (hbase : base ≤ w.heap.size)
    (h : ∀ va vc w', Own w' base (.slice va (m + 1) vc) (xs ++ [y]) → Below base w w' → w.grownBy w' v.ownBlock → ((Value.slice va (m + 1) vc).ownBlock = v.ownBlock ∨ (Value.slice va (m + 1) vc).ownBlock = some w.heap.size) → K (a.put o.dst (.slice va (m + 1) vc)) w') : if Region.wanted o (yielded ops a.tmps) = true then Oper.wp Tryz.prog o a w K Q else E := by
  have hw : Region.wanted o (yielded ops a.tmps) = true := by simp [Region.wanted, hgd]
  rw [if_pos hw]
  exact app1wp w s x ho base v xs hs hown b off c y hx hc m hm hlen hbase h

theorem Own.apart {w : World} {base : Nat} {v : Value} {xs : List Int} (h : Own w base v xs) {a : Addr} (ha : v.ownBlock ≠ some a.block) (u : Value) : Own (w.setCell a u) base v xs := by
  obtain ⟨h1, h2⟩ := h
  refine ⟨h1, ?_⟩
  rcases h2 with h2 | ⟨g, cap, cur, hv, hg, hh, r⟩
  · exact .inl h2
  · subst hv
    exact .inr ⟨g, cap, cur, rfl, hg, by rw [heap_setCell_other w a g u (fun e => ha (by rw [← e]; rfl))]; exact hh, r⟩
theorem VRow.grown {w w' : World} {B : Nat} {T : TypeId} {vals : List Value} {row : Option Nat} (h : VRow w B T vals) (hg : w.grownBy w' row) (hne : row ≠ some B) : VRow w' B T vals := by
  unfold VRow; rw [hg.block B h.lt (fun e => hne e.symm)]; exact h

/-- what each may have -/
def nbOf (G : List (List Nat)) (i : Nat) : List Nat := G[i]?.getD []
end Go.Proofs.YtkddkkcfpnndlaaGreatDoor
