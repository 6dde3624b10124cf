/- 'append(s, l...)' at ints, where a region draws its order. -/
import Derived.Test.YtbnjeegicbffeaaPs1
import Derived.Test.YtbnjeegicbffeaaPs4
namespace Go.Proofs.Ytbnjeegicbffeaa
open Go.RowKit

theorem appAnyWp {o : Oper} {a : Act} {K : Act → World → Prop} {Q : Exit → Act → World → Prop} (w : World) (s x : Operand)
    (ho : o.op = .call { callee := .builtin .append, args := #[s, x], argTypes := #[22, 22] })
    (base : Nat) (v : Value) (xs : List Int) (hs : a.eval s = v) (hown : Own w base v xs) (la : Option Addr) (m c : Nat) (ys : List Int) (hx : a.eval x = .slice la m c) (hy : Ints w la m c ys)
    (hlen : xs.length + m < 17592186044000) (hbase : base ≤ w.heap.size)
    (h : ∀ v' w', Own w' base v' (xs ++ ys) → w.grownBy w' v.ownBlock → Below base w w' → (v'.ownBlock = v.ownBlock ∨ v'.ownBlock = some w.heap.size) → K (a.put o.dst v') w') : o.wp Try.prog a w K Q := by
  obtain ⟨i0, hi, hz0, hz1, hz2⟩ := info_parts infoInt
  cases la with
  | none =>
    obtain ⟨rfl, rfl⟩ := hy.nil rfl
    have hys : ys = [] := List.eq_nil_of_length_eq_zero hy.len
    subst hys
    have hrun := run_append_owned_none (P := Try.prog) (w := w) base 22 o.type 3 i0 1 Try.underlying22 hi v xs.length _ hown
    unfold Oper.wp execOp
    simp only [ho, resolve, invoke, builtin, Sem.run_bind, Sem.run_pure, Result.andThen_ok, List.map_toArray, List.map_cons, List.map_nil, hs, hx, hrun]
    exact h v w (by simpa using hown) (World.grownBy.refl _ _) (Below.refl _ _) (.inl rfl)
  | some ad =>
    have hnews : ∀ j u, (ys.map (Value.int .i64))[j]? = some u → w.cell? (ad.add j) = some u := by
      intro j u hu
      rw [List.getElem?_map] at hu
      cases e : ys[j]? with
      | none => rw [e] at hu; cases hu
      | some y =>
        rw [e] at hu
        have hj := (List.getElem?_eq_some_iff.1 e).1
        obtain ⟨b, off, e2⟩ := hy.addr (by have := hy.len; omega)
        cases e2
        have := hy.cell b off rfl j y e
        rw [Option.map_some] at hu
        cases hu
        by_cases hj0 : j = 0
        · subst hj0; simpa [Addr.add] using this
        · simpa [Addr.add, hj0] using this
    obtain ⟨v', w', hr, h2, h3, h4, h5⟩ := run_append_own_at (P := Try.prog) (w := w) base 22 o.type 3 i0 (.int .i64 0) 1 8 Try.underlying22 hi hz0 hz1 hz2 rfl (by decide) v xs.length _ hown ad m c (ys.map (Value.int .i64)) (by rw [List.length_map, hy.len]; omega) hnews
      (by intro u hu; obtain ⟨y, _, rfl⟩ := List.mem_map.1 hu; rfl) (by unfold maxLen; omega) (by omega) hbase
    unfold Oper.wp execOp
    simp only [ho, resolve, invoke, builtin, Sem.run_bind, Sem.run_pure, Result.andThen_ok, List.map_toArray, List.map_cons, List.map_nil, hs, hx, hr]
    have h6 : Own w' base v' (xs ++ ys) := by
      unfold Own
      rw [List.map_append, List.length_append, hy.len]; exact h2
    exact h v' w' h6 h3 ((Below.refl base w).grown h3 hbase fun k hk => (World.ownsRow.lt hown k hk).1) h5

theorem appAnyStep {ops : Array Oper} {o : Oper} {a : Act} {K : Act → World → Prop} {Q : Exit → Act → World → Prop} {E : Prop} (w : World) (hgd : o.guard = none) (s x : Operand)
    (ho : o.op = .call { callee := .builtin .append, args := #[s, x], argTypes := #[22, 22] })
    (base : Nat) (v : Value) (xs : List Int) (hs : a.eval s = v) (hown : Own w base v xs) (la : Option Addr) (m c : Nat) (ys : List Int) (hx : a.eval x = .slice la m c) (hy : Ints w la m c ys)
    (hlen : xs.length + m < 17592186044000) (hbase : base ≤ w.heap.size)
    (h : ∀ v' w', Own w' base v' (xs ++ ys) → w.grownBy w' v.ownBlock → Below base w w' → (v'.ownBlock = v.ownBlock ∨ v'.ownBlock = some w.heap.size) → K (a.put o.dst v') w') : if Region.wanted o (yielded ops a.tmps) = true then Oper.wp Try.prog o a w K Q else E := by
  have hw : Region.wanted o (yielded ops a.tmps) = true := by simp [Region.wanted, hgd]
  rw [if_pos hw]
  exact appAnyWp w s x ho base v xs hs hown la m c ys hx hy hlen hbase h

/-- behind the beginning of the region: what was there is as it was -/
theorem appAnyFrom {ops : Array Oper} {o : Oper} {a : Act} {K : Act → World → Prop} {Q : Exit → Act → World → Prop} {E : Prop} (w0 w : World) (hgd : o.guard = none) (s x : Operand)
    (ho : o.op = .call { callee := .builtin .append, args := #[s, x], argTypes := #[22, 22] })
    (hb0 : Below w0.heap.size w0 w) (v : Value) (xs : List Int) (hs : a.eval s = v) (hown : Own w w0.heap.size v xs) (la : Option Addr) (m c : Nat) (ys : List Int) (hx : a.eval x = .slice la m c) (hy : Ints w0 la m c ys)
    (hlen : xs.length + m < 17592186044000)
    (h : ∀ v' w', Own w' w0.heap.size v' (xs ++ ys) → w.grownBy w' v.ownBlock → Below w0.heap.size w0 w' → (v'.ownBlock = v.ownBlock ∨ v'.ownBlock = some w.heap.size) → K (a.put o.dst v') w') : if Region.wanted o (yielded ops a.tmps) = true then Oper.wp Try.prog o a w K Q else E :=
  appAnyStep w hgd s x ho w0.heap.size v xs hs hown la m c ys hx (hy.below hb0 (Nat.le_refl _)) hlen hb0.size fun v' w' h1 h2 h3 h4 => h v' w' h1 h2 (hb0.trans h3) h4

/-- one more, out of a literal -/
theorem appOneFrom {ops : Array Oper} {o : Oper} {a : Act} {K : Act → World → Prop} {Q : Exit → Act → World → Prop} {E : Prop} (w0 w : World) (hgd : o.guard = none) (s x : Operand)
    (ho : o.op = .call { callee := .builtin .append, args := #[s, x], argTypes := #[22, 22] })
    (hb0 : Below w0.heap.size w0 w) (v : Value) (xs : List Int) (hs : a.eval s = v) (hown : Own w w0.heap.size v xs) (b : Nat) (y : Int) (hx : a.eval x = .slice (some ⟨b, 0, none⟩) 1 1) (hc : w.cell? ⟨b, 0, none⟩ = some (.int .i64 y))
    (hlen : xs.length < 17592186044000)
    (h : ∀ v' w', Own w' w0.heap.size v' (xs ++ [y]) → w.grownBy w' v.ownBlock → Below w0.heap.size w0 w' → (v'.ownBlock = v.ownBlock ∨ v'.ownBlock = some w.heap.size) → K (a.put o.dst v') w') : if Region.wanted o (yielded ops a.tmps) = true then Oper.wp Try.prog o a w K Q else E :=
  app1step w hgd s x ho w0.heap.size v xs hs hown b 0 1 y hx hc xs.length rfl hlen hb0.size fun _ _ w' h1 h2 h3 h4 => h _ w' h1 h3 (hb0.trans h2) h4

/-- 'append' behind a guard that lets it by -/
theorem appAnyGd {ops : Array Oper} {rest : List Oper} {o : Oper} {a : Act} {Q : Exit → Act → World → Prop} (w : World) (hw : Region.wanted o (yielded ops a.tmps) = true) (s x : Operand)
    (ho : o.op = .call { callee := .builtin .append, args := #[s, x], argTypes := #[22, 22] })
    (base : Nat) (v : Value) (xs : List Int) (hs : a.eval s = v) (hown : Own w base v xs) (la : Option Addr) (m c : Nat) (ys : List Int) (hx : a.eval x = .slice la m c) (hy : Ints w la m c ys)
    (hlen : xs.length + m < 17592186044000) (hbase : base ≤ w.heap.size)
    (h : ∀ v' w', Own w' base v' (xs ++ ys) → Below base w w' → wpList Try.prog ops Q rest (a.put o.dst v') w') : wpList Try.prog ops Q (o :: rest) a w := by
  rw [wpList, if_pos hw]
  exact .inl (appAnyWp w s x ho base v xs hs hown la m c ys hx hy hlen hbase fun v' w' h1 _ h3 _ => h v' w' h1 h3)
theorem app1Gd {ops : Array Oper} {rest : List Oper} {o : Oper} {a : Act} {Q : Exit → Act → World → Prop} (w : World) (hw : Region.wanted o (yielded ops a.tmps) = true) (s x : Operand)
    (ho : o.op = .call { callee := .builtin .append, args := #[s, x], argTypes := #[22, 22] })
    (base : Nat) (v : Value) (xs : List Int) (hs : a.eval s = v) (hown : Own w base v xs) (b : Nat) (y : Int) (hx : a.eval x = .slice (some ⟨b, 0, none⟩) 1 1) (hc : w.cell? ⟨b, 0, none⟩ = some (.int .i64 y))
    (m : Nat) (hm : xs.length = m) (hlen : m < 17592186044000) (hbase : base ≤ w.heap.size)
    (h : ∀ va vc w', Own w' base (.slice va (m + 1) vc) (xs ++ [y]) → Below base w w' → wpList Try.prog ops Q rest (a.put o.dst (.slice va (m + 1) vc)) w') : wpList Try.prog ops Q (o :: rest) a w := by
  rw [wpList, if_pos hw]
  exact .inl (app1wp w s x ho base v xs hs hown b 0 1 y hx hc m hm hlen hbase fun va vc w' h1 h2 _ _ => h va vc w' h1 h2)
end Go.Proofs.Ytbnjeegicbffeaa
