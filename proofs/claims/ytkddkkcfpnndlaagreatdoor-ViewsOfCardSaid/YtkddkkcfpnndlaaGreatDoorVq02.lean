/- A law that the kit lacks: '==' between two arrays of integers that are variables. -/
import Derived.Test.YtkddkkcfpnndlaaGreatDoorVq00
import Derived.Laws.StructEq
import Derived.Deep.WholeRow
namespace Go.Proofs.YtkddkkcfpnndlaaGreatDoor
open Go.RowKit
/-- n numbers, by a function of the place -/
def tabN (n : Nat) (f : Nat → Int) : List Int := (List.range n).map f
theorem tabN_length (n : Nat) (f : Nat → Int) : (tabN n f).length = n := by simp [tabN]
theorem tabN_get {n : Nat} (f : Nat → Int) {k : Nat} (h : k < n) : (tabN n f)[k]? = some (f k) := by simp [tabN, h]
theorem tabN_set (n : Nat) (f : Nat → Int) (k : Nat) (v : Int) : (tabN n f).set k v = tabN n (fun j => if j = k then v else f j) := by
  apply List.ext_getElem?
  intro j
  rw [List.getElem?_set]
  by_cases hj : j < n
  · rw [tabN_get _ hj, tabN_get _ hj]
    by_cases e : k = j
    · subst e; simp [tabN, hj]
    · simp [e, Ne.symm e]
  · rw [List.getElem?_eq_none (l := tabN n f) (by simp [tabN]; omega), List.getElem?_eq_none (l := tabN n _) (by simp [tabN]; omega)]
    simp [tabN]; omega
theorem tabN_congr {n : Nat} {f f' : Nat → Int} (h : ∀ j, j < n → f j = f' j) : tabN n f = tabN n f' := by
  unfold tabN; exact List.map_congr_left fun j hj => h j (List.mem_range.1 hj)

section
variable {P : Program} (w : World)
theorem run_sizeOf_one (e : TypeId) (hs : (P.info? e).map (·.size) = some 1) : (sizeOf e).run P w = .ok 1 w := by
  cases hq : P.info? e with
  | none => simp [hq] at hs
  | some i =>
    have : i.size = 1 := by simpa [hq] using hs
    simp [sizeOf, typeInfo, hq, this]
theorem run_part_iarr (e : TypeId) (xs : List Int) (k : Nat) (x : Int) (he : P.underlying e = some (.int .i64)) (hx : xs[k]? = some x) : (part e (iarr xs) k).run P w = .ok (.int .i64 x) w := by
  have hagg : (isAgg e).run P w = .ok false w := by
    unfold isAgg
    rw [Sem.run_bind, run_underlying he w]
    simp
  simp [part, Sem.run_bind, hagg, iarr_get, hx]
theorem run_equalIn_i64 (d : Nat) (e : TypeId) (x y : Int) (he : P.underlying e = some (.int .i64)) : (Op.equalIn (d + 1) e (.int .i64 x) (.int .i64 y)).run P w = .ok (x == y) w := by
  rw [Op.equalIn]
  simp [Sem.run_bind, run_underlying he]
theorem run_equal_loop (d : Nat) (e : TypeId) (xs ys : List Int) (len : Nat) (he : P.underlying e = some (.int .i64)) (hx : xs.length = len) (hy : ys.length = len) :
    ∀ (m k : Nat), k + m = len → (Sem.run P (forIn (List.range' k m) ((none : Option Bool), ()) fun i (_ : Option Bool × Unit) => do
            let __do_lift ← part e (iarr xs) i
            let __do_lift_1 ← part e (iarr ys) i
            let __do_lift ← Op.equalIn (d + 1) e __do_lift __do_lift_1
            if (!__do_lift) = true then pure (ForInStep.done (some false, ())) else pure (ForInStep.yield (none, ()))) w) = .ok (if xs.drop k == ys.drop k then none else some false, ()) w
  | 0, k, hk => by
    rw [List.drop_of_length_le (by omega), List.drop_of_length_le (by omega)]
    simp
  | m + 1, k, hk => by
    have h1 : k < xs.length := by omega
    have h2 : k < ys.length := by omega
    rw [List.range'_succ, List.forIn_cons]
    simp only [Sem.run_bind, run_part_iarr w e xs k xs[k] he (by simp), run_part_iarr w e ys k ys[k] he (by simp), Result.andThen_ok, run_equalIn_i64 w d e _ _ he, Sem.run_ite, Sem.run_pure]
    have hd : (xs.drop k == ys.drop k) = (xs[k] == ys[k] && xs.drop (k + 1) == ys.drop (k + 1)) := by rw [List.drop_eq_getElem_cons h1, List.drop_eq_getElem_cons h2]; rfl
    rw [hd]; clear hd
    by_cases e1 : xs[k] = ys[k]
    · have := run_equal_loop d e xs ys len he hx hy m (k + 1) (by omega)
      simp [e1] at this ⊢
      exact this
    · simp [e1]
theorem run_equalIn_iarr (d : Nat) (t e : TypeId) (xs ys : List Int) (len : Nat) (ht : P.underlying t = some (.array len e)) (he : P.underlying e = some (.int .i64)) (hs : (P.info? e).map (·.size) = some 1)
    (hx : xs.length = len) (hy : ys.length = len) : (Op.equalIn (d + 2) t (.agg (iarr xs)) (.agg (iarr ys))).run P w = .ok (xs == ys) w := by
  rw [Op.equalIn]
  simp only [Sem.run_bind, run_underlying ht, Result.andThen_ok, run_sizeOf_one w e hs, Std.Legacy.Range.forIn_eq_forIn_range', Std.Legacy.Range.size, Nat.mul_one]
  have h := run_equal_loop w d e xs ys len he hx hy len 0 (by omega)
  rw [show (len - 0 + 1 - 1) / 1 = len by omega, h]
  by_cases e1 : xs = ys <;> simp [e1]
theorem run_eql_iarr (t e : TypeId) (xs ys : List Int) (len : Nat) (ht : P.underlying t = some (.array len e)) (he : P.underlying e = some (.int .i64)) (hs : (P.info? e).map (·.size) = some 1)
    (hx : xs.length = len) (hy : ys.length = len) : (binOp .eql t (.agg (iarr xs)) (.agg (iarr ys))).run P w = .ok (.bool (xs == ys)) w := by
  simp only [binOp, Op.equal, Op.maxDepth, Sem.run_bind, run_equalIn_iarr w 9998 t e xs ys len ht he hs hx hy]
  rfl

/-- a whole array is stored into the block that was made last -/
theorem wpList_store_new {ops : Array Oper} {rest : List Oper} {o : Oper} {a : Act} {Q : Exit → Act → World → Prop} (hgd : o.guard = none) (ty : TypeId) (x y : Operand) (ho : o.op = .store ty x y)
    (c c' : Array Value) (hx : a.eval x = .pointer (some ⟨w.heap.size, 0, none⟩)) (hy : a.eval y = .agg c') (hi : (P.info? ty).map (·.size) = some c'.size) (hs : c.size = c'.size) (h1 : c'.all (·.oneCell') = true)
    (h : wpList P ops Q rest (a.put o.dst undef) (w.alloc (.cells c' ty))) : wpList P ops Q (o :: rest) a (w.alloc (.cells c ty)) :=
  wpList_plain hgd fun K hK => by
    unfold Oper.wp execOp
    simp only [ho, hx, hy, Sem.run_bind, run_storeAt_new w ty c c' hi hs h1, Result.andThen_ok, Sem.run_pure]
    exact hK _ _ h
theorem iarr_oneCell (xs : List Int) : (iarr xs).all (·.oneCell') = true := by
  simp [iarr, Value.oneCell']
end
end Go.Proofs.YtkddkkcfpnndlaaGreatDoor
