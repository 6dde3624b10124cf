/- Walks: package vectors. A law that the kit lacks: '==' between two arrays of integers that are variables. Walks: package markets: the order. Walks: slices.IndexFunc, ContainsFunc over lists of lists; markets.Check. Walks: markets.Check. -/
import Derived.Test.YtbnjeegicbffeaaGreatG00
import Derived.Test.YtbnjeegicbffeaaGreatRows
import Derived.Laws.StructEq
import Derived.Deep.WholeRow
import Derived.Deep.QuietTactic
/- Walks: package vectors. -/
namespace Go.Proofs.YtbnjeegicbffeaaGreat
open Go.RowKit

def within (most : Int) (xs : List Int) : Bool := xs.all fun x => decide (0 ≤ x ∧ x ≤ most)
theorem within_no {most : Int} {xs : List Int} {k : Nat} {x : Int} (h : xs[k]? = some x) (hx : x < 0 ∨ most < x) : within most xs = false := by
  unfold within
  rw [List.all_eq_false]
  exact ⟨x, List.mem_of_getElem? h, by simp; omega⟩
theorem within_snoc {most : Int} {xs : List Int} {k : Nat} {x : Int} (h : xs[k]? = some x) (hw : within most (xs.take k) = true) (h0 : 0 ≤ x) (h1 : x ≤ most) : within most (xs.take (k + 1)) = true := by
  unfold within at *
  rw [List.take_add_one, h, List.all_append, hw]
  simp; omega
theorem within_all {most : Int} {xs : List Int} {n : Nat} (h : xs.length = n) : within most (xs.take n) = within most xs := by
  rw [List.take_of_length_le (by omega)]

set_option maxHeartbeats 400000 in
theorem within_any (most : Int) (a : Option Addr) (n c : Nat) (xs : List Int) (w : World) (h : Ints w a n c xs) :
    Calls Tryz.prog 75 #[.int .i64 most, .slice a n c] w fun e w' => e = .returned (.bool (within most xs)) ∧ w = w' := by
  have hb := h.big
  go_enter Tryz.func75, Tryz.ntmps75
  go_wp2_with fail
  go_step3
  go_wp2_with fail
  go_step3
  go_wp2_with fail
  go_loopg [5, 12] n (fun g s5 s12 wr => ∃ k : Nat, k + g = n ∧ s12 = .int .i64 k ∧ s5 = .int .i64 (n - k : Nat) ∧ within most (xs.take k) = true ∧ wr = w)
  case atStart => exact ⟨0, by omega, rfl, rfl, rfl, rfl⟩
  case round =>
    obtain ⟨k, hk, rfl, rfl, hw, rfl⟩ := hrel
    by_cases hlt : k < n
    · obtain ⟨b, o, rfl⟩ := h.addr (by omega)
      obtain ⟨x, hx, _⟩ := h.get hlt
      have hc := h.cell b o rfl k x hx
      have H := Lib.hid h; clear h
      have HW := Lib.hid hw; clear hw
      have HX := Lib.hid hx; clear hx
      have HK := Lib.hid hk; clear hk
      go_wp2_with fail
      · rw [Exit.noGoto_ret]; go_ret
        exact ⟨ret_bool (by rw [within_no (k := k) HX.out (.inl ‹_›), beq_eq_false_iff_ne]; omega), rfl⟩
      · rw [Exit.noGoto_ret]; go_ret
        exact ⟨ret_bool (by rw [within_no (k := k) HX.out (.inr ‹_›), beq_eq_false_iff_ne]; omega), rfl⟩
      · go_roundg (gk - 1)
        case measure => have := HK.out; omega
        case rel => exact ⟨k + 1, by have := HK.out; omega, by go_num, by rw [show ((n - k : Nat) : Int) - 1 = ((n - (k + 1) : Nat) : Int) by omega], within_snoc HX.out HW.out (by omega) (by omega), rfl⟩
    · obtain rfl : k = n := by omega
      have HW := Lib.hid hw; clear hw
      have HL := Lib.hid h.len; clear h
      go_wp2_with fail
      rw [Exit.noGoto_ret]; go_ret
      exact ⟨ret_bool (by rw [← within_all HL.out, HW.out]), rfl⟩

/-- a bid may be, for so many items -/
def vcheck (xs : List Int) (items : Int) : Bool := decide (1 ≤ items ∧ items ≤ 8) && decide ((xs.length : Int) = items) && within 1000000 xs

theorem wrap64_bd (x : Int) : -9223372036854775808 ≤ wrap64 x ∧ wrap64 x ≤ 9223372036854775807 := by unfold wrap64; omega
theorem wrap_sub_one (x : Int) (h : -9223372036854775808 ≤ x ∧ x ≤ 9223372036854775807) (h1 : ¬ (1 ≤ x ∧ x ≤ 8)) : within 7 [wrap64 (x - 1)] = false := by
  simp only [within, List.all_cons, List.all_nil, Bool.and_true, decide_eq_false_iff_not]
  unfold wrap64
  omega

set_option maxHeartbeats 400000 in
theorem vcheck_any (a : Option Addr) (n c : Nat) (xs : List Int) (items : Int) (w : World) (h : Ints w a n c xs) (hi : -9223372036854775808 ≤ items ∧ items ≤ 9223372036854775807) :
    Calls Tryz.prog 54 #[.slice a n c, .int .i64 items] w fun e w' => e = .returned (.bool (vcheck xs items)) ∧ Below w.heap.size w w' := by
  have hl := h.len
  have H := Lib.hid h; clear h
  by_cases h1 : 1 ≤ items ∧ items ≤ 8
  · have hw1 : within 7 [items - 1] = true := by simp [within]; omega
    by_cases h2 : (n : Int) = items
    · have e2 : ((n : Int) == items) = true := by simp [h2]
      have hv : vcheck xs items = within 1000000 xs := by simp [vcheck, h1, hl, h2]
      rw [hv]; clear hv
      have H2 := Lib.hid h2; clear h2
      have HL := Lib.hid hl; clear hl
      obtain ⟨h3, h4⟩ := h1
      go_enter Tryz.func54, Tryz.ntmps54
      go_wp2_with fail
      refine (within_any 7 _ 1 1 [items - 1] _ (Ints.one _ (by omega))).mono ?_
      rintro e w1 ⟨rfl, rfl⟩
      go_wp2_with fail
      refine (within_any 1000000 _ _ _ xs _ (H.out.below (w' := w.alloc (.cells #[.int .i64 (items - 1)] 3)) ((Below.refl _ _).alloc (Nat.le_refl _) _) (Nat.le_refl _))).mono ?_
      rintro e w1 ⟨rfl, rfl⟩
      go_wp2_with fail
      go_ret
      exact ⟨rfl, (Below.refl _ _).alloc (Nat.le_refl _) _⟩
    · have e2 : ((n : Int) == items) = false := by simp [h2]
      have hv : vcheck xs items = false := by simp [vcheck, hl, h2]
      rw [hv]; clear hv
      have H2 := Lib.hid h2; clear h2
      have HL := Lib.hid hl; clear hl
      obtain ⟨h3, h4⟩ := h1
      go_enter Tryz.func54, Tryz.ntmps54
      go_wp2_with fail
      refine (within_any 7 _ 1 1 [items - 1] _ (Ints.one _ (by omega))).mono ?_
      rintro e w1 ⟨rfl, rfl⟩
      go_wp2_with fail
      go_ret
      exact ⟨rfl, (Below.refl _ _).alloc (Nat.le_refl _) _⟩
  · have hw1 := wrap_sub_one items hi h1
    have hv : vcheck xs items = false := by simp [vcheck, h1]
    rw [hv]; clear hv
    have H1 := Lib.hid h1; clear h1
    go_enter Tryz.func54, Tryz.ntmps54
    go_wp2_with fail
    refine (within_any 7 _ 1 1 [wrap64 (items - 1)] _ (Ints.one _ (wrap64_bd _))).mono ?_
    rintro e w1 ⟨rfl, rfl⟩
    go_wp2_with fail
    go_ret
    exact ⟨rfl, (Below.refl _ _).alloc (Nat.le_refl _) _⟩

end Go.Proofs.YtbnjeegicbffeaaGreat

/- A law that the kit lacks: '==' between two arrays of integers that are variables. -/
namespace Go.Proofs.YtbnjeegicbffeaaGreat
open Go.RowKit
/-- n numbers, by a function of the place -/
def tabN (n : Nat) (f : Nat → Int) : List Int := (List.range n).map f
theorem tabN_length (n : Nat) (f : Nat → Int) : (tabN n f).length = n := by simp [tabN]
theorem tabN_get {n : Nat} (f : Nat → Int) {k : Nat} (h : k < n) : (tabN n f)[k]? = some (f k) := by simp [tabN, h]
theorem tabN_set (n : Nat) (f : Nat → Int) (k : Nat) (v : Int) : (tabN n f).set k v = tabN n (fun j => if j = k then v else f j) := by
  apply List.ext_getElem?
  intro j
  rw [List.getElem?_set]
  by_cases hj : j < n
  · rw [tabN_get _ hj, tabN_get _ hj]
    by_cases e : k = j
    · subst e; simp [tabN, hj]
    · simp [e, Ne.symm e]
  · rw [List.getElem?_eq_none (l := tabN n f) (by simp [tabN]; omega), List.getElem?_eq_none (l := tabN n _) (by simp [tabN]; omega)]
    simp [tabN]; omega
theorem tabN_congr {n : Nat} {f f' : Nat → Int} (h : ∀ j, j < n → f j = f' j) : tabN n f = tabN n f' := by
  unfold tabN; exact List.map_congr_left fun j hj => h j (List.mem_range.1 hj)

section
variable {P : Program} (w : World)
theorem run_sizeOf_one (e : TypeId) (hs : (P.info? e).map (·.size) = some 1) : (sizeOf e).run P w = .ok 1 w := by
  cases hq : P.info? e with
  | none => simp [hq] at hs
  | some i =>
    have : i.size = 1 := by simpa [hq] using hs
    simp [sizeOf, typeInfo, hq, this]
theorem run_part_iarr (e : TypeId) (xs : List Int) (k : Nat) (x : Int) (he : P.underlying e = some (.int .i64)) (hx : xs[k]? = some x) : (part e (iarr xs) k).run P w = .ok (.int .i64 x) w := by
  have hagg : (isAgg e).run P w = .ok false w := by
    unfold isAgg
    rw [Sem.run_bind, run_underlying he w]
    simp
  simp [part, Sem.run_bind, hagg, iarr_get, hx]
theorem run_equalIn_i64 (d : Nat) (e : TypeId) (x y : Int) (he : P.underlying e = some (.int .i64)) : (Op.equalIn (d + 1) e (.int .i64 x) (.int .i64 y)).run P w = .ok (x == y) w := by
  rw [Op.equalIn]
  simp [Sem.run_bind, run_underlying he]
theorem run_equal_loop (d : Nat) (e : TypeId) (xs ys : List Int) (len : Nat) (he : P.underlying e = some (.int .i64)) (hx : xs.length = len) (hy : ys.length = len) :
    ∀ (m k : Nat), k + m = len → (Sem.run P (forIn (List.range' k m) ((none : Option Bool), ()) fun i (_ : Option Bool × Unit) => do
            let __do_lift ← part e (iarr xs) i
            let __do_lift_1 ← part e (iarr ys) i
            let __do_lift ← Op.equalIn (d + 1) e __do_lift __do_lift_1
            if (!__do_lift) = true then pure (ForInStep.done (some false, ())) else pure (ForInStep.yield (none, ()))) w) = .ok (if xs.drop k == ys.drop k then none else some false, ()) w
  | 0, k, hk => by
    rw [List.drop_of_length_le (by omega), List.drop_of_length_le (by omega)]
    simp
  | m + 1, k, hk => by
    have h1 : k < xs.length := by omega
    have h2 : k < ys.length := by omega
    rw [List.range'_succ, List.forIn_cons]
    simp only [Sem.run_bind, run_part_iarr w e xs k xs[k] he (by simp), run_part_iarr w e ys k ys[k] he (by simp), Result.andThen_ok, run_equalIn_i64 w d e _ _ he, Sem.run_ite, Sem.run_pure]
    have hd : (xs.drop k == ys.drop k) = (xs[k] == ys[k] && xs.drop (k + 1) == ys.drop (k + 1)) := by rw [List.drop_eq_getElem_cons h1, List.drop_eq_getElem_cons h2]; rfl
    rw [hd]; clear hd
    by_cases e1 : xs[k] = ys[k]
    · have := run_equal_loop d e xs ys len he hx hy m (k + 1) (by omega)
      simp [e1] at this ⊢
      exact this
    · simp [e1]
theorem run_equalIn_iarr (d : Nat) (t e : TypeId) (xs ys : List Int) (len : Nat) (ht : P.underlying t = some (.array len e)) (he : P.underlying e = some (.int .i64)) (hs : (P.info? e).map (·.size) = some 1)
    (hx : xs.length = len) (hy : ys.length = len) : (Op.equalIn (d + 2) t (.agg (iarr xs)) (.agg (iarr ys))).run P w = .ok (xs == ys) w := by
  rw [Op.equalIn]
  simp only [Sem.run_bind, run_underlying ht, Result.andThen_ok, run_sizeOf_one w e hs, Std.Legacy.Range.forIn_eq_forIn_range', Std.Legacy.Range.size, Nat.mul_one]
  have h := run_equal_loop w d e xs ys len he hx hy len 0 (by omega)
  rw [show (len - 0 + 1 - 1) / 1 = len by omega, h]
  by_cases e1 : xs = ys <;> simp [e1]
theorem run_eql_iarr (t e : TypeId) (xs ys : List Int) (len : Nat) (ht : P.underlying t = some (.array len e)) (he : P.underlying e = some (.int .i64)) (hs : (P.info? e).map (·.size) = some 1)
    (hx : xs.length = len) (hy : ys.length = len) : (binOp .eql t (.agg (iarr xs)) (.agg (iarr ys))).run P w = .ok (.bool (xs == ys)) w := by
  simp only [binOp, Op.equal, Op.maxDepth, Sem.run_bind, run_equalIn_iarr w 9998 t e xs ys len ht he hs hx hy]
  rfl

/-- a whole array is stored into the block that was made last -/
theorem wpList_store_new {ops : Array Oper} {rest : List Oper} {o : Oper} {a : Act} {Q : Exit → Act → World → Prop} (hgd : o.guard = none) (ty : TypeId) (x y : Operand) (ho : o.op = .store ty x y)
    (c c' : Array Value) (hx : a.eval x = .pointer (some ⟨w.heap.size, 0, none⟩)) (hy : a.eval y = .agg c') (hi : (P.info? ty).map (·.size) = some c'.size) (hs : c.size = c'.size) (h1 : c'.all (·.oneCell') = true)
    (h : wpList P ops Q rest (a.put o.dst undef) (w.alloc (.cells c' ty))) : wpList P ops Q (o :: rest) a (w.alloc (.cells c ty)) :=
  wpList_plain hgd fun K hK => by
    unfold Oper.wp execOp
    simp only [ho, hx, hy, Sem.run_bind, run_storeAt_new w ty c c' hi hs h1, Result.andThen_ok, Sem.run_pure]
    exact hK _ _ h
theorem iarr_oneCell (xs : List Int) : (iarr xs).all (·.oneCell') = true := by
  simp [iarr, Value.oneCell']
end
end Go.Proofs.YtbnjeegicbffeaaGreat

/- Walks: package markets: the order. -/
namespace Go.Proofs.YtbnjeegicbffeaaGreat
open Go.RowKit

def onceTo (k : Nat) : List Int := (List.range 8).map fun j => if j < k then 1 else 0
def timesOf (l : List Int) : List Int := (List.range 8).map fun (j : Nat) => (l.count (j : Int) : Int)
theorem onceTo_get {m k : Nat} (h : k < 8) : (onceTo m)[k]? = some (if k < m then 1 else 0) := by simp [onceTo, h]
theorem onceTo_set {k : Nat} (h : k < 8) : (onceTo k).set k 1 = onceTo (k + 1) := by
  have : ∀ k, k < 8 → (onceTo k).set k 1 = onceTo (k + 1) := by decide
  exact this k h
theorem timesOf_get (l : List Int) {k : Nat} (h : k < 8) : (timesOf l)[k]? = some (l.count (k : Int) : Int) := by simp [timesOf, h]
theorem timesOf_set (l : List Int) (x : Int) {k : Nat} (h : k < 8) (hx : x = k) : (timesOf l).set k ((l.count (k : Int) : Int) + 1) = timesOf (l ++ [x]) := by
  subst hx
  apply List.ext_getElem?
  intro j
  rw [List.getElem?_set]
  by_cases hj : j < 8
  · rw [timesOf_get _ hj, timesOf_get _ hj]
    by_cases e : k = j
    · subst e; simp [timesOf, hj, List.count_append]
    · have : ¬ ((k : Int) = (j : Int)) := by omega
      simp [e, List.count_append, this]
  · have : k ≠ j := by omega
    rw [if_neg this, List.getElem?_eq_none (by simp [timesOf]; omega), List.getElem?_eq_none (by simp [timesOf]; omega)]

/-- an order has each of so many, once -/
def orderOk (l : List Int) (m : Nat) : Bool := l.all (fun x => decide (0 ≤ x ∧ x < m)) && (timesOf l == onceTo m)

theorem orderOk_no {xs : List Int} {m k : Nat} {x : Int} (h : xs[k]? = some x) (hx : x < 0 ∨ (m : Int) ≤ x) : orderOk xs m = false := by
  have : xs.all (fun x => decide (0 ≤ x ∧ x < m)) = false := by
    rw [List.all_eq_false]
    exact ⟨x, List.mem_of_getElem? h, by simp; omega⟩
  unfold orderOk; rw [this]; rfl

set_option maxHeartbeats 400000 in
theorem ordered_any (a : Option Addr) (n c : Nat) (xs : List Int) (m : Nat) (w : World) (h : Ints w a n c xs) (hm : m ≤ 8) :
    Calls Tryz.prog 55 #[.slice a n c, .int .i64 m] w fun e w' => e = .returned (.bool (orderOk xs m)) ∧ Below w.heap.size w w' := by
  have hb := h.big
  go_enter Tryz.func55, Tryz.ntmps55
  go_wp2_with fail
  go_loopg [11] m (fun g s11 wr => ∃ k : Nat, k + g = m ∧ s11 = .int .i64 k ∧ Row wr w.heap.size 88 (timesOf []) ∧ Row wr (w.heap.size + 1) 88 (onceTo k) ∧ Below w.heap.size w wr)
  case atStart =>
    exact ⟨0, by omega, rfl, (Row.new _ _ (timesOf [])).alloc _, Row.new' _ _ (onceTo 0) (by simp), ((Below.refl _ _).alloc (Nat.le_refl _) _).alloc (by simp) _⟩
  case round =>
    obtain ⟨k, hk, rfl, ht, ho, hB⟩ := hrel
    by_cases hlt : k < m
    · have hc := ho.cell (onceTo_get (m := k) (k := k) (by omega))
      have hf := ho.frozen k
      have HK := Lib.hid hk; clear hk
      have HT := Lib.hid ht; clear ht
      have HO := Lib.hid ho; clear ho
      have HB := Lib.hid hB; clear hB
      have H := Lib.hid h; clear h
      go_wp2_with fail
      go_roundg (gk - 1)
      case measure => have := HK.out; omega
      case rel => exact ⟨k + 1, by have := HK.out; omega, by go_num, HT.out.other (by simp) _, by rw [← onceTo_set (by omega)]; exact HO.out.set k 1, HB.out.setCell (by simp) _⟩
    · obtain rfl : k = m := by omega
      have HT := Lib.hid ht; clear ht
      have HO := Lib.hid ho; clear ho
      have HB := Lib.hid hB; clear hB
      go_wp2_with fail
      obtain ⟨w1, rfl⟩ : ∃ w1 : World, w1 = wr := ⟨_, rfl⟩
      go_loopg [19] n (fun g s19 wr => ∃ j : Nat, j + g = n ∧ s19 = .int .i64 j ∧ Row wr w.heap.size 88 (timesOf (xs.take j)) ∧ Row wr (w.heap.size + 1) 88 (onceTo k) ∧ Below w.heap.size w wr ∧ (xs.take j).all (fun x => decide (0 ≤ x ∧ x < k)) = true)
      case atStart => exact ⟨0, by omega, rfl, HT.out, HO.out, HB.out, rfl⟩
      case round =>
        obtain ⟨j, hj, rfl, ht, ho, hB, hall⟩ := hrel
        by_cases hlt : j < n
        · obtain ⟨x, hx, _⟩ := h.get hlt
          obtain ⟨b, o, rfl⟩ := h.addr (by omega)
          have h1 := h.below hB (Nat.le_refl _)
          have hc := h1.cell b o rfl j x hx
          have HX := Lib.hid hx; clear hx
          have HJ := Lib.hid hj; clear hj
          have HA := Lib.hid hall; clear hall
          have HB := Lib.hid hB; clear hB
          have H := Lib.hid h; clear h h1
          by_cases hx0 : x < 0
          · have HT := Lib.hid ht; clear ht
            have HO := Lib.hid ho; clear ho
            go_wp2_with fail
            go_ret
            exact ⟨ret_bool (by rw [orderOk_no HX.out (.inl hx0)]), HB.out⟩
          · by_cases hx1 : (k : Int) ≤ x
            · have HT := Lib.hid ht; clear ht
              have HO := Lib.hid ho; clear ho
              go_wp2_with fail
              go_ret
              exact ⟨ret_bool (by rw [orderOk_no HX.out (.inr hx1)]), HB.out⟩
            · obtain ⟨q, rfl⟩ : ∃ q : Nat, x = q := ⟨x.toNat, by omega⟩
              have hq : q < 8 := by omega
              have hc2 := ht.cell (timesOf_get (xs.take j) hq)
              have hf := ht.frozen q
              have hcl : (xs.take j).count (q : Int) ≤ j := Nat.le_trans List.count_le_length (by simp; omega)
              have e1 : IntKind.i64.wrap (((xs.take j).count (q : Int) : Int) + 1) = ((xs.take j).count (q : Int) : Int) + 1 := IntWalk.i64_in _ (by omega)
              generalize hcc : (xs.take j).count (q : Int) = cc at hc2 e1 hcl
              have HC := Lib.hid hcc; clear hcc
              have HT := Lib.hid ht; clear ht
              have HO := Lib.hid ho; clear ho
              go_wp2_with fail
              go_roundg (gk - 1)
              case measure => have := HJ.out; omega
              case rel =>
                refine ⟨j + 1, by have := HJ.out; omega, by go_num, ?_, HO.out.other (by simp) _, HB.out.setCell (by simp) _, ?_⟩
                · have := HT.out.set q ((cc : Int) + 1)
                  rw [← HC.out, timesOf_set _ _ hq rfl] at this
                  rw [← HC.out, List.take_add_one, HX.out]; exact this
                · rw [List.take_add_one, HX.out, List.all_append, HA.out]; simp; omega
        · obtain rfl : j = n := by omega
          have HA := Lib.hid hall; clear hall
          have HB := Lib.hid hB; clear hB
          have hz1 : (iarr (timesOf (xs.take j))).size = 8 := rfl
          have hz2 : (iarr (onceTo k)).size = 8 := rfl
          have hq : ∀ w, (binOp .eql 88 (.agg (iarr (timesOf (xs.take j)))) (.agg (iarr (onceTo k)))).run Tryz.prog w = .ok (.bool (timesOf (xs.take j) == onceTo k)) w :=
            fun w => run_eql_iarr w 88 3 _ _ 8 Tryz.underlying88 Tryz.underlying3 (by kernel_rfl) rfl rfl
          have HT := Lib.hid ht; clear ht
          have HO := Lib.hid ho; clear ho
          have H := Lib.hid h; clear h
          go_wp2_with (first | (refine wpList_load_row rfl 88 _ rfl w.heap.size rfl 88 (iarr (timesOf (xs.take j))) (0, 0) _ HT.out Tryz.underlying88 rfl (by kernel_rfl) ?_) | (refine wpList_load_row rfl 88 _ rfl (w.heap.size + 1) rfl 88 (iarr (onceTo k)) (0, 0) _ HO.out Tryz.underlying88 rfl (by kernel_rfl) ?_))
          go_ret
          refine ⟨ret_bool ?_, HB.out⟩
          have ha := HA.out
          have hl := H.out.len
          rw [List.take_of_length_le (by omega)] at ha ⊢
          unfold orderOk
          rw [ha]; rfl
end Go.Proofs.YtbnjeegicbffeaaGreat

/- Walks: slices.IndexFunc, ContainsFunc over lists of lists; markets.Check. -/
namespace Go.Proofs.YtbnjeegicbffeaaGreat
open Go.RowKit

def idxOf (o : Option Nat) : Int := match o with | some k => k | none => -1

/-- what a function value is asked: of any list, behind whatever it makes -/
def Enters (g : Nat) : Prop := ∀ (args : Array Value) (w : World), (callFunc g args).run Tryz.prog w = .ok (.enter g args) w
def Asks (g : Nat) (v : Value) (w : World) (p : List Int → Bool) : Prop :=
  ∀ (w' : World) (a : Option Addr) (n c : Nat) (xs : List Int), Below w.heap.size w w' → Ints w' a n c xs →
    Calls Tryz.prog g #[.slice a n c, v] w' fun e w'' => e = .returned (.bool (p xs)) ∧ Below w'.heap.size w' w''

theorem findIdx_on {α : Type} {xs : List α} {p : α → Bool} {k : Nat} {x : α} (h : xs[k]? = some x) (hf : (xs.take k).findIdx? p = none) (hx : p x = false) : (xs.take (k + 1)).findIdx? p = none := by
  rw [List.take_add_one, h, List.findIdx?_append, hf]
  simp [hx]
theorem findIdx_at {α : Type} {xs : List α} {p : α → Bool} {k : Nat} {x : α} (h : xs[k]? = some x) (hf : (xs.take k).findIdx? p = none) (hx : p x = true) : xs.findIdx? p = some k := by
  have hk : k < xs.length := (List.getElem?_eq_some_iff.1 h).1
  have e : xs = xs.take k ++ x :: xs.drop (k + 1) := by
    have h2 : xs[k] = x := (List.getElem?_eq_some_iff.1 h).2
    rw [← h2, ← List.drop_eq_getElem_cons hk, List.take_append_drop]
  rw [e, List.findIdx?_append, hf]
  simp [List.findIdx?_cons, hx]; omega

set_option maxHeartbeats 400000 in
theorem indexRows_any (a : Option Addr) (n c : Nat) (xss : List (List Int)) (g : Nat) (v : Value) (p : List Int → Bool) (w : World) (h : Rows w a n c xss) (hg : Enters g) (hp : Asks g v w p) :
    Calls Tryz.prog 76 #[.slice a n c, .func (.func g) #[] #[v]] w fun e w' => e = .returned (.int .i64 (idxOf (xss.findIdx? p))) ∧ Below w.heap.size w w' := by
  have hb := h.big
  unfold Enters at hg
  go_enter Tryz.func76, Tryz.ntmps76
  go_wp2_with fail
  go_loopg [8] n (fun g' s8 wr => ∃ k : Nat, k + g' = n ∧ s8 = .int .i64 k ∧ Below w.heap.size w wr ∧ (xss.take k).findIdx? p = none)
  case atStart => exact ⟨0, by omega, rfl, Below.refl _ _, rfl⟩
  case round =>
    obtain ⟨k, hk, rfl, hB, hf⟩ := hrel
    by_cases hlt : k < n
    · obtain ⟨xs, hx⟩ := h.get hlt
      obtain ⟨b, o, rfl⟩ := h.addr (by omega)
      obtain ⟨a', n', c', hc, hi⟩ := (h.below hB (Nat.le_refl _)).cell b o rfl k xs hx
      have HP := Lib.hid (hp wr a' n' c' xs hB hi)
      have H := Lib.hid h; clear h hi hp
      have HF := Lib.hid hf; clear hf
      have HX := Lib.hid hx; clear hx
      have HK := Lib.hid hk; clear hk
      have HB := Lib.hid hB; clear hB
      cases hpx : p xs with
      | true =>
        have HQ := Lib.hid hpx; clear hpx
        go_wp2_with fail
        refine HP.out.mono ?_
        rw [HQ.out]
        rintro e w1 ⟨rfl, hb1⟩
        have HB1 := Lib.hid hb1; clear hb1
        go_wp2_with fail
        go_ret
        refine ⟨ret_int ?_, HB.out.trans (HB1.out.mono HB.out.size)⟩
        rw [findIdx_at HX.out HF.out HQ.out]; rfl
      | false =>
        have HQ := Lib.hid hpx; clear hpx
        go_wp2_with fail
        refine HP.out.mono ?_
        rw [HQ.out]
        rintro e w1 ⟨rfl, hb1⟩
        have HB1 := Lib.hid hb1; clear hb1
        go_wp2_with fail
        go_roundg (gk - 1)
        case measure => have := HK.out; omega
        case rel => exact ⟨k + 1, by have := HK.out; omega, by go_num, HB.out.trans (HB1.out.mono HB.out.size), findIdx_on HX.out HF.out HQ.out⟩
    · obtain rfl : k = n := by omega
      have HF := Lib.hid hf; clear hf
      have HB := Lib.hid hB; clear hB
      have H := Lib.hid h; clear h hp
      go_wp2_with fail
      go_ret
      refine ⟨ret_int ?_, HB.out⟩
      have hl := H.out.len
      have hf := HF.out
      rw [List.take_of_length_le (by omega)] at hf
      rw [hf]; rfl

theorem idxOf_ge (o : Option Nat) : decide (0 ≤ idxOf o) = o.isSome := by cases o <;> simp [idxOf]

set_option maxHeartbeats 400000 in
theorem containsRows_any (a : Option Addr) (n c : Nat) (xss : List (List Int)) (g : Nat) (v : Value) (p : List Int → Bool) (w : World) (h : Rows w a n c xss) (hg : Enters g) (hp : Asks g v w p) :
    Calls Tryz.prog 56 #[.slice a n c, .func (.func g) #[] #[v]] w fun e w' => e = .returned (.bool (xss.any p)) ∧ Below w.heap.size w w' := by
  have HH := Lib.hid h; clear h
  have HG := Lib.hid hg; clear hg
  have HP := Lib.hid hp; clear hp
  go_enter Tryz.func56, Tryz.ntmps56
  go_wp2_with fail
  refine (indexRows_any a n c xss g v p w HH.out HG.out HP.out).mono ?_
  rintro e w1 ⟨rfl, hb1⟩
  have HB1 := Lib.hid hb1; clear hb1
  go_wp2_with fail
  go_ret
  refine ⟨ret_bool ?_, HB1.out⟩
  rw [idxOf_ge, ← List.findIdx?_isSome]
end Go.Proofs.YtbnjeegicbffeaaGreat

/- Walks: markets.Check. -/
namespace Go.Proofs.YtbnjeegicbffeaaGreat
open Go.RowKit

/-- a market as plain data -/
structure Mkt where
  res : List Int
  bids : List (List Int)
  ord : List Int

/-- a bid that may not be -/
def badBid (items : Nat) (b : List Int) : Bool := !b.isEmpty && !vcheck b items
/-- may a market be? -/
def mcheck (m : Mkt) : Bool := vcheck m.res m.res.length && decide (1 ≤ m.bids.length) && decide (m.bids.length ≤ 8) && orderOk m.ord m.bids.length && !(m.bids.any (badBid m.res.length))

theorem enters66 : Enters 57 := fun args w => by
  simp [callFunc, Tryz.func57]
  kernel_rfl

set_option maxHeartbeats 400000 in
theorem badBid_any (a : Option Addr) (n c : Nat) (xs : List Int) (items B : Nat) (w : World) (h : Ints w a n c xs) (hB : w.cell? ⟨B, 0, none⟩ = some (.int .i64 items)) (hi : items ≤ 4611686018427387904) :
    Calls Tryz.prog 57 #[.slice a n c, .pointer (some ⟨B, 0, none⟩)] w fun e w' => e = .returned (.bool (badBid items xs)) ∧ Below w.heap.size w w' := by
  by_cases h0 : 0 < n
  · have hd : decide (0 < n) = true := by simp [h0]
    have hne : xs.isEmpty = false := by have := h.len; cases xs <;> simp_all
    have HN := Lib.hid hne; clear hne
    have H := Lib.hid h; clear h
    go_enter Tryz.func57, Tryz.ntmps57
    go_wp2_with fail
    refine (vcheck_any a n c xs items w H.out (by omega)).mono ?_
    rintro e w1 ⟨rfl, hb1⟩
    have HB1 := Lib.hid hb1; clear hb1
    go_wp2_with fail
    go_ret
    refine ⟨ret_bool ?_, HB1.out⟩
    rw [badBid, HN.out]; rfl
  · obtain rfl : n = 0 := by omega
    have hne : xs.isEmpty = true := by have := h.len; cases xs <;> simp_all
    have HN := Lib.hid hne; clear hne
    have H := Lib.hid h; clear h
    go_enter Tryz.func57, Tryz.ntmps57
    go_wp2_with fail
    go_ret
    refine ⟨ret_bool ?_, Below.refl _ _⟩
    rw [badBid, HN.out]; rfl

set_option maxHeartbeats 400000 in
theorem mcheck_any (ra ba oa : Option Addr) (rn rc bn bc on oc : Nat) (m : Mkt) (w : World) (hr : Ints w ra rn rc m.res) (hb : Rows w ba bn bc m.bids) (ho : Ints w oa on oc m.ord) :
    Calls Tryz.prog 30 #[.agg #[.slice ra rn rc, .slice ba bn bc, .slice oa on oc]] w fun e w' => e = .returned (.bool (mcheck m)) ∧ Below w.heap.size w w' := by
  have hl1 := hr.len
  have hl2 := hb.len
  have hbig1 := hr.big
  have hbig2 := hb.big
  have HR := Lib.hid hr; clear hr
  have HB := Lib.hid hb; clear hb
  have HO := Lib.hid ho; clear ho
  have HL1 := Lib.hid hl1; clear hl1
  have HL2 := Lib.hid hl2; clear hl2
  go_enter Tryz.func30, Tryz.ntmps30
  go_wp2_with fail
  go_region
  go_wp2_with fail
  have hW : Below w.heap.size w ((w.alloc (.cells #[.slice ra rn rc, .slice ba bn bc, .slice oa on oc] 28)).alloc (.cells #[.int .i64 (rn : Int)] 3)).drew := (((Below.refl _ _).alloc (Nat.le_refl _) _).alloc (by simp) _).drew
  refine (vcheck_any ra rn rc m.res rn _ (HR.out.below hW (Nat.le_refl _)) (by omega)).mono ?_
  rintro e w1 ⟨rfl, hb1⟩
  have hW1 := Lib.hid (hW.trans (hb1.mono hW.size))
  obtain ⟨hc1, _⟩ := bcell hb1
  have hz1 : w.heap.size + 1 < w1.heap.size := by have := hb1.size; simp at this; omega
  clear hW hb1
  cases hv1 : vcheck m.res rn with
  | false =>
    have HV1 := Lib.hid hv1; clear hv1
    go_wp2_with fail
    go_ret
    refine ⟨ret_bool ?_, hW1.out⟩
    rw [mcheck, HL1.out, HV1.out]; rfl
  | true =>
    have HV1 := Lib.hid hv1; clear hv1
    by_cases h1 : 1 ≤ bn
    · by_cases h8 : bn ≤ 8
      · go_wp2_with fail
        refine (ordered_any oa on oc m.ord bn w1 (HO.out.below hW1.out (Nat.le_refl _)) h8).mono ?_
        rintro e w2 ⟨rfl, hb2⟩
        have hW2 := Lib.hid (hW1.out.trans (hb2.mono hW1.out.size))
        have hz2 : w.heap.size + 1 < w2.heap.size := by have := hb2.size; omega
        have hcell : w2.cell? ⟨w.heap.size + 1, 0, none⟩ = some (.int .i64 rn) := by
          rw [hb2.cell (p := ⟨w.heap.size + 1, 0, none⟩) (by simp; omega), hc1 _ _ (by simp)]
          simp [go_sem]
        have hcell0 : w2.cell? ⟨w.heap.size, 1, none⟩ = some (.slice ba bn bc) := by
          rw [hb2.cell (p := ⟨w.heap.size, 1, none⟩) (by simp; omega), hc1 _ _ (by simp; omega)]
          simp [go_sem]
        clear hc1 hb2
        cases hv2 : orderOk m.ord bn with
        | false =>
          have HV2 := Lib.hid hv2; clear hv2
          go_wp2_with fail
          go_ret
          refine ⟨ret_bool ?_, hW2.out⟩
          rw [mcheck, HL2.out, HV2.out]; simp
        | true =>
          have HV2 := Lib.hid hv2; clear hv2
          have HC := Lib.hid hcell; clear hcell
          go_wp2_with fail
          refine (containsRows_any ba bn bc m.bids 57 (.pointer (some ⟨w.heap.size + 1, 0, none⟩)) (badBid rn) w2 (HB.out.below hW2.out (Nat.le_refl _)) enters66 ?_).mono ?_
          · intro w' a n c xs hb3 h3
            exact badBid_any a n c xs rn (w.heap.size + 1) w' h3 (by rw [hb3.cell (p := ⟨w.heap.size + 1, 0, none⟩) (by simp; omega)]; exact HC.out) (by omega)
          · rintro e w3 ⟨rfl, hb3⟩
            have hW3 := Lib.hid (hW2.out.trans (hb3.mono hW2.out.size))
            clear hb3
            go_wp2_with fail
            go_ret
            refine ⟨ret_bool ?_, hW3.out⟩
            rw [mcheck, HL1.out, HL2.out, HV1.out, HV2.out]; simp [h1, h8]
      · go_wp2_with fail
        go_ret
        refine ⟨ret_bool ?_, hW1.out⟩
        rw [mcheck, HL2.out]; simp [h8]
    · go_wp2_with fail
      go_ret
      refine ⟨ret_bool ?_, hW1.out⟩
      rw [mcheck, HL2.out]; simp [h1]
end Go.Proofs.YtbnjeegicbffeaaGreat
