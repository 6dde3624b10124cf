/- Walks: package vectors. A law that the kit lacks: '==' between two arrays of integers that are variables. Walks: package markets: the order. Walks: slices.IndexFunc, ContainsFunc over lists of lists; markets.Check. Walks: package weights: check, most. Walks: package graphs: rises, Check, Fits, Many; slices.Index, Contains at ints. -/
import Derived.Test.YtkddkkcfpnndlaaGreatDoorOq00
import Derived.Test.YtkddkkcfpnndlaaGreatDoorRows
import Derived.Laws.StructEq
import Derived.Deep.WholeRow
namespace Go.Proofs.YtkddkkcfpnndlaaGreatDoor
open Go.RowKit

def within (most : Int) (xs : List Int) : Bool := xs.all fun x => decide (0 ≤ x ∧ x ≤ most)
theorem within_no {most : Int} {xs : List Int} {k : Nat} {x : Int} (h : xs[k]? = some x) (hx : x < 0 ∨ most < x) : within most xs = false := by
 unfold within
 rw [List.all_eq_false]
 exact ⟨x, List.mem_of_getElem? h, by simp; omega⟩
theorem within_snoc {most : Int} {xs : List Int} {k : Nat} {x : Int} (h : xs[k]? = some x) (hw : within most (xs.take k) = true) (h0 : 0 ≤ x) (h1 : x ≤ most) : within most (xs.take (k + 1)) = true := by
 unfold within at *
 rw [List.take_add_one, h, List.all_append, hw]
 simp; omega
theorem within_all {most : Int} {xs : List Int} {n : Nat} (h : xs.length = n) : within most (xs.take n) = within most xs := by
 rw [List.take_of_length_le (by omega)]

set_option maxHeartbeats 400000 in
theorem within_any (most : Int) (a : Option Addr) (n c : Nat) (xs : List Int) (w : World) (h : Ints w a n c xs) :
   Calls Tryz.prog 182 #[.int .i64 most, .slice a n c] w fun e w' => e = .returned (.bool (within most xs)) ∧ w = w' := by
 have hb := h.big
 go_enter Tryz.func182, Tryz.ntmps182
 go_wp2_with fail
 go_step3
 go_wp2_with fail
 go_step3
 go_wp2_with fail
 go_loopg [5, 12] n (fun g s5 s12 wr => ∃ k : Nat, k + g = n ∧ s12 = .int .i64 k ∧ s5 = .int .i64 (n - k : Nat) ∧ within most (xs.take k) = true ∧ wr = w)
 case atStart => exact ⟨0, by omega, rfl, rfl, rfl, rfl⟩
 case round =>
   obtain ⟨k, hk, rfl, rfl, hw, rfl⟩ := hrel
   by_cases hlt : k < n
   · obtain ⟨b, o, rfl⟩ := h.addr (by omega)
     obtain ⟨x, hx, _⟩ := h.get hlt
     have hc := h.cell b o rfl k x hx
     have H := Lib.hid h; clear h
     have HW := Lib.hid hw; clear hw
     have HX := Lib.hid hx; clear hx
     have HK := Lib.hid hk; clear hk
     go_wp2_with fail
     · rw [Exit.noGoto_ret]; go_ret
       exact ⟨ret_bool (by rw [within_no (k := k) HX.out (.inl ‹_›), beq_eq_false_iff_ne]; omega), rfl⟩
     · rw [Exit.noGoto_ret]; go_ret
       exact ⟨ret_bool (by rw [within_no (k := k) HX.out (.inr ‹_›), beq_eq_false_iff_ne]; omega), rfl⟩
     · go_roundg (gk - 1)
       case measure => have := HK.out; omega
       case rel => exact ⟨k + 1, by have := HK.out; omega, by go_num, by rw [show ((n - k : Nat) : Int) - 1 = ((n - (k + 1) : Nat) : Int) by omega], within_snoc HX.out HW.out (by omega) (by omega), rfl⟩
   · obtain rfl : k = n := by omega
     have HW := Lib.hid hw; clear hw
     have HL := Lib.hid h.len; clear h
     go_wp2_with fail
     rw [Exit.noGoto_ret]; go_ret
     exact ⟨ret_bool (by rw [← within_all HL.out, HW.out]), rfl⟩

def vcheck (xs : List Int) (items : Int) : Bool := decide (1 ≤ items ∧ items ≤ 8) && decide ((xs.length : Int) = items) && within 1000000 xs

theorem wrap64_bd (x : Int) : -9223372036854775808 ≤ wrap64 x ∧ wrap64 x ≤ 9223372036854775807 := by unfold wrap64; omega
theorem wrap_sub_one (x : Int) (h : -9223372036854775808 ≤ x ∧ x ≤ 9223372036854775807) (h1 : ¬ (1 ≤ x ∧ x ≤ 8)) : within 7 [wrap64 (x - 1)] = false := by
 simp only [within, List.all_cons, List.all_nil, Bool.and_true, decide_eq_false_iff_not]
 unfold wrap64
 omega

set_option maxHeartbeats 400000 in
theorem vcheck_any (a : Option Addr) (n c : Nat) (xs : List Int) (items : Int) (w : World) (h : Ints w a n c xs) (hi : -9223372036854775808 ≤ items ∧ items ≤ 9223372036854775807) :
   Calls Tryz.prog 151 #[.slice a n c, .int .i64 items] w fun e w' => e = .returned (.bool (vcheck xs items)) ∧ Below w.heap.size w w' := by
 have hl := h.len
 have H := Lib.hid h; clear h
 by_cases h1 : 1 ≤ items ∧ items ≤ 8
 · have hw1 : within 7 [items - 1] = true := by simp [within]; omega
   by_cases h2 : (n : Int) = items
   · have e2 : ((n : Int) == items) = true := by simp [h2]
     have hv : vcheck xs items = within 1000000 xs := by simp [vcheck, h1, hl, h2]
     rw [hv]; clear hv
     have H2 := Lib.hid h2; clear h2
     have HL := Lib.hid hl; clear hl
     obtain ⟨h3, h4⟩ := h1
     go_enter Tryz.func151, Tryz.ntmps151
     go_wp2_with fail
     refine (within_any 7 _ 1 1 [items - 1] _ (Ints.one _ (by omega))).mono ?_
     rintro e w1 ⟨rfl, rfl⟩
     go_wp2_with fail
     refine (within_any 1000000 _ _ _ xs _ (H.out.below (w' := w.alloc (.cells #[.int .i64 (items - 1)] 3)) ((Below.refl _ _).alloc (Nat.le_refl _) _) (Nat.le_refl _))).mono ?_
     rintro e w1 ⟨rfl, rfl⟩
     go_wp2_with fail
     go_ret
     exact ⟨rfl, (Below.refl _ _).alloc (Nat.le_refl _) _⟩
   · have e2 : ((n : Int) == items) = false := by simp [h2]
     have hv : vcheck xs items = false := by simp [vcheck, hl, h2]
     rw [hv]; clear hv
     have H2 := Lib.hid h2; clear h2
     have HL := Lib.hid hl; clear hl
     obtain ⟨h3, h4⟩ := h1
     go_enter Tryz.func151, Tryz.ntmps151
     go_wp2_with fail
     refine (within_any 7 _ 1 1 [items - 1] _ (Ints.one _ (by omega))).mono ?_
     rintro e w1 ⟨rfl, rfl⟩
     go_wp2_with fail
     go_ret
     exact ⟨rfl, (Below.refl _ _).alloc (Nat.le_refl _) _⟩
 · have hw1 := wrap_sub_one items hi h1
   have hv : vcheck xs items = false := by simp [vcheck, h1]
   rw [hv]; clear hv
   have H1 := Lib.hid h1; clear h1
   go_enter Tryz.func151, Tryz.ntmps151
   go_wp2_with fail
   refine (within_any 7 _ 1 1 [wrap64 (items - 1)] _ (Ints.one _ (wrap64_bd _))).mono ?_
   rintro e w1 ⟨rfl, rfl⟩
   go_wp2_with fail
   go_ret
   exact ⟨rfl, (Below.refl _ _).alloc (Nat.le_refl _) _⟩

end Go.Proofs.YtkddkkcfpnndlaaGreatDoor

namespace Go.Proofs.YtkddkkcfpnndlaaGreatDoor
open Go.RowKit
def tabN (n : Nat) (f : Nat → Int) : List Int := (List.range n).map f
theorem tabN_length (n : Nat) (f : Nat → Int) : (tabN n f).length = n := by simp [tabN]
theorem tabN_get {n : Nat} (f : Nat → Int) {k : Nat} (h : k < n) : (tabN n f)[k]? = some (f k) := by simp [tabN, h]
theorem tabN_set (n : Nat) (f : Nat → Int) (k : Nat) (v : Int) : (tabN n f).set k v = tabN n (fun j => if j = k then v else f j) := by
 apply List.ext_getElem?
 intro j
 rw [List.getElem?_set]
 by_cases hj : j < n
 · rw [tabN_get _ hj, tabN_get _ hj]
   by_cases e : k = j
   · subst e; simp [tabN, hj]
   · simp [e, Ne.symm e]
 · rw [List.getElem?_eq_none (l := tabN n f) (by simp [tabN]; omega), List.getElem?_eq_none (l := tabN n _) (by simp [tabN]; omega)]
   simp [tabN]; omega
theorem tabN_congr {n : Nat} {f f' : Nat → Int} (h : ∀ j, j < n → f j = f' j) : tabN n f = tabN n f' := by
 unfold tabN; exact List.map_congr_left fun j hj => h j (List.mem_range.1 hj)

section
variable {P : Program} (w : World)
theorem run_sizeOf_one (e : TypeId) (hs : (P.info? e).map (·.size) = some 1) : (sizeOf e).run P w = .ok 1 w := by
 cases hq : P.info? e with
 | none => simp [hq] at hs
 | some i =>
   have : i.size = 1 := by simpa [hq] using hs
   simp [sizeOf, typeInfo, hq, this]
theorem run_part_iarr (e : TypeId) (xs : List Int) (k : Nat) (x : Int) (he : P.underlying e = some (.int .i64)) (hx : xs[k]? = some x) : (part e (iarr xs) k).run P w = .ok (.int .i64 x) w := by
 have hagg : (isAgg e).run P w = .ok false w := by
   unfold isAgg
   rw [Sem.run_bind, run_underlying he w]
   simp
 simp [part, Sem.run_bind, hagg, iarr_get, hx]
theorem run_equalIn_i64 (d : Nat) (e : TypeId) (x y : Int) (he : P.underlying e = some (.int .i64)) : (Op.equalIn (d + 1) e (.int .i64 x) (.int .i64 y)).run P w = .ok (x == y) w := by
 rw [Op.equalIn]
 simp [Sem.run_bind, run_underlying he]
theorem run_equal_loop (d : Nat) (e : TypeId) (xs ys : List Int) (len : Nat) (he : P.underlying e = some (.int .i64)) (hx : xs.length = len) (hy : ys.length = len) :
   ∀ (m k : Nat), k + m = len → (Sem.run P (forIn (List.range' k m) ((none : Option Bool), ()) fun i (_ : Option Bool × Unit) => do
           let __do_lift ← part e (iarr xs) i
           let __do_lift_1 ← part e (iarr ys) i
           let __do_lift ← Op.equalIn (d + 1) e __do_lift __do_lift_1
           if (!__do_lift) = true then pure (ForInStep.done (some false, ())) else pure (ForInStep.yield (none, ()))) w) = .ok (if xs.drop k == ys.drop k then none else some false, ()) w
 | 0, k, hk => by
   rw [List.drop_of_length_le (by omega), List.drop_of_length_le (by omega)]
   simp
 | m + 1, k, hk => by
   have h1 : k < xs.length := by omega
   have h2 : k < ys.length := by omega
   rw [List.range'_succ, List.forIn_cons]
   simp only [Sem.run_bind, run_part_iarr w e xs k xs[k] he (by simp), run_part_iarr w e ys k ys[k] he (by simp), Result.andThen_ok, run_equalIn_i64 w d e _ _ he, Sem.run_ite, Sem.run_pure]
   have hd : (xs.drop k == ys.drop k) = (xs[k] == ys[k] && xs.drop (k + 1) == ys.drop (k + 1)) := by rw [List.drop_eq_getElem_cons h1, List.drop_eq_getElem_cons h2]; rfl
   rw [hd]; clear hd
   by_cases e1 : xs[k] = ys[k]
   · have := run_equal_loop d e xs ys len he hx hy m (k + 1) (by omega)
     simp [e1] at this ⊢
     exact this
   · simp [e1]
theorem run_equalIn_iarr (d : Nat) (t e : TypeId) (xs ys : List Int) (len : Nat) (ht : P.underlying t = some (.array len e)) (he : P.underlying e = some (.int .i64)) (hs : (P.info? e).map (·.size) = some 1)
   (hx : xs.length = len) (hy : ys.length = len) : (Op.equalIn (d + 2) t (.agg (iarr xs)) (.agg (iarr ys))).run P w = .ok (xs == ys) w := by
 rw [Op.equalIn]
 simp only [Sem.run_bind, run_underlying ht, Result.andThen_ok, run_sizeOf_one w e hs, Std.Legacy.Range.forIn_eq_forIn_range', Std.Legacy.Range.size, Nat.mul_one]
 have h := run_equal_loop w d e xs ys len he hx hy len 0 (by omega)
 rw [show (len - 0 + 1 - 1) / 1 = len by omega, h]
 by_cases e1 : xs = ys <;> simp [e1]
theorem run_eql_iarr (t e : TypeId) (xs ys : List Int) (len : Nat) (ht : P.underlying t = some (.array len e)) (he : P.underlying e = some (.int .i64)) (hs : (P.info? e).map (·.size) = some 1)
   (hx : xs.length = len) (hy : ys.length = len) : (binOp .eql t (.agg (iarr xs)) (.agg (iarr ys))).run P w = .ok (.bool (xs == ys)) w := by
 simp only [binOp, Op.equal, Op.maxDepth, Sem.run_bind, run_equalIn_iarr w 9998 t e xs ys len ht he hs hx hy]
 rfl

theorem wpList_store_new {ops : Array Oper} {rest : List Oper} {o : Oper} {a : Act} {Q : Exit → Act → World → Prop} (hgd : o.guard = none) (ty : TypeId) (x y : Operand) (ho : o.op = .store ty x y)
   (c c' : Array Value) (hx : a.eval x = .pointer (some ⟨w.heap.size, 0, none⟩)) (hy : a.eval y = .agg c') (hi : (P.info? ty).map (·.size) = some c'.size) (hs : c.size = c'.size) (h1 : c'.all (·.oneCell') = true)
   (h : wpList P ops Q rest (a.put o.dst undef) (w.alloc (.cells c' ty))) : wpList P ops Q (o :: rest) a (w.alloc (.cells c ty)) :=
 wpList_plain hgd fun K hK => by
   unfold Oper.wp execOp
   simp only [ho, hx, hy, Sem.run_bind, run_storeAt_new w ty c c' hi hs h1, Result.andThen_ok, Sem.run_pure]
   exact hK _ _ h
theorem iarr_oneCell (xs : List Int) : (iarr xs).all (·.oneCell') = true := by
 simp [iarr, Value.oneCell']
end
end Go.Proofs.YtkddkkcfpnndlaaGreatDoor

namespace Go.Proofs.YtkddkkcfpnndlaaGreatDoor
open Go.RowKit

def onceTo (k : Nat) : List Int := (List.range 8).map fun j => if j < k then 1 else 0
def timesOf (l : List Int) : List Int := (List.range 8).map fun (j : Nat) => (l.count (j : Int) : Int)
theorem onceTo_get {m k : Nat} (h : k < 8) : (onceTo m)[k]? = some (if k < m then 1 else 0) := by simp [onceTo, h]
theorem onceTo_set {k : Nat} (h : k < 8) : (onceTo k).set k 1 = onceTo (k + 1) := by
 have : ∀ k, k < 8 → (onceTo k).set k 1 = onceTo (k + 1) := by decide
 exact this k h
theorem timesOf_get (l : List Int) {k : Nat} (h : k < 8) : (timesOf l)[k]? = some (l.count (k : Int) : Int) := by simp [timesOf, h]
theorem timesOf_set (l : List Int) (x : Int) {k : Nat} (h : k < 8) (hx : x = k) : (timesOf l).set k ((l.count (k : Int) : Int) + 1) = timesOf (l ++ [x]) := by
 subst hx
 apply List.ext_getElem?
 intro j
 rw [List.getElem?_set]
 by_cases hj : j < 8
 · rw [timesOf_get _ hj, timesOf_get _ hj]
   by_cases e : k = j
   · subst e; simp [timesOf, hj, List.count_append]
   · have : ¬ ((k : Int) = (j : Int)) := by omega
     simp [e, List.count_append, this]
 · have : k ≠ j := by omega
   rw [if_neg this, List.getElem?_eq_none (by simp [timesOf]; omega), List.getElem?_eq_none (by simp [timesOf]; omega)]

def orderOk (l : List Int) (m : Nat) : Bool := l.all (fun x => decide (0 ≤ x ∧ x < m)) && (timesOf l == onceTo m)

theorem orderOk_no {xs : List Int} {m k : Nat} {x : Int} (h : xs[k]? = some x) (hx : x < 0 ∨ (m : Int) ≤ x) : orderOk xs m = false := by
 have : xs.all (fun x => decide (0 ≤ x ∧ x < m)) = false := by
   rw [List.all_eq_false]
   exact ⟨x, List.mem_of_getElem? h, by simp; omega⟩
 unfold orderOk; rw [this]; rfl

set_option maxHeartbeats 400000 in
theorem ordered_any (a : Option Addr) (n c : Nat) (xs : List Int) (m : Nat) (w : World) (h : Ints w a n c xs) (hm : m ≤ 8) :
   Calls Tryz.prog 152 #[.slice a n c, .int .i64 m] w fun e w' => e = .returned (.bool (orderOk xs m)) ∧ Below w.heap.size w w' := by
 have hb := h.big
 go_enter Tryz.func152, Tryz.ntmps152
 go_wp2_with fail
 go_loopg [11] m (fun g s11 wr => ∃ k : Nat, k + g = m ∧ s11 = .int .i64 k ∧ Row wr w.heap.size 114 (timesOf []) ∧ Row wr (w.heap.size + 1) 114 (onceTo k) ∧ Below w.heap.size w wr)
 case atStart =>
   exact ⟨0, by omega, rfl, (Row.new _ _ (timesOf [])).alloc _, Row.new' _ _ (onceTo 0) (by simp), ((Below.refl _ _).alloc (Nat.le_refl _) _).alloc (by simp) _⟩
 case round =>
   obtain ⟨k, hk, rfl, ht, ho, hB⟩ := hrel
   by_cases hlt : k < m
   · have hc := ho.cell (onceTo_get (m := k) (k := k) (by omega))
     have hf := ho.frozen k
     have HK := Lib.hid hk; clear hk
     have HT := Lib.hid ht; clear ht
     have HO := Lib.hid ho; clear ho
     have HB := Lib.hid hB; clear hB
     have H := Lib.hid h; clear h
     go_wp2_with fail
     go_roundg (gk - 1)
     case measure => have := HK.out; omega
     case rel => exact ⟨k + 1, by have := HK.out; omega, by go_num, HT.out.other (by simp) _, by rw [← onceTo_set (by omega)]; exact HO.out.set k 1, HB.out.setCell (by simp) _⟩
   · obtain rfl : k = m := by omega
     have HT := Lib.hid ht; clear ht
     have HO := Lib.hid ho; clear ho
     have HB := Lib.hid hB; clear hB
     go_wp2_with fail
     obtain ⟨w1, rfl⟩ : ∃ w1 : World, w1 = wr := ⟨_, rfl⟩
     go_loopg [19] n (fun g s19 wr => ∃ j : Nat, j + g = n ∧ s19 = .int .i64 j ∧ Row wr w.heap.size 114 (timesOf (xs.take j)) ∧ Row wr (w.heap.size + 1) 114 (onceTo k) ∧ Below w.heap.size w wr ∧ (xs.take j).all (fun x => decide (0 ≤ x ∧ x < k)) = true)
     case atStart => exact ⟨0, by omega, rfl, HT.out, HO.out, HB.out, rfl⟩
     case round =>
       obtain ⟨j, hj, rfl, ht, ho, hB, hall⟩ := hrel
       by_cases hlt : j < n
       · obtain ⟨x, hx, _⟩ := h.get hlt
         obtain ⟨b, o, rfl⟩ := h.addr (by omega)
         have h1 := h.below hB (Nat.le_refl _)
         have hc := h1.cell b o rfl j x hx
         have HX := Lib.hid hx; clear hx
         have HJ := Lib.hid hj; clear hj
         have HA := Lib.hid hall; clear hall
         have HB := Lib.hid hB; clear hB
         have H := Lib.hid h; clear h h1
         by_cases hx0 : x < 0
         · have HT := Lib.hid ht; clear ht
           have HO := Lib.hid ho; clear ho
           go_wp2_with fail
           go_ret
           exact ⟨ret_bool (by rw [orderOk_no HX.out (.inl hx0)]), HB.out⟩
         · by_cases hx1 : (k : Int) ≤ x
           · have HT := Lib.hid ht; clear ht
             have HO := Lib.hid ho; clear ho
             go_wp2_with fail
             go_ret
             exact ⟨ret_bool (by rw [orderOk_no HX.out (.inr hx1)]), HB.out⟩
           · obtain ⟨q, rfl⟩ : ∃ q : Nat, x = q := ⟨x.toNat, by omega⟩
             have hq : q < 8 := by omega
             have hc2 := ht.cell (timesOf_get (xs.take j) hq)
             have hf := ht.frozen q
             have hcl : (xs.take j).count (q : Int) ≤ j := Nat.le_trans List.count_le_length (by simp; omega)
             have e1 : IntKind.i64.wrap (((xs.take j).count (q : Int) : Int) + 1) = ((xs.take j).count (q : Int) : Int) + 1 := IntWalk.i64_in _ (by omega)
             generalize hcc : (xs.take j).count (q : Int) = cc at hc2 e1 hcl
             have HC := Lib.hid hcc; clear hcc
             have HT := Lib.hid ht; clear ht
             have HO := Lib.hid ho; clear ho
             go_wp2_with fail
             go_roundg (gk - 1)
             case measure => have := HJ.out; omega
             case rel =>
               refine ⟨j + 1, by have := HJ.out; omega, by go_num, ?_, HO.out.other (by simp) _, HB.out.setCell (by simp) _, ?_⟩
               · have := HT.out.set q ((cc : Int) + 1)
                 rw [← HC.out, timesOf_set _ _ hq rfl] at this
                 rw [← HC.out, List.take_add_one, HX.out]; exact this
               · rw [List.take_add_one, HX.out, List.all_append, HA.out]; simp; omega
       · obtain rfl : j = n := by omega
         have HA := Lib.hid hall; clear hall
         have HB := Lib.hid hB; clear hB
         have hz1 : (iarr (timesOf (xs.take j))).size = 8 := rfl
         have hz2 : (iarr (onceTo k)).size = 8 := rfl
         have hq : ∀ w, (binOp .eql 114 (.agg (iarr (timesOf (xs.take j)))) (.agg (iarr (onceTo k)))).run Tryz.prog w = .ok (.bool (timesOf (xs.take j) == onceTo k)) w :=
           fun w => run_eql_iarr w 114 3 _ _ 8 Tryz.underlying114 Tryz.underlying3 (by kernel_rfl) rfl rfl
         have HT := Lib.hid ht; clear ht
         have HO := Lib.hid ho; clear ho
         have H := Lib.hid h; clear h
         go_wp2_with (first | (refine wpList_load_row rfl 114 _ rfl w.heap.size rfl 114 (iarr (timesOf (xs.take j))) (0, 0) _ HT.out Tryz.underlying114 rfl (by kernel_rfl) ?_) | (refine wpList_load_row rfl 114 _ rfl (w.heap.size + 1) rfl 114 (iarr (onceTo k)) (0, 0) _ HO.out Tryz.underlying114 rfl (by kernel_rfl) ?_))
         go_ret
         refine ⟨ret_bool ?_, HB.out⟩
         have ha := HA.out
         have hl := H.out.len
         rw [List.take_of_length_le (by omega)] at ha ⊢
         unfold orderOk
         rw [ha]; rfl
end Go.Proofs.YtkddkkcfpnndlaaGreatDoor

namespace Go.Proofs.YtkddkkcfpnndlaaGreatDoor
open Go.RowKit

def idxOf (o : Option Nat) : Int := match o with | some k => k | none => -1

def Enters (g : Nat) : Prop := ∀ (args : Array Value) (w : World), (callFunc g args).run Tryz.prog w = .ok (.enter g args) w
def Asks (g : Nat) (v : Value) (w : World) (p : List Int → Bool) : Prop :=
 ∀ (w' : World) (a : Option Addr) (n c : Nat) (xs : List Int), Below w.heap.size w w' → Ints w' a n c xs →
   Calls Tryz.prog g #[.slice a n c, v] w' fun e w'' => e = .returned (.bool (p xs)) ∧ Below w'.heap.size w' w''

theorem findIdx_on {α : Type} {xs : List α} {p : α → Bool} {k : Nat} {x : α} (h : xs[k]? = some x) (hf : (xs.take k).findIdx? p = none) (hx : p x = false) : (xs.take (k + 1)).findIdx? p = none := by
 rw [List.take_add_one, h, List.findIdx?_append, hf]
 simp [hx]
theorem findIdx_at {α : Type} {xs : List α} {p : α → Bool} {k : Nat} {x : α} (h : xs[k]? = some x) (hf : (xs.take k).findIdx? p = none) (hx : p x = true) : xs.findIdx? p = some k := by
 have hk : k < xs.length := (List.getElem?_eq_some_iff.1 h).1
 have e : xs = xs.take k ++ x :: xs.drop (k + 1) := by
   have h2 : xs[k] = x := (List.getElem?_eq_some_iff.1 h).2
   rw [← h2, ← List.drop_eq_getElem_cons hk, List.take_append_drop]
 rw [e, List.findIdx?_append, hf]
 simp [List.findIdx?_cons, hx]; omega

set_option maxHeartbeats 400000 in
theorem indexRows_any (a : Option Addr) (n c : Nat) (xss : List (List Int)) (g : Nat) (v : Value) (p : List Int → Bool) (w : World) (h : Rows w a n c xss) (hg : Enters g) (hp : Asks g v w p) :
   Calls Tryz.prog 183 #[.slice a n c, .func (.func g) #[] #[v]] w fun e w' => e = .returned (.int .i64 (idxOf (xss.findIdx? p))) ∧ Below w.heap.size w w' := by
 have hb := h.big
 unfold Enters at hg
 go_enter Tryz.func183, Tryz.ntmps183
 go_wp2_with fail
 go_loopg [8] n (fun g' s8 wr => ∃ k : Nat, k + g' = n ∧ s8 = .int .i64 k ∧ Below w.heap.size w wr ∧ (xss.take k).findIdx? p = none)
 case atStart => exact ⟨0, by omega, rfl, Below.refl _ _, rfl⟩
 case round =>
   obtain ⟨k, hk, rfl, hB, hf⟩ := hrel
   by_cases hlt : k < n
   · obtain ⟨xs, hx⟩ := h.get hlt
     obtain ⟨b, o, rfl⟩ := h.addr (by omega)
     obtain ⟨a', n', c', hc, hi⟩ := (h.below hB (Nat.le_refl _)).cell b o rfl k xs hx
     have HP := Lib.hid (hp wr a' n' c' xs hB hi)
     have H := Lib.hid h; clear h hi hp
     have HF := Lib.hid hf; clear hf
     have HX := Lib.hid hx; clear hx
     have HK := Lib.hid hk; clear hk
     have HB := Lib.hid hB; clear hB
     cases hpx : p xs with
     | true =>
       have HQ := Lib.hid hpx; clear hpx
       go_wp2_with fail
       refine HP.out.mono ?_
       rw [HQ.out]
       rintro e w1 ⟨rfl, hb1⟩
       have HB1 := Lib.hid hb1; clear hb1
       go_wp2_with fail
       go_ret
       refine ⟨ret_int ?_, HB.out.trans (HB1.out.mono HB.out.size)⟩
       rw [findIdx_at HX.out HF.out HQ.out]; rfl
     | false =>
       have HQ := Lib.hid hpx; clear hpx
       go_wp2_with fail
       refine HP.out.mono ?_
       rw [HQ.out]
       rintro e w1 ⟨rfl, hb1⟩
       have HB1 := Lib.hid hb1; clear hb1
       go_wp2_with fail
       go_roundg (gk - 1)
       case measure => have := HK.out; omega
       case rel => exact ⟨k + 1, by have := HK.out; omega, by go_num, HB.out.trans (HB1.out.mono HB.out.size), findIdx_on HX.out HF.out HQ.out⟩
   · obtain rfl : k = n := by omega
     have HF := Lib.hid hf; clear hf
     have HB := Lib.hid hB; clear hB
     have H := Lib.hid h; clear h hp
     go_wp2_with fail
     go_ret
     refine ⟨ret_int ?_, HB.out⟩
     have hl := H.out.len
     have hf := HF.out
     rw [List.take_of_length_le (by omega)] at hf
     rw [hf]; rfl

theorem idxOf_ge (o : Option Nat) : decide (0 ≤ idxOf o) = o.isSome := by cases o <;> simp [idxOf]

set_option maxHeartbeats 400000 in
theorem containsRows_any (a : Option Addr) (n c : Nat) (xss : List (List Int)) (g : Nat) (v : Value) (p : List Int → Bool) (w : World) (h : Rows w a n c xss) (hg : Enters g) (hp : Asks g v w p) :
   Calls Tryz.prog 153 #[.slice a n c, .func (.func g) #[] #[v]] w fun e w' => e = .returned (.bool (xss.any p)) ∧ Below w.heap.size w w' := by
 have HH := Lib.hid h; clear h
 have HG := Lib.hid hg; clear hg
 have HP := Lib.hid hp; clear hp
 go_enter Tryz.func153, Tryz.ntmps153
 go_wp2_with fail
 refine (indexRows_any a n c xss g v p w HH.out HG.out HP.out).mono ?_
 rintro e w1 ⟨rfl, hb1⟩
 have HB1 := Lib.hid hb1; clear hb1
 go_wp2_with fail
 go_ret
 refine ⟨ret_bool ?_, HB1.out⟩
 rw [idxOf_ge, ← List.findIdx?_isSome]
end Go.Proofs.YtkddkkcfpnndlaaGreatDoor

namespace Go.Proofs.YtkddkkcfpnndlaaGreatDoor
open Go.RowKit

def badGain (x : Int) : Bool := decide (x < -1000000) || decide (1000000 < x)

theorem badGain_any (x : Int) (w : World) :
   Calls Tryz.prog 164 #[.int .i64 x] w fun e w' => e = .returned (.bool (badGain x)) ∧ w = w' := by
 by_cases h : x < -1000000
 · go_enter Tryz.func164, Tryz.ntmps164
   go_wp2_with fail
   go_ret
   exact ⟨ret_bool (by simp [badGain, h]), rfl⟩
 · go_enter Tryz.func164, Tryz.ntmps164
   go_wp2_with fail
   go_ret
   exact ⟨ret_bool (by simp [badGain]; omega), rfl⟩

theorem enters70 : Enters 162 := fun args w => by
 simp [callFunc, Tryz.func162]
 kernel_rfl

set_option maxHeartbeats 400000 in
theorem indexGain_any (a : Option Addr) (n c : Nat) (xs : List Int) (w : World) (h : Ints w a n c xs) :
   Calls Tryz.prog 191 #[.slice a n c, .func (.func 164) #[] #[]] w fun e w' => e = .returned (.int .i64 (idxOf (xs.findIdx? badGain))) ∧ w = w' := by
 have hb := h.big
 go_enter Tryz.func191, Tryz.ntmps191
 go_wp2_with fail
 go_loopg [8] n (fun g' s8 wr => ∃ k : Nat, k + g' = n ∧ s8 = .int .i64 k ∧ wr = w ∧ (xs.take k).findIdx? badGain = none)
 case atStart => exact ⟨0, by omega, rfl, rfl, rfl⟩
 case round =>
   obtain ⟨k, hk, rfl, rfl, hf⟩ := hrel
   by_cases hlt : k < n
   · obtain ⟨x, hx, _⟩ := h.get hlt
     obtain ⟨b, o, rfl⟩ := h.addr (by omega)
     have hc := h.cell b o rfl k x hx
     have H := Lib.hid h; clear h
     have HF := Lib.hid hf; clear hf
     have HX := Lib.hid hx; clear hx
     have HK := Lib.hid hk; clear hk
     cases hpx : badGain x with
     | true =>
       have HQ := Lib.hid hpx; clear hpx
       go_wp2_with fail
       refine (badGain_any x wr).mono ?_
       rw [HQ.out]
       rintro e w1 ⟨rfl, rfl⟩
       go_wp2_with fail
       go_ret
       refine ⟨ret_int ?_, rfl⟩
       rw [findIdx_at HX.out HF.out HQ.out]; rfl
     | false =>
       have HQ := Lib.hid hpx; clear hpx
       go_wp2_with fail
       refine (badGain_any x wr).mono ?_
       rw [HQ.out]
       rintro e w1 ⟨rfl, rfl⟩
       go_wp2_with fail
       go_roundg (gk - 1)
       case measure => have := HK.out; omega
       case rel => exact ⟨k + 1, by have := HK.out; omega, by go_num, rfl, findIdx_on HX.out HF.out HQ.out⟩
   · obtain rfl : k = n := by omega
     have HF := Lib.hid hf; clear hf
     have H := Lib.hid h; clear h
     go_wp2_with fail
     go_ret
     refine ⟨ret_int ?_, rfl⟩
     have hl := H.out.len
     have hf := HF.out
     rw [List.take_of_length_le (by omega)] at hf
     rw [hf]; rfl

set_option maxHeartbeats 400000 in
theorem containsGain_any (a : Option Addr) (n c : Nat) (xs : List Int) (w : World) (h : Ints w a n c xs) :
   Calls Tryz.prog 163 #[.slice a n c, .func (.func 164) #[] #[]] w fun e w' => e = .returned (.bool (xs.any badGain)) ∧ w = w' := by
 have HH := Lib.hid h; clear h
 go_enter Tryz.func163, Tryz.ntmps163
 go_wp2_with fail
 refine (indexGain_any a n c xs w HH.out).mono ?_
 rintro e w1 ⟨rfl, rfl⟩
 go_wp2_with fail
 go_ret
 refine ⟨ret_bool ?_, rfl⟩
 rw [idxOf_ge, ← List.findIdx?_isSome]

def badGains (items : Int) (l : List Int) : Bool := !decide ((l.length : Int) = items) || l.any badGain

set_option maxHeartbeats 400000 in
theorem badGains_any (a : Option Addr) (n c : Nat) (xs : List Int) (items : Int) (B : Nat) (w : World) (h : Ints w a n c xs) (hB : w.cell? ⟨B, 0, none⟩ = some (.int .i64 items)) :
   Calls Tryz.prog 162 #[.slice a n c, .pointer (some ⟨B, 0, none⟩)] w fun e w' => e = .returned (.bool (badGains items xs)) ∧ Below w.heap.size w w' := by
 have hl := h.len
 have H := Lib.hid h; clear h
 by_cases e : (n : Int) = items
 · have e1 : ((n : Int) != items) = false := by simp [e]
   have E := Lib.hid e; clear e
   have HL := Lib.hid hl; clear hl
   go_enter Tryz.func162, Tryz.ntmps162
   go_wp2_with fail
   refine (containsGain_any a n c xs w H.out).mono ?_
   rintro e w1 ⟨rfl, rfl⟩
   go_wp2_with fail
   go_ret
   refine ⟨ret_bool ?_, Below.refl _ _⟩
   rw [badGains, HL.out]; simp [E.out]
 · have e1 : ((n : Int) != items) = true := by simp [e]
   have E := Lib.hid e; clear e
   have HL := Lib.hid hl; clear hl
   go_enter Tryz.func162, Tryz.ntmps162
   go_wp2_with fail
   go_ret
   refine ⟨ret_bool ?_, Below.refl _ _⟩
   rw [badGains, HL.out]; simp [E.out]

def wcheck (gains : List (List Int)) (items : Int) : Bool := decide (1 ≤ items) && decide (items ≤ 8) && decide (gains.length ≤ 8) && !(gains.any (badGains items))

set_option maxHeartbeats 400000 in
theorem wcheck_any (a : Option Addr) (n c : Nat) (gains : List (List Int)) (items : Int) (w : World) (h : Rows w a n c gains) :
   Calls Tryz.prog 122 #[.slice a n c, .int .i64 items] w fun e w' => e = .returned (.bool (wcheck gains items)) ∧ Below w.heap.size w w' := by
 have hl := h.len
 have hbig := h.big
 have H := Lib.hid h; clear h
 have HL := Lib.hid hl; clear hl
 go_enter Tryz.func122, Tryz.ntmps122
 by_cases h1 : 1 ≤ items
 · by_cases h2 : items ≤ 8
   · by_cases h3 : n ≤ 8
     · go_wp2_with fail
       refine (containsRows_any a n c gains 162 (.pointer (some ⟨w.heap.size, 0, none⟩)) (badGains items) _ (H.out.below (w' := w.alloc (.cells #[.int .i64 items] 3)) ((Below.refl _ _).alloc (Nat.le_refl _) _) (Nat.le_refl _)) enters70 ?_).mono ?_
       · intro w' a n c xs hb3 h3
         exact badGains_any a n c xs items w.heap.size w' h3 (by rw [hb3.cell (p := ⟨w.heap.size, 0, none⟩) (by simp)]; simp [go_sem])
       · rintro e w3 ⟨rfl, hb3⟩
         have HB3 := Lib.hid hb3; clear hb3
         go_wp2_with fail
         go_ret
         refine ⟨ret_bool ?_, ((Below.refl _ _).alloc (Nat.le_refl _) _).trans (HB3.out.mono (by simp))⟩
         rw [wcheck, HL.out]; simp [h1, h2, h3]
     · go_wp2_with fail
       go_ret
       exact ⟨ret_bool (by rw [wcheck, HL.out]; simp [h3]), (Below.refl _ _).alloc (Nat.le_refl _) _⟩
   · go_wp2_with fail
     go_ret
     exact ⟨ret_bool (by rw [wcheck]; simp; intros; omega), (Below.refl _ _).alloc (Nat.le_refl _) _⟩
 · go_wp2_with fail
   go_ret
   exact ⟨ret_bool (by rw [wcheck]; simp; intros; omega), (Below.refl _ _).alloc (Nat.le_refl _) _⟩

def mostOf (x : Int) (l : List Int) : Int := l.foldl max x

set_option maxHeartbeats 400000 in
theorem most_any (x : Int) (a : Option Addr) (n c : Nat) (xs : List Int) (w : World) (h : Ints w a n c xs) :
   Calls Tryz.prog 165 #[.int .i64 x, .slice a n c] w fun e w' => e = .returned (.int .i64 (mostOf x xs)) ∧ w = w' := by
 have hb := h.big
 go_enter Tryz.func165, Tryz.ntmps165
 go_wp2_with fail
 go_loopg [0, 9] n (fun g' s0 s9 wr => ∃ k : Nat, k + g' = n ∧ s9 = .int .i64 k ∧ s0 = .int .i64 (mostOf x (xs.take k)) ∧ wr = w)
 case atStart => exact ⟨0, by omega, rfl, rfl, rfl⟩
 case round =>
   obtain ⟨k, hk, rfl, rfl, rfl⟩ := hrel
   by_cases hlt : k < n
   · obtain ⟨y, hx, _⟩ := h.get hlt
     obtain ⟨b, o, rfl⟩ := h.addr (by omega)
     have hc := h.cell b o rfl k y hx
     have e1 : mostOf x (xs.take (k + 1)) = max (mostOf x (xs.take k)) y := by
       rw [List.take_add_one, hx]; simp [mostOf]
     have E := Lib.hid e1; clear e1
     have H := Lib.hid h; clear h
     have HX := Lib.hid hx; clear hx
     have HK := Lib.hid hk; clear hk
     generalize hm : mostOf x (xs.take k) = z at *
     have HM := Lib.hid hm; clear hm
     by_cases hz : z < y
     · go_wp2_with fail
       go_roundg (gk - 1)
       case measure => have := HK.out; omega
       case rel => exact ⟨k + 1, by have := HK.out; omega, by go_num, by rw [E.out]; congr 1; omega, rfl⟩
     · go_wp2_with fail
       go_roundg (gk - 1)
       case measure => have := HK.out; omega
       case rel => exact ⟨k + 1, by have := HK.out; omega, by go_num, by rw [E.out]; congr 1; omega, rfl⟩
   · obtain rfl : k = n := by omega
     have hl := h.len
     have e1 : mostOf x (xs.take k) = mostOf x xs := by rw [List.take_of_length_le (by omega)]
     rw [e1]; clear e1
     have HL := Lib.hid hl; clear hl
     have H := Lib.hid h; clear h
     go_wp2_with fail
     go_ret
     exact ⟨rfl, rfl⟩
end Go.Proofs.YtkddkkcfpnndlaaGreatDoor

namespace Go.Proofs.YtkddkkcfpnndlaaGreatDoor
open Go.RowKit

/-! ### slices.Index, Contains -/
set_option maxHeartbeats 400000 in
theorem index_any (a : Option Addr) (n c : Nat) (xs : List Int) (x : Int) (w : World) (h : Ints w a n c xs) :
   Calls Tryz.prog 184 #[.slice a n c, .int .i64 x] w fun e w' => e = .returned (.int .i64 (idxOf (xs.findIdx? fun y => x == y))) ∧ w = w' := by
 have hb := h.big
 go_enter Tryz.func184, Tryz.ntmps184
 go_wp2_with fail
 go_loopg [8] n (fun g' s8 wr => ∃ k : Nat, k + g' = n ∧ s8 = .int .i64 k ∧ wr = w ∧ (xs.take k).findIdx? (fun y => x == y) = none)
 case atStart => exact ⟨0, by omega, rfl, rfl, rfl⟩
 case round =>
   obtain ⟨k, hk, rfl, rfl, hf⟩ := hrel
   by_cases hlt : k < n
   · obtain ⟨y, hx, _⟩ := h.get hlt
     obtain ⟨b, o, rfl⟩ := h.addr (by omega)
     have hc := h.cell b o rfl k y hx
     have H := Lib.hid h; clear h
     have HF := Lib.hid hf; clear hf
     have HX := Lib.hid hx; clear hx
     have HK := Lib.hid hk; clear hk
     cases hpx : (x == y) with
     | true =>
       go_wp2_with fail
       go_ret
       refine ⟨ret_int ?_, rfl⟩
       rw [findIdx_at (p := fun y => x == y) HX.out HF.out hpx]; rfl
     | false =>
       go_wp2_with fail
       go_roundg (gk - 1)
       case measure => have := HK.out; omega
       case rel => exact ⟨k + 1, by have := HK.out; omega, by go_num, rfl, findIdx_on (p := fun y => x == y) HX.out HF.out hpx⟩
   · obtain rfl : k = n := by omega
     have HF := Lib.hid hf; clear hf
     have H := Lib.hid h; clear h
     go_wp2_with fail
     go_ret
     refine ⟨ret_int ?_, rfl⟩
     have hl := H.out.len
     have hf := HF.out
     rw [List.take_of_length_le (by omega)] at hf
     rw [hf]; rfl

theorem contains_any (a : Option Addr) (n c : Nat) (xs : List Int) (x : Int) (w : World) (h : Ints w a n c xs) :
   Calls Tryz.prog 158 #[.slice a n c, .int .i64 x] w fun e w' => e = .returned (.bool (xs.contains x)) ∧ w = w' := by
 have HH := Lib.hid h; clear h
 go_enter Tryz.func158, Tryz.ntmps158
 go_wp2_with fail
 refine (index_any a n c xs x w HH.out).mono ?_
 rintro e w1 ⟨rfl, rfl⟩
 go_wp2_with fail
 go_ret
 refine ⟨ret_bool ?_, rfl⟩
 rw [idxOf_ge, List.findIdx?_isSome, List.contains_eq_any_beq]

/-! ### rises -/
def risesFrom (many : Int) : Int → List Int → Bool
 | _, [] => true
 | last, n :: l => decide (last < n ∧ n < many) && risesFrom many n l

set_option maxHeartbeats 400000 in
theorem rises_any (a : Option Addr) (n c : Nat) (xs : List Int) (many : Int) (w : World) (h : Ints w a n c xs) :
   Calls Tryz.prog 195 #[.slice a n c, .int .i64 many] w fun e w' => e = .returned (.bool (risesFrom many (-1) xs)) ∧ w = w' := by
 have hb := h.big
 go_enter Tryz.func195, Tryz.ntmps195
 go_wp2_with fail
 go_loopg [5, 10] n (fun g' s5 s10 wr => ∃ k : Nat, k + g' = n ∧ s10 = .int .i64 k ∧ wr = w ∧ ∃ last : Int, s5 = .int .i64 last ∧ risesFrom many (-1) xs = risesFrom many last (xs.drop k))
 case atStart => exact ⟨0, by omega, rfl, rfl, -1, rfl, rfl⟩
 case round =>
   obtain ⟨k, hk, rfl, rfl, last, rfl, hr⟩ := hrel
   by_cases hlt : k < n
   · obtain ⟨x, hx, _⟩ := h.get hlt
     obtain ⟨b, o, rfl⟩ := h.addr (by omega)
     have hc := h.cell b o rfl k x hx
     have hd : xs.drop k = x :: xs.drop (k + 1) := by
       have h2 : xs[k]'(by have := h.len; omega) = x := by
         have := (List.getElem?_eq_some_iff.1 hx).2; exact this
       rw [← h2]; exact List.drop_eq_getElem_cons _
     rw [hd] at hr
     have HR := Lib.hid hr; clear hr
     have HD := Lib.hid hd; clear hd
     have H := Lib.hid h; clear h
     have HX := Lib.hid hx; clear hx
     have HK := Lib.hid hk; clear hk
     by_cases h1 : x ≤ last
     · go_wp2_with fail
       go_ret
       exact ⟨ret_bool (by rw [HR.out]; simp [risesFrom]; omega), rfl⟩
     · by_cases h2 : many ≤ x
       · go_wp2_with fail
         go_ret
         exact ⟨ret_bool (by rw [HR.out]; simp [risesFrom]; omega), rfl⟩
       · go_wp2_with fail
         go_roundg (gk - 1)
         case measure => have := HK.out; omega
         case rel => exact ⟨k + 1, by have := HK.out; omega, by go_num, rfl, x, rfl, by rw [HR.out]; simp [risesFrom]; omega⟩
   · obtain rfl : k = n := by omega
     have hd : xs.drop k = [] := List.drop_eq_nil_of_le (by have := h.len; omega)
     rw [hd] at hr
     have HR := Lib.hid hr; clear hr hd
     have H := Lib.hid h; clear h
     go_wp2_with fail
     go_ret
     exact ⟨ret_bool (by rw [HR.out]; rfl), rfl⟩

/-! ### Check -/
def gcheck (g : List (List Int)) (items : Int) : Bool := decide (0 ≤ items) && decide (items ≤ 8) && decide (g.length ≤ 8) && !(g.any fun l => !risesFrom items (-1) l)

theorem notRises_any (a : Option Addr) (n c : Nat) (xs : List Int) (items : Int) (B : Nat) (w : World) (h : Ints w a n c xs) (hB : w.cell? ⟨B, 0, none⟩ = some (.int .i64 items)) :
   Calls Tryz.prog 194 #[.slice a n c, .pointer (some ⟨B, 0, none⟩)] w fun e w' => e = .returned (.bool (!risesFrom items (-1) xs)) ∧ Below w.heap.size w w' := by
 have H := Lib.hid h; clear h
 go_enter Tryz.func194, Tryz.ntmps194
 go_wp2_with fail
 refine (rises_any a n c xs items w H.out).mono ?_
 rintro e w1 ⟨rfl, rfl⟩
 go_wp2_with fail
 go_ret
 exact ⟨rfl, Below.refl _ _⟩

theorem entersRises : Enters 194 := fun args w => by
 simp [callFunc, Tryz.func194]
 kernel_rfl

set_option maxHeartbeats 400000 in
theorem gcheck_any (a : Option Addr) (n c : Nat) (g : List (List Int)) (items : Int) (w : World) (h : Rows w a n c g) :
   Calls Tryz.prog 169 #[.slice a n c, .int .i64 items] w fun e w' => e = .returned (.bool (gcheck g items)) ∧ Below w.heap.size w w' := by
 have hl := h.len
 have hbig := h.big
 have H := Lib.hid h; clear h
 have HL := Lib.hid hl; clear hl
 go_enter Tryz.func169, Tryz.ntmps169
 have hal : Below w.heap.size w (w.alloc (.cells #[.int .i64 items] 3)) := (Below.refl _ _).alloc (Nat.le_refl _) _
 have HAL := Lib.hid hal; clear hal
 by_cases h1 : 0 ≤ items
 · by_cases h2 : items ≤ 8
   · by_cases h3 : n ≤ 8
     · go_wp2_with fail
       refine (containsRows_any a n c g 194 (.pointer (some ⟨w.heap.size, 0, none⟩)) (fun l => !risesFrom items (-1) l) _ (H.out.below HAL.out (Nat.le_refl _)) entersRises ?_).mono ?_
       · intro w' a n c xs hb3 h3
         exact notRises_any a n c xs items w.heap.size w' h3 (by rw [hb3.cell (p := ⟨w.heap.size, 0, none⟩) (by simp)]; simp [go_sem])
       · rintro e w3 ⟨rfl, hb3⟩
         have HB3 := Lib.hid hb3; clear hb3
         go_wp2_with fail
         go_ret
         refine ⟨ret_bool ?_, HAL.out.trans (HB3.out.mono (by simp))⟩
         have e : g.length ≤ 8 := by rw [HL.out]; exact h3
         simp [gcheck, h1, h2, e]
     · have hd : decide (n ≤ 8) = false := by simp; omega
       go_wp2_with fail
       go_ret
       refine ⟨ret_bool ?_, HAL.out⟩
       have e : ¬ g.length ≤ 8 := by rw [HL.out]; exact h3
       simp [gcheck, e]
   · have hd : decide (items ≤ 8) = false := by simp; omega
     go_wp2_with fail
     go_ret
     refine ⟨ret_bool ?_, HAL.out⟩
     simp only [gcheck, hd, Bool.and_false, Bool.false_and]
 · have hd : decide (0 ≤ items) = false := by simp; omega
   go_wp2_with fail
   go_ret
   refine ⟨ret_bool ?_, HAL.out⟩
   simp only [gcheck, hd, Bool.false_and]

/-! ### Many -/
def manyOf (has : List Int) : Int := ((has.filter fun k => k != -1).length : Int)
theorem manyOf_snoc {xs : List Int} {k : Nat} {x : Int} (h : xs[k]? = some x) : manyOf (xs.take (k + 1)) = manyOf (xs.take k) + if x = -1 then 0 else 1 := by
 unfold manyOf
 rw [List.take_add_one, h, List.filter_append]
 by_cases e : x = -1 <;> simp [e]
theorem manyOf_le (xs : List Int) : 0 ≤ manyOf xs ∧ manyOf xs ≤ xs.length := by
 unfold manyOf
 have := List.length_filter_le (fun k : Int => k != -1) xs
 omega

set_option maxHeartbeats 400000 in
theorem many_any (a : Option Addr) (n c : Nat) (xs : List Int) (w : World) (h : Ints w a n c xs) :
   Calls Tryz.prog 227 #[.slice a n c] w fun e w' => e = .returned (.int .i64 (manyOf xs)) ∧ w = w' := by
 have hb := h.big
 go_enter Tryz.func227, Tryz.ntmps227
 go_wp2_with fail
 go_loopg [2, 7] n (fun g' s2 s7 wr => ∃ k : Nat, k + g' = n ∧ s7 = .int .i64 k ∧ wr = w ∧ s2 = .int .i64 (manyOf (xs.take k)))
 case atStart => exact ⟨0, by omega, rfl, rfl, rfl⟩
 case round =>
   obtain ⟨k, hk, rfl, rfl, rfl⟩ := hrel
   by_cases hlt : k < n
   · obtain ⟨x, hx, _⟩ := h.get hlt
     obtain ⟨b, o, rfl⟩ := h.addr (by omega)
     have hc := h.cell b o rfl k x hx
     have hs := manyOf_snoc hx
     have hm := manyOf_le (xs.take k)
     have hml : (xs.take k).length ≤ k := by simp; omega
     obtain ⟨m, hme⟩ : ∃ m, m = manyOf (xs.take k) := ⟨_, rfl⟩
     rw [← hme] at hs hm ⊢
     have HS := Lib.hid hs; clear hs
     have HM := Lib.hid hme; clear hme
     obtain ⟨hm1, hm2⟩ := hm
     have hm3 : m ≤ 4611686018427387904 := by omega
     clear hm2 hml
     have H := Lib.hid h; clear h
     have HX := Lib.hid hx; clear hx
     have HK := Lib.hid hk; clear hk
     by_cases e : x = -1
     · have e1 : (x != -1) = false := by simp [e]
       have E := Lib.hid e; clear e
       go_wp2_with fail
       go_roundg (gk - 1)
       case measure => have := HK.out; omega
       case rel => exact ⟨k + 1, by have := HK.out; omega, by go_num, rfl, by rw [HS.out, if_pos E.out]; simp⟩
     · have e1 : (x != -1) = true := by simp [e]
       have E := Lib.hid e; clear e
       go_wp2_with fail
       go_roundg (gk - 1)
       case measure => have := HK.out; omega
       case rel => exact ⟨k + 1, by have := HK.out; omega, by go_num, rfl, by rw [HS.out, if_neg E.out]⟩
   · obtain rfl : k = n := by omega
     rw [List.take_of_length_le (by have := h.len; omega)]
     have H := Lib.hid h; clear h
     go_wp2_with fail
     go_ret
     exact ⟨rfl, rfl⟩
end Go.Proofs.YtkddkkcfpnndlaaGreatDoor
