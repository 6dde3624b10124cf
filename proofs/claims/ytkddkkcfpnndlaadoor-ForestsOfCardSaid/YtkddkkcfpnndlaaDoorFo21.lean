/- A map from integers to integers that a call has made: as a function. -/
import Derived.Test.YtkddkkcfpnndlaaDoorFo00
import Derived.Test.YtkddkkcfpnndlaaDoorRows
import Derived.Maps.Range
import Derived.Maps.RangeWalk
import Derived.Maps.OwnOps
import Derived.Maps.OwnSet
namespace Go.Proofs.YtkddkkcfpnndlaaDoor
open Go.RowKit Go.Maps

def keyI (x : Int) : Lit := .int .i64 x
def i64In (x : Int) : Prop := -9223372036854775808 ≤ x ∧ x ≤ 9223372036854775807
theorem wfI {x : Int} (h : i64In x) : (Lit.int .i64 x).wf = true := by
  simp only [Lit.wf, Bool.and_eq_true, decide_eq_true_eq, show IntKind.i64.min = -9223372036854775808 by decide, show IntKind.i64.max = 9223372036854775807 by decide]
  exact h
theorem inI {x : Int} (h : (Lit.int .i64 x).wf = true) : i64In x := by
  simp only [Lit.wf, Bool.and_eq_true, decide_eq_true_eq, show IntKind.i64.min = -9223372036854775808 by decide, show IntKind.i64.max = 9223372036854775807 by decide] at h
  exact h
theorem keyedI : Keyed Tryd.prog 3 := int_keyed Tryd.underlying3
theorem keyOfI {x : Int} (h : i64In x) : keyOf Tryd.prog 3 (.int .i64 x) = some (keyI x) := keyOf_int_mk Tryd.underlying3 (wfI h)
theorem zeroI (w : World) : (zeroValue 3).run Tryd.prog w = .ok (.int .i64 0) w := by kernel_rfl

/-- the map reads as f; it has cnt entries -/
def MapI (w : World) (b n : Nat) (f : Int → Option Int) (cnt : Nat) : Prop :=
  ∃ D : DataW Unit, w.ownsMap Tryd.prog 3 (plainElem Tryd.prog 3) b n D ∧ (∀ x, i64In x → has D (keyI x) = (f x).isSome ∧ ∀ c, f x = some c → i64In c ∧ ∀ z, D.atKey (keyI x) z = .lit (.int .i64 c)) ∧ size D = cnt
theorem MapI.new (w : World) : MapI (w.alloc (.map #[] 0)) w.heap.size 0 (fun _ => none) 0 :=
  ⟨.map [], World.ownsMap_made _ _ _ _, fun x _ => ⟨rfl, fun c h => by cases h⟩, rfl⟩
theorem MapI.lt {w : World} {b n : Nat} {f : Int → Option Int} {cnt : Nat} (h : MapI w b n f cnt) : b < w.heap.size := by
  obtain ⟨D, hO, _⟩ := h; exact hO.lt
theorem MapI.kept {w w' : World} {b n : Nat} {f : Int → Option Int} {cnt : Nat} {row : Option Nat} (h : MapI w b n f cnt) (hg : w.grownBy w' row) (hne : some b ≠ row) : MapI w' b n f cnt := by
  obtain ⟨D, hO, r⟩ := h; exact ⟨D, hO.kept hg hne, r⟩
theorem MapI.below {w w' : World} {b n : Nat} {f : Int → Option Int} {cnt : Nat} (h : MapI w b n f cnt) (hb : Below w.heap.size w w') : MapI w' b n f cnt := by
  have hl := h.lt
  obtain ⟨D, ⟨es, clock, he, r⟩, h2⟩ := h
  exact ⟨D, ⟨es, clock, by rw [hb.block b hl]; exact he, r⟩, h2⟩
theorem MapI.setCell {w : World} {b n : Nat} {f : Int → Option Int} {cnt : Nat} (h : MapI w b n f cnt) {a : Addr} (ha : b ≠ a.block) (v : Value) : MapI (w.setCell a v) b n f cnt := by
  obtain ⟨D, hO, r⟩ := h; exact ⟨D, hO.setCell ha v, r⟩

def putI (f : Int → Option Int) (x c : Int) : Int → Option Int := fun y => if y = x then some c else f y
theorem MapI.put_of {b : Nat} {f : Int → Option Int} {cnt n : Nat} {D : DataW Unit} {w w' : World} (hO : w.ownsMap Tryd.prog 3 (plainElem Tryd.prog 3) b n D)
    (hf : ∀ x, i64In x → has D (keyI x) = (f x).isSome ∧ ∀ c, f x = some c → i64In c ∧ ∀ z, D.atKey (keyI x) z = .lit (.int .i64 c)) (hs : size D = cnt) {x c : Int} (hx : i64In x) (hc : i64In c)
    (hO' : w'.ownsMap Tryd.prog 3 (plainElem Tryd.prog 3) b (n + 1) (D.put (keyI x) (.lit (.int .i64 c)))) : MapI w' b (n + 1) (putI f x c) (if (f x).isSome then cnt else cnt + 1) := by
  have hM := hO.isMap
  have hk : WideAt.IsKeyLit (keyI x) := by unfold keyI; trivial
  refine ⟨_, hO', fun y hy => ?_, ?_⟩
  · unfold putI
    by_cases e : y = x
    · subst e
      rw [if_pos rfl]
      exact ⟨has_put_same hM hk _, fun c' h => by cases h; exact ⟨hc, fun z => atKey_put_same hM hk _ z⟩⟩
    · rw [if_neg e]
      have hne : keyI y ≠ keyI x := fun h => e (by unfold keyI at h; cases h; rfl)
      refine ⟨by rw [has_put_other hne]; exact (hf y hy).1, fun c' h => ⟨((hf y hy).2 c' h).1, fun z => by rw [atKey_put_other hne]; exact ((hf y hy).2 c' h).2 z⟩⟩
  · rw [size_put (hO.tidy keyedI), (hf x hx).1, hs]

/-- 'v, ok := m[x]' -/
theorem lookupI {ops : Array Oper} {rest : List Oper} {o : Oper} {a : Act} {Q : Exit → Act → World → Prop} (w : World) (hg : o.guard = none) (m x : Operand) (hop : o.op = Op.lookup 60 m x true) (b n : Nat) (f : Int → Option Int) (cnt : Nat) (y : Int)
    (hm : a.eval m = .map (some b)) (h : MapI w b n f cnt) (hx : a.eval x = .int .i64 y) (hy : i64In y)
    (hK : wpList Tryd.prog ops Q rest (a.put o.dst (.tuple #[.int .i64 ((f y).getD 0), .bool (f y).isSome])) w) : wpList Tryd.prog ops Q (o :: rest) a w := by
  obtain ⟨D, hO, hf, hs⟩ := h
  refine wpList_lookup_own_ok_int w hg m x 60 hop 3 3 .i64 keyedI Tryd.underlying60 Tryd.underlying3 (zeroI w) b n D hm hO _ _ hx (keyOfI hy) fun c hat hwc => ?_
  have h1 := (hf y hy).1
  have h1' : has D (.int .i64 y) = (f y).isSome := h1
  rw [show keyI y = .int .i64 y from rfl]
  rw [h1']
  cases hfy : f y with
  | none =>
    rw [hfy] at h1
    have := atKey_of_not_has (D := D) (k := keyI y) h1 (.lit (.int .i64 0))
    rw [this] at hat
    cases hat
    rw [hfy] at hK
    exact hK
  | some c' =>
    have := ((hf y hy).2 c' hfy).2 (.lit (.int .i64 0))
    rw [this] at hat
    cases hat
    rw [hfy] at hK
    exact hK
/-- 'm[x] = c' -/
theorem updateI {ops : Array Oper} {rest : List Oper} {o : Oper} {a : Act} {Q : Exit → Act → World → Prop} (w : World) (hg : o.guard = none) (m x v : Operand) (hop : o.op = Op.mapUpdate 60 m x v) (b n : Nat) (f : Int → Option Int) (cnt : Nat) (y c : Int)
    (hm : a.eval m = .map (some b)) (h : MapI w b n f cnt) (hn : n < 1000000) (hx : a.eval x = .int .i64 y) (hv : a.eval v = .int .i64 c) (hy : i64In y) (hc : i64In c) (hnew : f y = none)
    (hK : ∀ w', MapI w' b (n + 1) (putI f y c) (cnt + 1) → w.grownBy w' (some b) → wpList Tryd.prog ops Q rest (a.put o.dst undef) w') : wpList Tryd.prog ops Q (o :: rest) a w := by
  obtain ⟨D, hO, hf, hs⟩ := h
  exact wpList_mapUpdate_own w hg m x v 60 hop 3 3 keyedI Tryd.underlying60 (plainElem Tryd.prog 3) b n D hm hO (by unfold maxLen; omega) _ _ (keyI y) hx hv (keyOfI hy) (.lit (.int .i64 c)) [] (plainElem_int Tryd.underlying3 (wfI hc))
    fun w' hO' hgr => hK w' (by have := MapI.put_of hO hf hs hy hc hO'; rw [hnew] at this; exact this) hgr
/-- an entry of a map literal -/
theorem insertI {ops : Array Oper} {rest : List Oper} {o : Oper} {a : Act} {Q : Exit → Act → World → Prop} (w : World) (hg : o.guard = none) (m x v : Operand) (hop : o.op = Op.insert 60 m x v) (b n : Nat) (f : Int → Option Int) (cnt : Nat) (y c : Int)
    (hm : a.eval m = .map (some b)) (h : MapI w b n f cnt) (hn : n < 1000000) (hx : a.eval x = .int .i64 y) (hv : a.eval v = .int .i64 c) (hy : i64In y) (hc : i64In c) (hnew : f y = none)
    (hK : ∀ w', MapI w' b (n + 1) (putI f y c) (cnt + 1) → w.grownBy w' (some b) → wpList Tryd.prog ops Q rest (a.put o.dst undef) w') : wpList Tryd.prog ops Q (o :: rest) a w := by
  obtain ⟨D, hO, hf, hs⟩ := h
  refine wpList_plain hg fun K' hK' => ?_
  obtain ⟨w', hrun, r1, r2⟩ := hO.update keyedI Tryd.underlying60 (by unfold maxLen; omega) (keyOfI hy) (plainElem_int Tryd.underlying3 (wfI hc))
  unfold Oper.wp
  simp [execOp, hop, hm, hx, hv, hrun, Result.andThen]
  exact hK' _ _ (hK w' (by have := MapI.put_of hO hf hs hy hc r1; rw [hnew] at this; exact this) r2)
/-- a range over the map under way: which keys are still to come -/
def RangeI (w : World) (b r n : Nat) (f : Int → Option Int) (left : Int → Bool) (cnt : Nat) : Prop :=
  ∃ (D : DataW Unit) (L : Lit → Bool), w.ranges Tryd.prog 3 (plainElem Tryd.prog 3) b r n D L cnt ∧ (∀ x, i64In x → has D (keyI x) = (f x).isSome ∧ ∀ c, f x = some c → i64In c ∧ ∀ z, D.atKey (keyI x) z = .lit (.int .i64 c)) ∧ ∀ x, i64In x → left x = L (keyI x)
theorem RangeI.kept {w w' : World} {b r n : Nat} {f : Int → Option Int} {left : Int → Bool} {cnt : Nat} {row : Option Nat} (h : RangeI w b r n f left cnt) (hg : w.grownBy w' row) (hb : some b ≠ row) (hr : some r ≠ row) : RangeI w' b r n f left cnt := by
  obtain ⟨D, L, h1, h2⟩ := h; exact ⟨D, L, h1.kept hg hb hr, h2⟩
theorem rangeI {ops : Array Oper} {rest : List Oper} {o : Oper} {a : Act} {Q : Exit → Act → World → Prop} (w : World) (hg : o.guard = none) (m : Operand) (hop : o.op = Op.range 60 m) (b n : Nat) (f : Int → Option Int) (cnt : Nat)
    (hm : a.eval m = .map (some b)) (h : MapI w b n f cnt)
    (hK : ∀ w', RangeI w' b w.heap.size n f (fun x => (f x).isSome) cnt → w.grownBy w' none → w'.heap.size = w.heap.size + 1 → wpList Tryd.prog ops Q rest (a.put o.dst (.pointer (some ⟨w.heap.size, 0, none⟩))) w') : wpList Tryd.prog ops Q (o :: rest) a w := by
  obtain ⟨D, hO, hf, hs⟩ := h
  subst hs
  exact wpList_range_own w hg m 60 hop 3 3 keyedI Tryd.underlying60 (plainElem Tryd.prog 3) b n D hm hO fun w' hr hgr hsz => hK w' ⟨D, _, hr, hf, fun x hx => (hf x hx).1.symm⟩ hgr hsz
theorem nextI {ops : Array Oper} {rest : List Oper} {o : Oper} {a : Act} {Q : Exit → Act → World → Prop} (w : World) (hg : o.guard = none) (it : Operand) (hop : o.op = Op.next it false) (b r n : Nat) (f : Int → Option Int) (left : Int → Bool) (cnt : Nat)
    (hit : a.eval it = .pointer (some ⟨r, 0, none⟩)) (h : RangeI w b r n f left cnt)
    (hDone : cnt = 0 → (∀ x, i64In x → left x = false) → wpList Tryd.prog ops Q rest (a.put o.dst (.tuple #[.bool false])) w)
    (hMore : ∀ (x c : Int) (w' : World) (cnt' : Nat), i64In x → i64In c → left x = true → (∀ c', f x = some c' → c' = c) → RangeI w' b r n f (fun z => left z && !decide (z = x)) cnt' → cnt' < cnt → w.grownBy w' (some r) → w'.heap.size = w.heap.size →
      (Instr.entry (.pointer (some ⟨r, 0, none⟩))).run Tryd.prog w' = .ok (.tuple #[.int .i64 x, .int .i64 c]) w' → wpList Tryd.prog ops Q rest (a.put o.dst (.tuple #[.bool true, .int .i64 x, .int .i64 c])) w') : wpList Tryd.prog ops Q (o :: rest) a w := by
  obtain ⟨D, L, hr, hf, hl⟩ := h
  refine wpList_next_ranges_ii w hg it hop 3 3 .i64 .i64 keyedI Tryd.underlying3 Tryd.underlying3 b r n D L cnt hit hr (fun h0 hall => hDone h0 fun x hx => by rw [hl x hx]; exact hall _) fun x c w' cnt' hx hc hlx hat hr' hlt hgr hsz hen => ?_
  refine hMore x c w' cnt' (inI hx) (inI hc) (by rw [hl x (inI hx)]; exact hlx) (fun c' hc' => ?_) ⟨D, _, hr', hf, fun z hz => ?_⟩ hlt hgr hsz hen
  · have h1 := ((hf x (inI hx)).2 c' hc').2 (.lit (.int .i64 0))
    rw [show D.atKey (keyI x) (.lit (.int .i64 0)) = .lit (.int .i64 c) from hat _] at h1
    cases h1; rfl
  · show (left z && !decide (z = x)) = (L (keyI z) && !(keyI z).sameKey (.int .i64 x))
    rw [hl z hz]
    congr 1
    congr 1
    have hk : WideAt.IsKeyLit (keyI x) := by unfold keyI; trivial
    rw [Bool.eq_iff_iff, decide_eq_true_eq]
    rw [show ((keyI z).sameKey (.int .i64 x) = true) ↔ keyI z = keyI x from WideAt.sameKey_iff hk]
    unfold keyI
    constructor
    · rintro rfl; rfl
    · intro h; cases h; rfl
end Go.Proofs.YtkddkkcfpnndlaaDoor
