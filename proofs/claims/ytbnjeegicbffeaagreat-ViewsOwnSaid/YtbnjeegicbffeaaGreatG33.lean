/- A map from integers to integers that a call has made: as a function. Forests in plain words: the state of the search: ranks as a map reads, how many are left. A block of pairs (a bidder, a rank) that a call has made and writes. -/
import Derived.Test.YtbnjeegicbffeaaGreatG00
import Derived.Test.YtbnjeegicbffeaaGreatRows
import Derived.Test.YtbnjeegicbffeaaGreatG32
import Derived.Test.YtbnjeegicbffeaaGreatG31
import Derived.Test.YtbnjeegicbffeaaGreatG02
import Derived.Maps.Range
import Derived.Maps.RangeWalk
import Derived.Maps.OwnOps
import Derived.Maps.OwnSet
/- A map from integers to integers that a call has made: as a function. -/
namespace Go.Proofs.YtbnjeegicbffeaaGreat
open Go.RowKit Go.Maps

def keyI (x : Int) : Lit := .int .i64 x
def i64In (x : Int) : Prop := -9223372036854775808 ≤ x ∧ x ≤ 9223372036854775807
theorem wfI {x : Int} (h : i64In x) : (Lit.int .i64 x).wf = true := by
  simp only [Lit.wf, Bool.and_eq_true, decide_eq_true_eq, show IntKind.i64.min = -9223372036854775808 by decide, show IntKind.i64.max = 9223372036854775807 by decide]
  exact h
theorem inI {x : Int} (h : (Lit.int .i64 x).wf = true) : i64In x := by
  simp only [Lit.wf, Bool.and_eq_true, decide_eq_true_eq, show IntKind.i64.min = -9223372036854775808 by decide, show IntKind.i64.max = 9223372036854775807 by decide] at h
  exact h
theorem keyedI : Keyed Tryz.prog 3 := int_keyed Tryz.underlying3
theorem keyOfI {x : Int} (h : i64In x) : keyOf Tryz.prog 3 (.int .i64 x) = some (keyI x) := keyOf_int_mk Tryz.underlying3 (wfI h)
theorem zeroI (w : World) : (zeroValue 3).run Tryz.prog w = .ok (.int .i64 0) w := by kernel_rfl

/-- the map reads as f; it has cnt entries -/
def MapI (w : World) (b n : Nat) (f : Int → Option Int) (cnt : Nat) : Prop :=
  ∃ D : DataW Unit, w.ownsMap Tryz.prog 3 (plainElem Tryz.prog 3) b n D ∧ (∀ x, i64In x → has D (keyI x) = (f x).isSome ∧ ∀ c, f x = some c → i64In c ∧ ∀ z, D.atKey (keyI x) z = .lit (.int .i64 c)) ∧ size D = cnt
theorem MapI.new (w : World) : MapI (w.alloc (.map #[] 0)) w.heap.size 0 (fun _ => none) 0 :=
  ⟨.map [], World.ownsMap_made _ _ _ _, fun x _ => ⟨rfl, fun c h => by cases h⟩, rfl⟩
theorem MapI.lt {w : World} {b n : Nat} {f : Int → Option Int} {cnt : Nat} (h : MapI w b n f cnt) : b < w.heap.size := by
  obtain ⟨D, hO, _⟩ := h; exact hO.lt
theorem MapI.kept {w w' : World} {b n : Nat} {f : Int → Option Int} {cnt : Nat} {row : Option Nat} (h : MapI w b n f cnt) (hg : w.grownBy w' row) (hne : some b ≠ row) : MapI w' b n f cnt := by
  obtain ⟨D, hO, r⟩ := h; exact ⟨D, hO.kept hg hne, r⟩
theorem MapI.below {w w' : World} {b n : Nat} {f : Int → Option Int} {cnt : Nat} (h : MapI w b n f cnt) (hb : Below w.heap.size w w') : MapI w' b n f cnt := by
  have hl := h.lt
  obtain ⟨D, ⟨es, clock, he, r⟩, h2⟩ := h
  exact ⟨D, ⟨es, clock, by rw [hb.block b hl]; exact he, r⟩, h2⟩
theorem MapI.setCell {w : World} {b n : Nat} {f : Int → Option Int} {cnt : Nat} (h : MapI w b n f cnt) {a : Addr} (ha : b ≠ a.block) (v : Value) : MapI (w.setCell a v) b n f cnt := by
  obtain ⟨D, hO, r⟩ := h; exact ⟨D, hO.setCell ha v, r⟩

def putI (f : Int → Option Int) (x c : Int) : Int → Option Int := fun y => if y = x then some c else f y
theorem MapI.put_of {b : Nat} {f : Int → Option Int} {cnt n : Nat} {D : DataW Unit} {w w' : World} (hO : w.ownsMap Tryz.prog 3 (plainElem Tryz.prog 3) b n D)
    (hf : ∀ x, i64In x → has D (keyI x) = (f x).isSome ∧ ∀ c, f x = some c → i64In c ∧ ∀ z, D.atKey (keyI x) z = .lit (.int .i64 c)) (hs : size D = cnt) {x c : Int} (hx : i64In x) (hc : i64In c)
    (hO' : w'.ownsMap Tryz.prog 3 (plainElem Tryz.prog 3) b (n + 1) (D.put (keyI x) (.lit (.int .i64 c)))) : MapI w' b (n + 1) (putI f x c) (if (f x).isSome then cnt else cnt + 1) := by
  have hM := hO.isMap
  have hk : WideAt.IsKeyLit (keyI x) := by unfold keyI; trivial
  refine ⟨_, hO', fun y hy => ?_, ?_⟩
  · unfold putI
    by_cases e : y = x
    · subst e
      rw [if_pos rfl]
      exact ⟨has_put_same hM hk _, fun c' h => by cases h; exact ⟨hc, fun z => atKey_put_same hM hk _ z⟩⟩
    · rw [if_neg e]
      have hne : keyI y ≠ keyI x := fun h => e (by unfold keyI at h; cases h; rfl)
      refine ⟨by rw [has_put_other hne]; exact (hf y hy).1, fun c' h => ⟨((hf y hy).2 c' h).1, fun z => by rw [atKey_put_other hne]; exact ((hf y hy).2 c' h).2 z⟩⟩
  · rw [size_put (hO.tidy keyedI), (hf x hx).1, hs]

/-- 'v, ok := m[x]' -/
theorem lookupI {ops : Array Oper} {rest : List Oper} {o : Oper} {a : Act} {Q : Exit → Act → World → Prop} (w : World) (hg : o.guard = none) (m x : Operand) (hop : o.op = Op.lookup 113 m x true) (b n : Nat) (f : Int → Option Int) (cnt : Nat) (y : Int)
    (hm : a.eval m = .map (some b)) (h : MapI w b n f cnt) (hx : a.eval x = .int .i64 y) (hy : i64In y)
    (hK : wpList Tryz.prog ops Q rest (a.put o.dst (.tuple #[.int .i64 ((f y).getD 0), .bool (f y).isSome])) w) : wpList Tryz.prog ops Q (o :: rest) a w := by
  obtain ⟨D, hO, hf, hs⟩ := h
  refine wpList_lookup_own_ok_int w hg m x 113 hop 3 3 .i64 keyedI Tryz.underlying113 Tryz.underlying3 (zeroI w) b n D hm hO _ _ hx (keyOfI hy) fun c hat hwc => ?_
  have h1 := (hf y hy).1
  have h1' : has D (.int .i64 y) = (f y).isSome := h1
  rw [show keyI y = .int .i64 y from rfl]
  rw [h1']
  cases hfy : f y with
  | none =>
    rw [hfy] at h1
    have := atKey_of_not_has (D := D) (k := keyI y) h1 (.lit (.int .i64 0))
    rw [this] at hat
    cases hat
    rw [hfy] at hK
    exact hK
  | some c' =>
    have := ((hf y hy).2 c' hfy).2 (.lit (.int .i64 0))
    rw [this] at hat
    cases hat
    rw [hfy] at hK
    exact hK
/-- 'm[x] = c' -/
theorem updateI {ops : Array Oper} {rest : List Oper} {o : Oper} {a : Act} {Q : Exit → Act → World → Prop} (w : World) (hg : o.guard = none) (m x v : Operand) (hop : o.op = Op.mapUpdate 113 m x v) (b n : Nat) (f : Int → Option Int) (cnt : Nat) (y c : Int)
    (hm : a.eval m = .map (some b)) (h : MapI w b n f cnt) (hn : n < 1000000) (hx : a.eval x = .int .i64 y) (hv : a.eval v = .int .i64 c) (hy : i64In y) (hc : i64In c) (hnew : f y = none)
    (hK : ∀ w', MapI w' b (n + 1) (putI f y c) (cnt + 1) → w.grownBy w' (some b) → wpList Tryz.prog ops Q rest (a.put o.dst undef) w') : wpList Tryz.prog ops Q (o :: rest) a w := by
  obtain ⟨D, hO, hf, hs⟩ := h
  exact wpList_mapUpdate_own w hg m x v 113 hop 3 3 keyedI Tryz.underlying113 (plainElem Tryz.prog 3) b n D hm hO (by unfold maxLen; omega) _ _ (keyI y) hx hv (keyOfI hy) (.lit (.int .i64 c)) [] (plainElem_int Tryz.underlying3 (wfI hc))
    fun w' hO' hgr => hK w' (by have := MapI.put_of hO hf hs hy hc hO'; rw [hnew] at this; exact this) hgr
/-- an entry of a map literal -/
theorem insertI {ops : Array Oper} {rest : List Oper} {o : Oper} {a : Act} {Q : Exit → Act → World → Prop} (w : World) (hg : o.guard = none) (m x v : Operand) (hop : o.op = Op.insert 113 m x v) (b n : Nat) (f : Int → Option Int) (cnt : Nat) (y c : Int)
    (hm : a.eval m = .map (some b)) (h : MapI w b n f cnt) (hn : n < 1000000) (hx : a.eval x = .int .i64 y) (hv : a.eval v = .int .i64 c) (hy : i64In y) (hc : i64In c) (hnew : f y = none)
    (hK : ∀ w', MapI w' b (n + 1) (putI f y c) (cnt + 1) → w.grownBy w' (some b) → wpList Tryz.prog ops Q rest (a.put o.dst undef) w') : wpList Tryz.prog ops Q (o :: rest) a w := by
  obtain ⟨D, hO, hf, hs⟩ := h
  refine wpList_plain hg fun K' hK' => ?_
  obtain ⟨w', hrun, r1, r2⟩ := hO.update keyedI Tryz.underlying113 (by unfold maxLen; omega) (keyOfI hy) (plainElem_int Tryz.underlying3 (wfI hc))
  unfold Oper.wp
  simp [execOp, hop, hm, hx, hv, hrun, Result.andThen]
  exact hK' _ _ (hK w' (by have := MapI.put_of hO hf hs hy hc r1; rw [hnew] at this; exact this) r2)
/-- 'len(m)' -/
theorem lenI {ops : Array Oper} {rest : List Oper} {o : Oper} {a : Act} {Q : Exit → Act → World → Prop} (w : World) (hg : o.guard = none) (m : Operand) (hop : o.op = Op.call { callee := Callee.builtin Builtin.len, args := #[m], argTypes := #[113] }) (b n : Nat) (f : Int → Option Int) (cnt : Nat)
    (hm : a.eval m = .map (some b)) (h : MapI w b n f cnt) (hK : wpList Tryz.prog ops Q rest (a.put o.dst (.int .i64 cnt)) w) : wpList Tryz.prog ops Q (o :: rest) a w := by
  obtain ⟨D, hO, hf, hs⟩ := h
  subst hs
  exact wpList_len_own w hg m 113 hop 3 3 Tryz.underlying113 (plainElem Tryz.prog 3) b n D hm hO hK

/-- a range over the map under way: which keys are still to come -/
def RangeI (w : World) (b r n : Nat) (f : Int → Option Int) (left : Int → Bool) (cnt : Nat) : Prop :=
  ∃ (D : DataW Unit) (L : Lit → Bool), w.ranges Tryz.prog 3 (plainElem Tryz.prog 3) b r n D L cnt ∧ (∀ x, i64In x → has D (keyI x) = (f x).isSome ∧ ∀ c, f x = some c → i64In c ∧ ∀ z, D.atKey (keyI x) z = .lit (.int .i64 c)) ∧ ∀ x, i64In x → left x = L (keyI x)
theorem RangeI.left_eq {w : World} {b r n : Nat} {f : Int → Option Int} {left : Int → Bool} {cnt : Nat} (h : RangeI w b r n f left cnt) : w.rangeLeft b r = cnt := by
  obtain ⟨D, L, h1, _⟩ := h; exact h1.left_eq
theorem RangeI.kept {w w' : World} {b r n : Nat} {f : Int → Option Int} {left : Int → Bool} {cnt : Nat} {row : Option Nat} (h : RangeI w b r n f left cnt) (hg : w.grownBy w' row) (hb : some b ≠ row) (hr : some r ≠ row) : RangeI w' b r n f left cnt := by
  obtain ⟨D, L, h1, h2⟩ := h; exact ⟨D, L, h1.kept hg hb hr, h2⟩
theorem rangeI {ops : Array Oper} {rest : List Oper} {o : Oper} {a : Act} {Q : Exit → Act → World → Prop} (w : World) (hg : o.guard = none) (m : Operand) (hop : o.op = Op.range 113 m) (b n : Nat) (f : Int → Option Int) (cnt : Nat)
    (hm : a.eval m = .map (some b)) (h : MapI w b n f cnt)
    (hK : ∀ w', RangeI w' b w.heap.size n f (fun x => (f x).isSome) cnt → w.grownBy w' none → w'.heap.size = w.heap.size + 1 → wpList Tryz.prog ops Q rest (a.put o.dst (.pointer (some ⟨w.heap.size, 0, none⟩))) w') : wpList Tryz.prog ops Q (o :: rest) a w := by
  obtain ⟨D, hO, hf, hs⟩ := h
  subst hs
  exact wpList_range_own w hg m 113 hop 3 3 keyedI Tryz.underlying113 (plainElem Tryz.prog 3) b n D hm hO fun w' hr hgr hsz => hK w' ⟨D, _, hr, hf, fun x hx => (hf x hx).1.symm⟩ hgr hsz
theorem nextI {ops : Array Oper} {rest : List Oper} {o : Oper} {a : Act} {Q : Exit → Act → World → Prop} (w : World) (hg : o.guard = none) (it : Operand) (hop : o.op = Op.next it false) (b r n : Nat) (f : Int → Option Int) (left : Int → Bool) (cnt : Nat)
    (hit : a.eval it = .pointer (some ⟨r, 0, none⟩)) (h : RangeI w b r n f left cnt)
    (hDone : cnt = 0 → (∀ x, i64In x → left x = false) → wpList Tryz.prog ops Q rest (a.put o.dst (.tuple #[.bool false])) w)
    (hMore : ∀ (x c : Int) (w' : World) (cnt' : Nat), i64In x → i64In c → left x = true → (∀ c', f x = some c' → c' = c) → RangeI w' b r n f (fun z => left z && !decide (z = x)) cnt' → cnt' < cnt → w.grownBy w' (some r) → w'.heap.size = w.heap.size →
      (Instr.entry (.pointer (some ⟨r, 0, none⟩))).run Tryz.prog w' = .ok (.tuple #[.int .i64 x, .int .i64 c]) w' → wpList Tryz.prog ops Q rest (a.put o.dst (.tuple #[.bool true, .int .i64 x, .int .i64 c])) w') : wpList Tryz.prog ops Q (o :: rest) a w := by
  obtain ⟨D, L, hr, hf, hl⟩ := h
  refine wpList_next_ranges_ii w hg it hop 3 3 .i64 .i64 keyedI Tryz.underlying3 Tryz.underlying3 b r n D L cnt hit hr (fun h0 hall => hDone h0 fun x hx => by rw [hl x hx]; exact hall _) fun x c w' cnt' hx hc hlx hat hr' hlt hgr hsz hen => ?_
  refine hMore x c w' cnt' (inI hx) (inI hc) (by rw [hl x (inI hx)]; exact hlx) (fun c' hc' => ?_) ⟨D, _, hr', hf, fun z hz => ?_⟩ hlt hgr hsz hen
  · have h1 := ((hf x (inI hx)).2 c' hc').2 (.lit (.int .i64 0))
    rw [show D.atKey (keyI x) (.lit (.int .i64 0)) = .lit (.int .i64 c) from hat _] at h1
    cases h1; rfl
  · show (left z && !decide (z = x)) = (L (keyI z) && !(keyI z).sameKey (.int .i64 x))
    rw [hl z hz]
    congr 1
    congr 1
    have hk : WideAt.IsKeyLit (keyI x) := by unfold keyI; trivial
    rw [Bool.eq_iff_iff, decide_eq_true_eq]
    rw [show ((keyI z).sameKey (.int .i64 x) = true) ↔ keyI z = keyI x from WideAt.sameKey_iff hk]
    unfold keyI
    constructor
    · rintro rfl; rfl
    · intro h; cases h; rfl
end Go.Proofs.YtbnjeegicbffeaaGreat

/- Forests in plain words: the state of the search: ranks as a map reads, how many are left. -/
namespace Go.Proofs.YtbnjeegicbffeaaGreat
open Go.RowKit Sale Tree

/-- the map of ranks -/
def rkF (s : Sta) (x : Int) : Option Int := if x = -1 then some 0 else if 0 ≤ x then (s x.toNat).map fun p => (p.2 : Int) else none
theorem rkF_item (s : Sta) (j : Nat) : rkF s (j : Int) = (s j).map fun p => (p.2 : Int) := by
  unfold rkF
  rw [if_neg (by omega), if_pos (by omega), Int.toNat_natCast]
theorem rkF_none (s : Sta) : rkF s (-1) = some 0 := rfl
/-- by who has what -/
theorem rkF_now (s : Sta) (o : Outc) (i : Nat) (x : Int) (hx : o.has[i]? = some x) (hge : -1 ≤ x) : rkF s x = (rkOf s (nowOf o i)).map fun r : Nat => (r : Int) := by
  unfold nowOf
  rw [getD_at hx]
  by_cases h : x = -1
  · subst h; rw [if_pos rfl]; rfl
  · rw [if_neg h]
    obtain ⟨j, rfl⟩ := Int.eq_ofNat_of_zero_le (show 0 ≤ x by omega)
    rw [rkF_item, Int.toNat_natCast]
    unfold rkOf
    rw [Option.map_map]; rfl
/-- one more is found -/
def putS (s : Sta) (j : Nat) (p : Int × Nat) : Sta := fun k => if k = j then some p else s k
theorem putS_same (s : Sta) (j : Nat) (p : Int × Nat) : putS s j p j = some p := by simp [putS]
theorem putS_other {s : Sta} {j k : Nat} {p : Int × Nat} (h : k ≠ j) : putS s j p k = s k := by simp [putS, h]
theorem rkF_put (s : Sta) (j : Nat) (p : Int × Nat) : putI (rkF s) (j : Int) (p.2 : Int) = rkF (putS s j p) := by
  funext y
  unfold putI
  by_cases h : y = (j : Int)
  · subst h; rw [if_pos rfl, rkF_item, putS_same]; rfl
  · rw [if_neg h]
    unfold rkF
    by_cases h1 : y = -1
    · rw [if_pos h1, if_pos h1]
    · rw [if_neg h1, if_neg h1]
      by_cases h2 : 0 ≤ y
      · rw [if_pos h2, if_pos h2, putS_other (by omega)]
      · rw [if_neg h2, if_neg h2]
/-- how many have no reason yet -/
def leftN (N : Nat) (s : Sta) : Nat := ((List.range N).filter fun j => (s j).isNone).length
theorem leftN_le (N : Nat) (s : Sta) : leftN N s ≤ N := by
  have := List.length_filter_le (fun j => (s j).isNone) (List.range N)
  simpa [leftN] using this
theorem leftN_zero {N : Nat} {s : Sta} : leftN N s = 0 ↔ ∀ j, j < N → ∃ x, s j = some x := by
  unfold leftN
  rw [List.length_eq_zero_iff, List.filter_eq_nil_iff]
  constructor
  · intro h j hj
    have := h j (List.mem_range.2 hj)
    cases hs : s j with
    | none => rw [hs] at this; exact absurd rfl this
    | some x => exact ⟨x, rfl⟩
  · intro h j hj
    obtain ⟨x, hx⟩ := h j (List.mem_range.1 hj)
    simp [hx]
theorem leftN_succ (N : Nat) (s : Sta) : leftN (N + 1) s = leftN N s + if (s N).isNone then 1 else 0 := by
  unfold leftN
  rw [List.range_succ, List.filter_append, List.length_append]
  cases h : (s N).isNone <;> simp [h]
theorem leftN_congr {N : Nat} {s s' : Sta} (h : ∀ j, j < N → (s j).isNone = (s' j).isNone) : leftN N s = leftN N s' := by
  unfold leftN
  congr 1
  exact List.filter_congr fun j hj => h j (List.mem_range.1 hj)
theorem leftN_put {s : Sta} {j : Nat} {p : Int × Nat} (hn : s j = none) : ∀ {N : Nat}, j < N → leftN N (putS s j p) + 1 = leftN N s
  | 0, h => absurd h (Nat.not_lt_zero _)
  | N + 1, h => by
    rw [leftN_succ, leftN_succ]
    by_cases e : j = N
    · subst e
      rw [putS_same, hn]
      rw [leftN_congr (s' := s) fun k hk => by rw [putS_other (by omega)]]
      simp
    · have := leftN_put (p := p) hn (show j < N by omega)
      rw [putS_other (fun h => e h.symm)]
      omega
/-- the reasons as they lie there -/
theorem outL_put {n : Nat} {s : Sta} {j : Nat} (p : Int × Nat) : (outL n s).set j (p.1, (p.2 : Int)) = outL n (putS s j p) := by
  apply List.ext_getElem?
  intro k
  by_cases hk : k < n
  · rw [List.getElem?_set, outL_get hk, outL_get hk]
    by_cases e : j = k
    · subst e; rw [if_pos rfl, outL_length, if_pos hk, putS_same]
    · rw [if_neg e, putS_other (fun h => e h.symm)]
  · rw [List.getElem?_eq_none (by rw [List.length_set, outL_length]; omega), List.getElem?_eq_none (by rw [outL_length]; omega)]

/-- the first round: who costs its reserve, of the first k -/
def s0 (W : Wood) (k : Nat) : Sta := fun j => if j < k then lv W 0 j else none
theorem s0_zero (W : Wood) : s0 W 0 = fun _ => none := by funext j; simp [s0]
theorem s0_yes {W : Wood} {k : Nat} (h : W.res k = true) : s0 W (k + 1) = putS (s0 W k) k (-1, 0) := by
  funext j
  show (if j < k + 1 then lv W 0 j else none) = if j = k then some (-1, 0) else if j < k then lv W 0 j else none
  by_cases e : j = k
  · subst e; rw [if_pos (by omega), if_pos rfl]; simp [lv, h]
  · rw [if_neg e]
    by_cases h1 : j < k
    · rw [if_pos h1, if_pos (by omega)]
    · rw [if_neg h1, if_neg (by omega)]
theorem s0_no {W : Wood} {k : Nat} (h : W.res k = false) : s0 W (k + 1) = s0 W k := by
  funext j
  unfold s0
  by_cases e : j = k
  · subst e; rw [if_pos (by omega), if_neg (by omega)]; simp [lv, h]
  · by_cases h1 : j < k
    · rw [if_pos h1, if_pos (by omega)]
    · rw [if_neg h1, if_neg (by omega)]
theorem s0_at (W : Wood) (k : Nat) : s0 W k k = none := by simp [s0]
theorem leftN_s0 {W : Wood} {N : Nat} : leftN N (s0 W N) = leftN N (lv W 0) := leftN_congr fun j hj => by simp [s0, hj]
theorem leftN_none (N : Nat) : leftN N (fun _ => none) = N := by
  show ((List.range N).filter fun _ => true).length = N
  rw [List.filter_eq_self.2 (fun _ _ => rfl), List.length_range]
/-- the items that are there -/
def clipS (N : Nat) (s : Sta) : Sta := fun j => if j < N then s j else none
theorem s0_clip (W : Wood) (N : Nat) : s0 W N = clipS N (lv W 0) := rfl
/-- as it is made: the first k have the mark -/
def l0 (n k : Nat) : List (Int × Int) := (List.range n).map fun j => if j < k then (-1, 0) else (0, 0)
theorem l0_length (n k : Nat) : (l0 n k).length = n := by simp [l0]
theorem l0_zero (n : Nat) : l0 n 0 = List.replicate n (0, 0) := by
  apply List.ext_getElem?
  intro j
  by_cases hj : j < n <;> simp [l0, hj]
theorem l0_get {n k j : Nat} (hj : j < n) : (l0 n k)[j]? = some (if j < k then (-1, 0) else (0, 0)) := by simp [l0, hj]
theorem l0_set {n k : Nat} : (l0 n k).set k (-1, 0) = l0 n (k + 1) := by
  apply List.ext_getElem?
  intro j
  by_cases hj : j < n
  · rw [List.getElem?_set, l0_get hj, l0_get hj, l0_length]
    by_cases e : k = j
    · subst e; rw [if_pos rfl, if_pos hj, if_pos (by omega)]
    · rw [if_neg e]
      by_cases h1 : j < k
      · rw [if_pos h1, if_pos (by omega)]
      · rw [if_neg h1, if_neg (by omega)]
  · rw [List.getElem?_eq_none (by rw [List.length_set, l0_length]; omega), List.getElem?_eq_none (by rw [l0_length]; omega)]
theorem l0_all (W : Wood) (n : Nat) : l0 n n = outL n (lv W 0) := by
  apply List.ext_getElem?
  intro j
  by_cases hj : j < n
  · rw [l0_get hj, outL_get hj, if_pos hj]
    simp only [lv]
    split
    · rename_i p h
      split at h
      · cases h; rfl
      · cases h
    · rfl
  · rw [List.getElem?_eq_none (by rw [l0_length]; omega), List.getElem?_eq_none (by rw [outL_length]; omega)]
end Go.Proofs.YtbnjeegicbffeaaGreat

/- A block of pairs (a bidder, a rank) that a call has made and writes. -/
namespace Go.Proofs.YtbnjeegicbffeaaGreat
open Go.RowKit

def pairVals : List (Int × Int) → List Value
  | [] => []
  | p :: l => .int .i64 p.1 :: .int .i64 p.2 :: pairVals l
theorem pairVals_get : ∀ {l : List (Int × Int)} {k : Nat} {p : Int × Int}, l[k]? = some p → (pairVals l)[k * 2]? = some (.int .i64 p.1) ∧ (pairVals l)[k * 2 + 1]? = some (.int .i64 p.2)
  | [], k, p, h => by simp at h
  | q :: l, 0, p, h => by simp at h; subst h; exact ⟨rfl, rfl⟩
  | q :: l, k + 1, p, h => by
    have := pairVals_get (l := l) (k := k) (p := p) (by simpa using h)
    rw [show (k + 1) * 2 = k * 2 + 1 + 1 by omega]
    exact this
theorem pairVals_set1 : ∀ {l : List (Int × Int)} {k : Nat} {p : Int × Int} (x : Int), l[k]? = some p → (pairVals l).set (k * 2) (.int .i64 x) = pairVals (l.set k (x, p.2))
  | [], k, p, x, h => by simp at h
  | q :: l, 0, p, x, h => by simp at h; subst h; rfl
  | q :: l, k + 1, p, x, h => by
    have := pairVals_set1 (l := l) (k := k) (p := p) x (by simpa using h)
    rw [show (k + 1) * 2 = k * 2 + 1 + 1 by omega]
    simp only [pairVals, List.set_cons_succ]
    rw [this]
theorem pairVals_set2 : ∀ {l : List (Int × Int)} {k : Nat} {p : Int × Int} (y : Int), l[k]? = some p → (pairVals l).set (k * 2 + 1) (.int .i64 y) = pairVals (l.set k (p.1, y))
  | [], k, p, x, h => by simp at h
  | q :: l, 0, p, x, h => by simp at h; subst h; rfl
  | q :: l, k + 1, p, x, h => by
    have := pairVals_set2 (l := l) (k := k) (p := p) x (by simpa using h)
    rw [show (k + 1) * 2 + 1 = k * 2 + 1 + 1 + 1 by omega]
    simp only [pairVals, List.set_cons_succ]
    rw [this]
theorem pairVals_zeros : ∀ n : Nat, pairVals (List.replicate n (0, 0)) = List.replicate (n * 2) (Value.int .i64 0)
  | 0 => rfl
  | n + 1 => by
    rw [List.replicate_succ, show (n + 1) * 2 = n * 2 + 1 + 1 by omega, List.replicate_succ, List.replicate_succ]
    show _ :: _ :: pairVals (List.replicate n (0, 0)) = _
    rw [pairVals_zeros n]

def WRow (w : World) (B : Nat) (l : List (Int × Int)) : Prop := VRow w B 75 (pairVals l)
theorem WRow.cell {w : World} {B : Nat} {l : List (Int × Int)} (h : WRow w B l) {k : Nat} {p : Int × Int} (hp : l[k]? = some p) : w.cell? ⟨B, k * 2, none⟩ = some (.int .i64 p.1) ∧ w.cell? ⟨B, k * 2 + 1, none⟩ = some (.int .i64 p.2) :=
  ⟨VRow.cell h (pairVals_get hp).1, VRow.cell h (pairVals_get hp).2⟩
theorem WRow.set1 {w : World} {B : Nat} {l : List (Int × Int)} (h : WRow w B l) {k : Nat} {p : Int × Int} (hp : l[k]? = some p) (x : Int) : WRow (w.setCell ⟨B, k * 2, none⟩ (.int .i64 x)) B (l.set k (x, p.2)) := by
  unfold WRow; rw [← pairVals_set1 x hp]; exact VRow.set h _ _
theorem WRow.set2 {w : World} {B : Nat} {l : List (Int × Int)} (h : WRow w B l) {k : Nat} {p : Int × Int} (hp : l[k]? = some p) (y : Int) : WRow (w.setCell ⟨B, k * 2 + 1, none⟩ (.int .i64 y)) B (l.set k (p.1, y)) := by
  unfold WRow; rw [← pairVals_set2 y hp]; exact VRow.set h _ _
theorem WRow.step {w w' : World} {B : Nat} {l : List (Int × Int)} (h : WRow w B l) (hb : Below w.heap.size w w') : WRow w' B l := VRow.stp h hb
theorem WRow.grown {w w' : World} {B : Nat} {l : List (Int × Int)} {row : Option Nat} (h : WRow w B l) (hg : w.grownBy w' row) (hne : row ≠ some B) : WRow w' B l := by
  unfold WRow VRow; rw [hg.block B (VRow.lt h) (fun e => hne e.symm)]; exact h
theorem WRow.whys {w : World} {B : Nat} {l : List (Int × Int)} (h : WRow w B l) (hbig : l.length ≤ 4611686018427387904) (hbd : ∀ p, p ∈ l → (-9223372036854775808 ≤ p.1 ∧ p.1 ≤ 9223372036854775807) ∧ -9223372036854775808 ≤ p.2 ∧ p.2 ≤ 9223372036854775807) : Whys w (some ⟨B, 0, none⟩) l.length l.length l :=
  ⟨rfl, Nat.le_refl _, hbig, fun _ => ⟨_, _, rfl⟩, fun b o e k p hp => by
    cases e
    have := h.cell hp
    rw [Nat.zero_add]
    exact this, hbd⟩

theorem infoWhy : (Tryz.prog.info? 75).map (fun i => (i.zero, i.size, i.bytes)) = some (some (.agg #[.int .i64 0, .int .i64 0]), 2, 16) := by kernel_rfl
theorem made2 (n : Nat) : (madeCells #[Value.int .i64 0, .int .i64 0] n).toList = List.replicate n (.int .i64 0) := by
  apply List.ext_getElem?
  intro j
  by_cases hj : j < n
  · rcases (by omega : j % 2 = 0 ∨ j % 2 = 1) with e | e <;> simp [madeCells, hj, e]
  · simp [madeCells, hj]
/-- 'make([]api.Why, n)' -/
theorem mkWhys (c : Nat) (hc : c ≤ 1000000) (w : World) : (Instr.makeSlice 71 (.int .i64 (c : Int)) (.int .i64 (c : Int))).run Tryz.prog w = .ok (.slice (some ⟨w.heap.size, 0, none⟩) c c) (w.alloc (.cells (pairVals (List.replicate c (0, 0))).toArray 75)) := by
  obtain ⟨i0, hi, hz0, hz1, hz2⟩ := info_parts infoWhy
  have h := run_make (P := Tryz.prog) w 71 75 i0 _ Tryz.underlying71 hi hz0 .i64 .i64 c c (by omega) (by omega) (by rw [hz2]; omega) (by omega)
  rw [hz1] at h
  have e : madeCells (Value.agg #[.int .i64 0, .int .i64 0]).cells (c * 2) = (pairVals (List.replicate c (0, 0))).toArray := by
    rw [pairVals_zeros]
    apply Array.ext'
    exact made2 _
  rw [Int.toNat_natCast, e] at h
  exact h
end Go.Proofs.YtbnjeegicbffeaaGreat
