/- Walks: package graphs: rises, Check, Fits, Many; slices.Index, Contains at ints. A block of lists that the call has made and writes. Walks: graphs.Fits; slices.Clone, Clip at ints. Walks: slices.Clone, Clip at ints; paths.begin: what a search holds in memory. Walks: paths.begin: what a search holds in memory. Walks: salesroomlaw01.TwinInts, TwinIntLists: twins in new memory, which may be written. Walks: salesroomlaw01.TwinIntLists. -/
import Derived.Test.YtkddkkcfpnndlaaGreatDoorPq03
import Derived.Test.YtkddkkcfpnndlaaGreatDoorPq07
import Derived.Test.YtkddkkcfpnndlaaGreatDoorPq05
namespace Go.Proofs.YtkddkkcfpnndlaaGreatDoor
open Go.RowKit

/-! ### slices.Index, Contains -/
set_option maxHeartbeats 400000 in
theorem index_any (a : Option Addr) (n c : Nat) (xs : List Int) (x : Int) (w : World) (h : Ints w a n c xs) :
    Calls Tryz.prog 184 #[.slice a n c, .int .i64 x] w fun e w' => e = .returned (.int .i64 (idxOf (xs.findIdx? fun y => x == y))) ∧ w = w' := by
  have hb := h.big
  go_enter Tryz.func184, Tryz.ntmps184
  go_wp2_with fail
  go_loopg [8] n (fun g' s8 wr => ∃ k : Nat, k + g' = n ∧ s8 = .int .i64 k ∧ wr = w ∧ (xs.take k).findIdx? (fun y => x == y) = none)
  case atStart => exact ⟨0, by omega, rfl, rfl, rfl⟩
  case round =>
    obtain ⟨k, hk, rfl, rfl, hf⟩ := hrel
    by_cases hlt : k < n
    · obtain ⟨y, hx, _⟩ := h.get hlt
      obtain ⟨b, o, rfl⟩ := h.addr (by omega)
      have hc := h.cell b o rfl k y hx
      have H := Lib.hid h; clear h
      have HF := Lib.hid hf; clear hf
      have HX := Lib.hid hx; clear hx
      have HK := Lib.hid hk; clear hk
      cases hpx : (x == y) with
      | true =>
        go_wp2_with fail
        go_ret
        refine ⟨ret_int ?_, rfl⟩
        rw [findIdx_at (p := fun y => x == y) HX.out HF.out hpx]; rfl
      | false =>
        go_wp2_with fail
        go_roundg (gk - 1)
        case measure => have := HK.out; omega
        case rel => exact ⟨k + 1, by have := HK.out; omega, by go_num, rfl, findIdx_on (p := fun y => x == y) HX.out HF.out hpx⟩
    · obtain rfl : k = n := by omega
      have HF := Lib.hid hf; clear hf
      have H := Lib.hid h; clear h
      go_wp2_with fail
      go_ret
      refine ⟨ret_int ?_, rfl⟩
      have hl := H.out.len
      have hf := HF.out
      rw [List.take_of_length_le (by omega)] at hf
      rw [hf]; rfl

theorem contains_any (a : Option Addr) (n c : Nat) (xs : List Int) (x : Int) (w : World) (h : Ints w a n c xs) :
    Calls Tryz.prog 158 #[.slice a n c, .int .i64 x] w fun e w' => e = .returned (.bool (xs.contains x)) ∧ w = w' := by
  have HH := Lib.hid h; clear h
  go_enter Tryz.func158, Tryz.ntmps158
  go_wp2_with fail
  refine (index_any a n c xs x w HH.out).mono ?_
  rintro e w1 ⟨rfl, rfl⟩
  go_wp2_with fail
  go_ret
  refine ⟨ret_bool ?_, rfl⟩
  rw [idxOf_ge, List.findIdx?_isSome, List.contains_eq_any_beq]

/-! ### rises -/
/-- does a list rise from above some number on, below another? -/
def risesFrom (many : Int) : Int → List Int → Bool
  | _, [] => true
  | last, n :: l => decide (last < n ∧ n < many) && risesFrom many n l

/-! ### Check -/
/-- may that be who may have which items, of so many? -/
def gcheck (g : List (List Int)) (items : Int) : Bool := decide (0 ≤ items) && decide (items ≤ 8) && decide (g.length ≤ 8) && !(g.any fun l => !risesFrom items (-1) l)

/-! ### Many -/
end Go.Proofs.YtkddkkcfpnndlaaGreatDoor

namespace Go.Proofs.YtkddkkcfpnndlaaGreatDoor
open Go.RowKit

def VRow (w : World) (B : Nat) (T : TypeId) (vals : List Value) : Prop := w.heap[B]? = some (.cells vals.toArray T (0, 0))
theorem VRow.cell {w : World} {B : Nat} {T : TypeId} {vals : List Value} (h : VRow w B T vals) {k : Nat} {v : Value} (hx : vals[k]? = some v) : w.cell? ⟨B, k, none⟩ = some v := by
  rw [cell_of_row w B k _ T _ h]; simpa using hx
theorem VRow.frozen {w : World} {B : Nat} {T : TypeId} {vals : List Value} (h : VRow w B T vals) (k : Nat) : w.frozen? ⟨B, k, none⟩ = false := frozen_of_row w B k _ T h
theorem VRow.lt {w : World} {B : Nat} {T : TypeId} {vals : List Value} (h : VRow w B T vals) : B < w.heap.size := by
  rcases Nat.lt_or_ge B w.heap.size with h1 | h1
  · exact h1
  · unfold VRow at h; rw [Array.getElem?_eq_none h1] at h; cases h
theorem VRow.set {w : World} {B : Nat} {T : TypeId} {vals : List Value} (h : VRow w B T vals) (k : Nat) (v : Value) : VRow (w.setCell ⟨B, k, none⟩ v) B T (vals.set k v) := by
  unfold VRow; rw [heap_setCell_same w B k _ T _ h]; simp
theorem VRow.alloc {w : World} {B : Nat} {T : TypeId} {vals : List Value} (h : VRow w B T vals) (o : Obj) : VRow (w.alloc o) B T vals := by
  unfold VRow; rw [Below.heap_alloc w o B h.lt]; exact h
theorem VRow.below {w w' : World} {B B' : Nat} {T : TypeId} {vals : List Value} (h : VRow w B T vals) (hb : Below B' w w') (hB : B < B') : VRow w' B T vals := by
  unfold VRow; rw [hb.block B hB]; exact h
theorem VRow.new (w : World) (T : TypeId) (vals : List Value) : VRow (w.alloc (.cells vals.toArray T)) w.heap.size T vals := heap_alloc_new w _
theorem VRow.drew {w : World} {B : Nat} {T : TypeId} {vals : List Value} (h : VRow w B T vals) : VRow w.drew B T vals := h

/-- 'make([][]int, n)' -/
theorem mkRows (c : Nat) (hc : c ≤ 1000000) (w : World) : (Instr.makeSlice 22 (.int .i64 (c : Int)) (.int .i64 (c : Int))).run Tryz.prog w = .ok (.slice (some ⟨w.heap.size, 0, none⟩) c c) (w.alloc (.cells (List.replicate c (Value.slice none 0 0)).toArray 25)) := by
  obtain ⟨i0, hi, hz0, hz1, hz2⟩ := info_parts infoInts
  have h := run_make (P := Tryz.prog) w 22 25 i0 _ Tryz.underlying22 hi hz0 .i64 .i64 c c (by omega) (by omega) (by rw [hz2]; omega) (by omega)
  rw [hz1] at h
  have e : madeCells (Value.slice none 0 0).cells (c * 1) = (List.replicate c (Value.slice none 0 0)).toArray := by
    apply Array.ext'
    rw [show (Value.slice none 0 0).cells = #[.slice none 0 0] from rfl, toList_madeCells_one]
    simp
  rw [Int.toNat_natCast, e] at h
  exact h

theorem VRow.rows {w : World} {B : Nat} {T : TypeId} {vals : List Value} {xss : List (List Int)} (h : VRow w B T vals) (hbig : xss.length ≤ 4611686018427387904)
    (hv : ∀ (i : Nat) (xs : List Int), xss[i]? = some xs → ∃ (a : Option Addr) (n c : Nat), vals[i]? = some (Value.slice a n c) ∧ Ints w a n c xs) : Rows w (some ⟨B, 0, none⟩) xss.length xss.length xss :=
  ⟨rfl, Nat.le_refl _, hbig, fun _ => ⟨_, _, rfl⟩, fun b o e k xs hx => by
    cases e
    obtain ⟨a, n, c, e1, e2⟩ := hv k xs hx
    exact ⟨a, n, c, by rw [Nat.zero_add]; exact h.cell e1, e2⟩⟩

theorem Own.drew {w : World} {base : Nat} {v : Value} {xs : List Int} (h : Own w base v xs) : Own w.drew base v xs := h
theorem Own.other {w : World} {base : Nat} {v : Value} {xs : List Int} (h : Own w base v xs) {a : Addr} (ha : a.block < base) (u : Value) : Own (w.setCell a u) base v xs := by
  obtain ⟨h1, h2⟩ := h
  refine ⟨h1, ?_⟩
  rcases h2 with h2 | ⟨g, cap, cur, hv, hg, hh, r⟩
  · exact .inl h2
  · exact .inr ⟨g, cap, cur, hv, hg, by rw [heap_setCell_other w a g u (by omega)]; exact hh, r⟩
end Go.Proofs.YtkddkkcfpnndlaaGreatDoor

namespace Go.Proofs.YtkddkkcfpnndlaaGreatDoor
open Go.RowKit

/-! ### Fits -/
/-- bidder i's item is none, or one that it may have, and that none ahead of it has -/
def okFit (g : List (List Int)) (has : List Int) (i : Nat) (h : Int) : Bool := decide (h = -1) || ((g[i]?.getD []).contains h && !(has.take i).contains h)
def fitTo (g : List (List Int)) (has : List Int) (k : Nat) : Bool := (List.range k).all fun i => okFit g has i ((has[i]?).getD (-1))
def fitsB (g : List (List Int)) (items : Int) (has : List Int) : Bool := gcheck g items && decide (has.length = g.length) && fitTo g has has.length

theorem risesFrom_bd {many : Int} : ∀ {l : List Int} {last : Int}, risesFrom many last l = true → ∀ x, x ∈ l → last < x ∧ x < many
  | [], _, _, _, hx => absurd hx List.not_mem_nil
  | n :: l, last, h, x, hx => by
    simp only [risesFrom, Bool.and_eq_true, decide_eq_true_eq] at h
    rcases List.mem_cons.1 hx with rfl | hx
    · exact h.1
    · have := risesFrom_bd h.2 x hx
      omega
theorem gcheck_parts {g : List (List Int)} {items : Int} (h : gcheck g items = true) : 0 ≤ items ∧ items ≤ 8 ∧ g.length ≤ 8 ∧ ∀ l, l ∈ g → risesFrom items (-1) l = true := by
  simp only [gcheck, Bool.and_eq_true, decide_eq_true_eq, Bool.not_eq_true', List.any_eq_false] at h
  obtain ⟨⟨⟨h1, h2⟩, h3⟩, h4⟩ := h
  exact ⟨h1, h2, h3, fun l hl => by have := h4 l hl; simpa using this⟩

end Go.Proofs.YtkddkkcfpnndlaaGreatDoor

namespace Go.Proofs.YtkddkkcfpnndlaaGreatDoor
open Go.RowKit

/-- 'append(s, l...)' at ints, whatever l is -/
theorem appAny {ops : Array Oper} {rest : List Oper} {o : Oper} {a : Act} {Q : Exit → Act → World → Prop} (w : World) (hgd : o.guard = none) (s x : Operand)
    (ho : o.op = .call { callee := .builtin .append, args := #[s, x], argTypes := #[25, 25] })
    (base : Nat) (v : Value) (xs : List Int) (hs : a.eval s = v) (hown : Own w base v xs) (la : Option Addr) (m c : Nat) (ys : List Int) (hx : a.eval x = .slice la m c) (hy : Ints w la m c ys)
    (hlen : xs.length + m < 17592186044000) (hbase : base ≤ w.heap.size)
    (h : ∀ v' w', Own w' base v' (xs ++ ys) → w.grownBy w' v.ownBlock → Below base w w' → (v'.ownBlock = v.ownBlock ∨ v'.ownBlock = some w.heap.size) → wpList Tryz.prog ops Q rest (a.put o.dst v') w') : wpList Tryz.prog ops Q (o :: rest) a w := by
  by_cases hpos : 0 < m
  · exact appMany w hgd s x ho base v xs hs hown la m c ys hx hy hpos hlen hbase h
  · obtain rfl : m = 0 := by omega
    have hys : ys = [] := List.eq_nil_of_length_eq_zero hy.len
    subst hys
    obtain ⟨i0, hi, hz0, hz1, hz2⟩ := info_parts infoInt
    cases la with
    | none =>
      obtain ⟨_, rfl⟩ := hy.nil rfl
      refine app0 w hgd s x ho base v xs hs hown hx ?_
      exact h v w (by simpa using hown) (World.grownBy.refl _ _) (Below.refl _ _) (.inl rfl)
    | some ad =>
      refine wpList_append_own_at w hgd s x _ ho base 3 i0 _ 1 8 Tryz.underlying25 hi hz0 hz1 hz2 rfl (by decide) v xs.length _ hs hown ad 0 c [] hx rfl ?_ ?_ ?_ ?_ hbase ?_
      · intro j u hu; simp at hu
      · intro u hu; cases hu
      · unfold maxLen; omega
      · omega
      · intro v' w' hown' hg _ hat
        refine h v' w' ?_ hg ((Below.refl base w).grown hg hbase fun k hk => (World.ownsRow.lt hown k hk).1) hat
        unfold Own
        simpa using hown'

set_option maxHeartbeats 400000 in
theorem clone_any (a : Option Addr) (n c : Nat) (xs : List Int) (w : World) (h : Ints w a n c xs) (hsz : n < 17592186044000) :
    Calls Tryz.prog 111 #[.slice a n c] w fun e w' => ∃ v, e = .returned v ∧ Own w' w.heap.size v xs ∧ Below w.heap.size w w' := by
  have HI := Lib.hid h; clear h
  cases a with
  | none =>
    obtain ⟨rfl, rfl⟩ := HI.out.nil rfl
    have hxs : xs = [] := List.eq_nil_of_length_eq_zero HI.out.len
    subst hxs
    have hq := fun w : World => Lib.run_eql_slice_nil (P := Tryz.prog) w 25 3 none 0 0 0 0 Tryz.underlying25
    go_enter Tryz.func111, Tryz.ntmps111
    go_wp2_with fail
    go_ret
    exact ⟨_, rfl, Own.nil _ _, Below.refl _ _⟩
  | some ad =>
    have hq := fun w : World => Lib.run_eql_slice_nil (P := Tryz.prog) w 25 3 (some ad) n c 0 0 Tryz.underlying25
    have ho : Own (w.alloc (.cells #[] 3)) w.heap.size (.slice (some ⟨w.heap.size, 0, none⟩) 0 0) [] :=
      ⟨rfl, .inr ⟨w.heap.size, 0, #[], rfl, Nat.le_refl _, heap_alloc_new w _, Nat.le_refl _, Nat.zero_le _, rfl, rfl⟩⟩
    have HO := Lib.hid ho; clear ho
    have hb : Below w.heap.size w (w.alloc (.cells #[] 3)) := (Below.refl _ _).alloc (Nat.le_refl _) _
    have HB := Lib.hid hb; clear hb
    go_enter Tryz.func111, Tryz.ntmps111
    go_wp2_with (at_builtin; refine appAny _ rfl _ _ rfl w.heap.size _ [] rfl HO.out (some ad) n c xs rfl (HI.out.below HB.out (Nat.le_refl _)) (by simpa using hsz) (by simp) ?_; intro v' w' hown' _ hb' _)
    have HO2 := Lib.hid hown'; clear hown'
    have HB2 := Lib.hid hb'; clear hb'
    go_wp2_with fail
    go_ret
    exact ⟨_, rfl, by simpa using HO2.out, HB.out.trans HB2.out⟩

theorem clip_any (a : Option Addr) (n c : Nat) (w : World) (hc : n ≤ c) :
    Calls Tryz.prog 98 #[.slice a n c] w fun e w' => e = .returned (.slice a n n) ∧ w = w' := by
  go_enter Tryz.func98, Tryz.ntmps98
  go_wp2_with fail
  go_ret
  exact ⟨rfl, rfl⟩
end Go.Proofs.YtkddkkcfpnndlaaGreatDoor

namespace Go.Proofs.YtkddkkcfpnndlaaGreatDoor
open Go.RowKit

/-- numbers of no sign as the code has them -/
def nats (l : List Nat) : List Int := l.map fun k : Nat => (k : Int)

/-- a list in the call's own block, which may be written -/
structure MyRow (w : World) (base : Nat) (a : Option Addr) (n c : Nat) (xs : List Int) : Prop where
  len : xs.length = n
  cap : n ≤ c
  nil : a = none → n = 0 ∧ c = 0
  own : 0 < n → ∃ g cur, a = some ⟨g, 0, none⟩ ∧ base ≤ g ∧ w.heap[g]? = some (.cells cur 3 (0, 0)) ∧ n ≤ cur.size ∧ cur.toList.take n = xs.map (Value.int .i64)

theorem Own.myRow {w : World} {base : Nat} {v : Value} {xs : List Int} (h : Own w base v xs) : ∃ a c, v = .slice a xs.length c ∧ MyRow w base a xs.length c xs ∧ c ≤ maxLen := by
  obtain ⟨h1, h2⟩ := h
  rcases h2 with ⟨hv, hn⟩ | ⟨g, cap, cur, hv, hg, hh, hc, hm, hs, ht⟩
  · exact ⟨none, 0, by rw [hv, hn], ⟨rfl, by omega, fun _ => ⟨hn, rfl⟩, fun h => by omega⟩, Nat.zero_le _⟩
  · exact ⟨some ⟨g, 0, none⟩, cap, hv, ⟨rfl, hc, (fun e => by cases e), fun _ => ⟨g, cur, rfl, hg, hh, by omega, by simpa using ht⟩⟩, hm⟩

theorem MyRow.lt {w : World} {base : Nat} {a : Option Addr} {n c : Nat} {xs : List Int} (h : MyRow w base a n c xs) (hn : 0 < n) : ∃ g, a = some ⟨g, 0, none⟩ ∧ base ≤ g ∧ g < w.heap.size := by
  obtain ⟨g, cur, e, hg, hh, _⟩ := h.own hn
  refine ⟨g, e, hg, ?_⟩
  rcases Nat.lt_or_ge g w.heap.size with h | h
  · exact h
  · rw [Array.getElem?_eq_none h] at hh; cases hh

theorem MyRow.below {w w' : World} {base B : Nat} {a : Option Addr} {n c : Nat} {xs : List Int} (h : MyRow w base a n c xs) (hb : Below B w w') (hB : w.heap.size ≤ B) : MyRow w' base a n c xs :=
  ⟨h.len, h.cap, h.nil, fun hn => by
    obtain ⟨g, cur, e, hg, hh, r⟩ := h.own hn
    obtain ⟨g', e', _, hlt⟩ := h.lt hn
    rw [e] at e'; cases e'
    exact ⟨g, cur, e, hg, by rw [hb.block g (by omega)]; exact hh, r⟩⟩

theorem MyRow.ints {w : World} {base : Nat} {a : Option Addr} {n c : Nat} {xs : List Int} (h : MyRow w base a n c xs) (hbig : n ≤ 4611686018427387904) (hbd : ∀ x, x ∈ xs → -9223372036854775808 ≤ x ∧ x ≤ 9223372036854775807) : Ints w a n c xs :=
  ⟨h.len, h.cap, hbig, fun hn => by obtain ⟨g, _, e, _⟩ := h.own hn; exact ⟨g, 0, e⟩, fun b o e k x hx => by
    have hk : k < n := by have := (List.getElem?_eq_some_iff.1 hx).1; have := h.len; omega
    obtain ⟨g, cur, e', hg, hh, hs, ht⟩ := h.own (by omega)
    rw [e] at e'; cases e'
    rw [Nat.zero_add, cell_of_row w b _ cur _ _ hh]
    have h3 : (cur.toList.take n)[k]? = some (.int .i64 x) := by rw [ht]; simp [hx]
    rw [List.getElem?_take_of_lt hk] at h3
    simpa using h3, hbd, h.nil⟩

/-- .. is written -/
theorem MyRow.set {w : World} {base g : Nat} {n c : Nat} {xs : List Int} (h : MyRow w base (some ⟨g, 0, none⟩) n c xs) (k : Nat) (v : Int) :
    MyRow (w.setCell ⟨g, k, none⟩ (.int .i64 v)) base (some ⟨g, 0, none⟩) n c (xs.set k v) := by
  refine ⟨by rw [List.length_set]; exact h.len, h.cap, (fun e => by cases e), fun hn => ?_⟩
  obtain ⟨g', cur, e, hg, hh, hs, ht⟩ := h.own hn
  cases e
  refine ⟨g, cur.setIfInBounds k (.int .i64 v), rfl, hg, by rw [heap_setCell_same w g k cur _ _ hh], by simpa using hs, ?_⟩
  rw [Array.toList_setIfInBounds, List.map_set, ← ht, List.take_set]

theorem MyRow.other {w : World} {base : Nat} {a : Option Addr} {n c : Nat} {xs : List Int} (h : MyRow w base a n c xs) {p : Addr} (hp : 0 < n → ∀ b o, a = some ⟨b, o, none⟩ → b ≠ p.block) (u : Value) : MyRow (w.setCell p u) base a n c xs :=
  ⟨h.len, h.cap, h.nil, fun hn => by
    obtain ⟨g, cur, e, hg, hh, r⟩ := h.own hn
    exact ⟨g, cur, e, hg, by rw [heap_setCell_other w p g u (hp hn g 0 e)]; exact hh, r⟩⟩
theorem MyRow.frozen {w : World} {base g : Nat} {n c : Nat} {xs : List Int} (h : MyRow w base (some ⟨g, 0, none⟩) n c xs) (hn : 0 < n) (k : Nat) : w.frozen? ⟨g, k, none⟩ = false := by
  obtain ⟨g', cur, e, hg, hh, r⟩ := h.own hn
  cases e
  exact frozen_of_row w g k cur _ hh
end Go.Proofs.YtkddkkcfpnndlaaGreatDoor

namespace Go.Proofs.YtkddkkcfpnndlaaGreatDoor
open Go.RowKit

/-- block B begins with these -/
def Tab (w : World) (B : Nat) (T : TypeId) (vals : List Value) : Prop := ∃ cur, w.heap[B]? = some (.cells cur T (0, 0)) ∧ vals.length ≤ cur.size ∧ cur.toList.take vals.length = vals

theorem Tab.cell {w : World} {B : Nat} {T : TypeId} {vals : List Value} (h : Tab w B T vals) {k : Nat} {v : Value} (hx : vals[k]? = some v) : w.cell? ⟨B, k, none⟩ = some v := by
  obtain ⟨cur, h1, h2, h3⟩ := h
  have hk : k < vals.length := (List.getElem?_eq_some_iff.1 hx).1
  rw [cell_of_row w B k cur T _ h1]
  have h4 : (cur.toList.take vals.length)[k]? = some v := by rw [h3]; exact hx
  rw [List.getElem?_take_of_lt hk] at h4
  simpa using h4
theorem Tab.frozen {w : World} {B : Nat} {T : TypeId} {vals : List Value} (h : Tab w B T vals) (k : Nat) : w.frozen? ⟨B, k, none⟩ = false := by
  obtain ⟨cur, h1, _⟩ := h
  exact frozen_of_row w B k cur T h1
theorem Tab.lt {w : World} {B : Nat} {T : TypeId} {vals : List Value} (h : Tab w B T vals) : B < w.heap.size := by
  obtain ⟨cur, h1, _⟩ := h
  rcases Nat.lt_or_ge B w.heap.size with h2 | h2
  · exact h2
  · rw [Array.getElem?_eq_none h2] at h1; cases h1
theorem Tab.set {w : World} {B : Nat} {T : TypeId} {vals : List Value} (h : Tab w B T vals) (k : Nat) (v : Value) : Tab (w.setCell ⟨B, k, none⟩ v) B T (vals.set k v) := by
  obtain ⟨cur, h1, h2, h3⟩ := h
  refine ⟨cur.setIfInBounds k v, by rw [heap_setCell_same w B k cur T _ h1], by simpa using h2, ?_⟩
  rw [Array.toList_setIfInBounds, List.length_set]
  conv => rhs; rw [← h3]
  rw [List.take_set]
theorem Tab.other {w : World} {B : Nat} {T : TypeId} {vals : List Value} (h : Tab w B T vals) {a : Addr} (ha : B ≠ a.block) (v : Value) : Tab (w.setCell a v) B T vals := by
  obtain ⟨cur, h1, h2⟩ := h
  exact ⟨cur, by rw [heap_setCell_other w a B v ha]; exact h1, h2⟩
theorem Tab.below {w w' : World} {B B' : Nat} {T : TypeId} {vals : List Value} (h : Tab w B T vals) (hb : Below B' w w') (hB : B < B') : Tab w' B T vals := by
  obtain ⟨cur, h1, h2⟩ := h
  exact ⟨cur, by rw [hb.block B hB]; exact h1, h2⟩
theorem Tab.drew {w : World} {B : Nat} {T : TypeId} {vals : List Value} (h : Tab w B T vals) : Tab w.drew B T vals := h
theorem Tab.grown {w w' : World} {B : Nat} {T : TypeId} {vals : List Value} {row : Option Nat} (h : Tab w B T vals) (hg : w.grownBy w' row) (hne : row ≠ some B) : Tab w' B T vals := by
  have hlt := h.lt
  obtain ⟨cur, h1, h2⟩ := h
  exact ⟨cur, by rw [hg.block B hlt (fun e => hne e.symm)]; exact h1, h2⟩

/-- ints in block B -/
def TabI (w : World) (B : Nat) (xs : List Int) : Prop := Tab w B 3 (xs.map (Value.int .i64))
theorem TabI.ints {w : World} {B c : Nat} {xs : List Int} (h : TabI w B xs) (hc : xs.length ≤ c) (hbig : xs.length ≤ 4611686018427387904) (hbd : ∀ x, x ∈ xs → -9223372036854775808 ≤ x ∧ x ≤ 9223372036854775807) : Ints w (some ⟨B, 0, none⟩) xs.length c xs :=
  ⟨rfl, hc, hbig, fun _ => ⟨_, _, rfl⟩, fun b o e k x hx => by cases e; rw [Nat.zero_add]; exact Tab.cell h (by simp [hx]), hbd, fun e => by cases e⟩
theorem TabI.set {w : World} {B : Nat} {xs : List Int} (h : TabI w B xs) (k : Nat) (v : Int) : TabI (w.setCell ⟨B, k, none⟩ (.int .i64 v)) B (xs.set k v) := by
  unfold TabI; rw [List.map_set]; exact Tab.set h k _

theorem Own.tab {w : World} {base g n c : Nat} {xs : List Int} (h : Own w base (.slice (some ⟨g, 0, none⟩) n c) xs) : TabI w g xs ∧ base ≤ g := by
  obtain ⟨h1, h2⟩ := h
  rcases h2 with ⟨e, _⟩ | ⟨g', cap, cur, e, hg, hh, hc, hm, hs, ht⟩
  · cases e
  · cases e
    refine ⟨⟨cur, hh, by rw [List.length_map]; omega, ?_⟩, hg⟩
    rw [List.length_map]; simpa using ht
theorem Tab.head {w : World} {B : Nat} {T : TypeId} {vals more : List Value} (h : Tab w B T (vals ++ more)) : Tab w B T vals := by
  obtain ⟨cur, h1, h2, h3⟩ := h
  rw [List.length_append] at h2 h3
  refine ⟨cur, h1, by omega, ?_⟩
  have := congrArg (List.take vals.length) h3
  rw [List.take_take, Nat.min_eq_left (by omega), List.take_left] at this
  exact this

/-- 'make([]int, 0, n)' -/
theorem mkIntsCap (c : Nat) (hc : c ≤ 1000000) (w : World) : (Instr.makeSlice 25 (.int .i64 0) (.int .i64 (c : Int))).run Tryz.prog w = .ok (.slice (some ⟨w.heap.size, 0, none⟩) 0 c) (w.alloc (.cells (iarr (List.replicate c 0)) 3)) := by
  obtain ⟨i0, hi, hz0, hz1, hz2⟩ := info_parts infoInt
  have h := run_make (P := Tryz.prog) w 25 3 i0 _ Tryz.underlying25 hi hz0 .i64 .i64 0 c (by omega) (by omega) (by rw [hz2]; omega) (by omega)
  rw [hz1] at h
  have e : madeCells (Value.int .i64 0).cells (c * 1) = iarr (List.replicate c 0) := by
    apply Array.ext'
    rw [show (Value.int .i64 0).cells = #[.int .i64 0] from rfl, toList_madeCells_one]
    simp [iarr]
  rw [Int.toNat_natCast, e] at h
  exact h

end Go.Proofs.YtkddkkcfpnndlaaGreatDoor

namespace Go.Proofs.YtkddkkcfpnndlaaGreatDoor
open Go.RowKit

/-- 'append(s, x)' at lists of ints, as values -/
theorem appV1 {ops : Array Oper} {rest : List Oper} {o : Oper} {a : Act} {Q : Exit → Act → World → Prop} (w : World) (hgd : o.guard = none) (s x : Operand)
    (ho : o.op = .call { callee := .builtin .append, args := #[s, x], argTypes := #[22, 22] })
    (base : Nat) (v : Value) (n : Nat) (vals : List Value) (hs : a.eval s = v) (hown : w.ownsRow base 25 1 v n vals) (b off c : Nat) (la : Option Addr) (ln lc : Nat) (hx : a.eval x = .slice (some ⟨b, off, none⟩) 1 c)
    (hc : w.cell? ⟨b, off, none⟩ = some (.slice la ln lc)) (hlen : n < 1000000000000) (hbase : base ≤ w.heap.size)
    (h : ∀ g cap w', w'.ownsRow base 25 1 (.slice (some ⟨g, 0, none⟩) (n + 1) cap) (n + 1) (vals ++ [.slice la ln lc]) → w.grownBy w' v.ownBlock → Below base w w' → (v.ownBlock = some g ∨ g = w.heap.size) → wpList Tryz.prog ops Q rest (a.put o.dst (.slice (some ⟨g, 0, none⟩) (n + 1) cap)) w') : wpList Tryz.prog ops Q (o :: rest) a w := by
  obtain ⟨i0, hi, hz0, hz1, hz2⟩ := info_parts infoInts
  refine wpList_append_own_at w hgd s x _ ho base 25 i0 _ 1 24 Tryz.underlying22 hi hz0 hz1 hz2 rfl (by decide) v n _ hs hown ⟨b, off, none⟩ 1 c [.slice la ln lc] hx rfl ?_ ?_ ?_ ?_ hbase ?_
  · intro j u hu
    cases j with
    | zero => simp at hu; subst hu; simpa [Addr.add] using hc
    | succ j => simp at hu
  · intro u hu; simp at hu; subst hu; rfl
  · unfold maxLen; omega
  · omega
  · intro v' w' hown' hg hnil hat
    have hne : v' ≠ .slice none 0 0 := fun e => by have := (hnil.1 e).2; omega
    rcases hown'.2 with ⟨e, _⟩ | ⟨g, cap, cur, hv, r⟩
    · exact absurd e hne
    · subst hv
      refine h g cap w' hown' hg ((Below.refl base w).grown hg hbase fun k hk => (World.ownsRow.lt hown k hk).1) ?_
      rcases hat with e | e
      · exact .inl e.symm
      · exact .inr (Option.some.inj e)

/-- 'make([][]int, 0, n)' -/
theorem mkRowsCap (c : Nat) (hc : c ≤ 1000000) (w : World) : (Instr.makeSlice 22 (.int .i64 0) (.int .i64 (c : Int))).run Tryz.prog w = .ok (.slice (some ⟨w.heap.size, 0, none⟩) 0 c) (w.alloc (.cells (List.replicate c (Value.slice none 0 0)).toArray 25)) := by
  obtain ⟨i0, hi, hz0, hz1, hz2⟩ := info_parts infoInts
  have h := run_make (P := Tryz.prog) w 22 25 i0 _ Tryz.underlying22 hi hz0 .i64 .i64 0 c (by omega) (by omega) (by rw [hz2]; omega) (by omega)
  rw [hz1] at h
  have e : madeCells (Value.slice none 0 0).cells (c * 1) = (List.replicate c (Value.slice none 0 0)).toArray := by
    apply Array.ext'
    rw [show (Value.slice none 0 0).cells = #[.slice none 0 0] from rfl, toList_madeCells_one]
    simp
  rw [Int.toNat_natCast, e] at h
  exact h

theorem owns_tab {w : World} {base g n c : Nat} {vals : List Value} (h : w.ownsRow base 25 1 (.slice (some ⟨g, 0, none⟩) n c) n vals) : Tab w g 25 vals ∧ base ≤ g ∧ vals.length = n ∧ n ≤ c ∧ c ≤ maxLen := by
  obtain ⟨h1, h2⟩ := h
  rcases h2 with ⟨e, _⟩ | ⟨g', cap, cur, e, hg, hh, hc, hm, hs, ht⟩
  · cases e
  · obtain ⟨e1, _, e3⟩ := Value.slice.inj e
    cases e1
    subst e3
    exact ⟨⟨cur, hh, by omega, by rw [h1]; simpa using ht⟩, hg, by omega, hc, hm⟩

/-- twins of lists: their blocks are gs, each one's own -/
structure TwinsOf (w : World) (base B : Nat) (vals : List Value) (gs : List Nat) (xss : List (List Int)) : Prop where
  len : gs.length = xss.length
  nodup : gs.Nodup
  at' : ∀ g, g ∈ gs → base ≤ g ∧ g ≠ B ∧ g < w.heap.size
  row : ∀ (i : Nat) (xs : List Int) (g : Nat), xss[i]? = some xs → gs[i]? = some g → ∃ c, vals[i]? = some (Value.slice (some ⟨g, 0, none⟩) xs.length c) ∧ xs.length ≤ c ∧ TabI w g xs

theorem TwinsOf.below {w w' : World} {base B B' : Nat} {vals : List Value} {gs : List Nat} {xss : List (List Int)} (h : TwinsOf w base B vals gs xss) (hb : Below B' w w') (hB : w.heap.size ≤ B') : TwinsOf w' base B vals gs xss :=
  ⟨h.len, h.nodup, fun g hg => by have := h.at' g hg; have := hb.size; omega, fun i xs g h1 h2 => by
    obtain ⟨c, e1, e2, e3⟩ := h.row i xs g h1 h2
    exact ⟨c, e1, e2, Tab.below e3 hb (by have := (h.at' g (List.mem_of_getElem? h2)).2.2; omega)⟩⟩

/-- one more row, behind an append -/
theorem TwinsOf.snoc {w w' : World} {base B B' : Nat} {vals : List Value} {gs : List Nat} {xss : List (List Int)} (h : TwinsOf w base B vals gs xss) (hvl : vals.length = xss.length) {v : Value} (hv : v.ownBlock = some B) (hg : w.grownBy w' v.ownBlock) (hB' : B = B' ∨ B' = w.heap.size)
    {g c : Nat} {xs : List Int} (hgb : base ≤ g) (hne : g ≠ B) (hlt : g < w.heap.size) (hnew : g ∉ gs) (hc : xs.length ≤ c) (ht : TabI w g xs) : TwinsOf w' base B' (vals ++ [.slice (some ⟨g, 0, none⟩) xs.length c]) (gs ++ [g]) (xss ++ [xs]) := by
  have hbB : ∀ x, x ≠ B → x < w.heap.size → x ≠ B' := fun x h1 h2 => by rcases hB' with e | e <;> omega
  have hsz := hg.size
  refine ⟨by simp [h.len], ?_, fun x hx => ?_, fun i ys g' h1 h2 => ?_⟩
  · rw [List.nodup_append]
    exact ⟨h.nodup, by simp, fun a ha b hb e => by simp at hb; subst hb; exact hnew (e ▸ ha)⟩
  · rcases List.mem_append.1 hx with hx | hx
    · obtain ⟨a1, a2, a3⟩ := h.at' x hx
      exact ⟨a1, hbB x a2 a3, by omega⟩
    · simp at hx; subst hx
      exact ⟨hgb, hbB x hne hlt, by omega⟩
  · by_cases hi : i < xss.length
    · rw [List.getElem?_append_left hi] at h1
      rw [List.getElem?_append_left (by rw [h.len]; exact hi)] at h2
      obtain ⟨c', e1, e2, e3⟩ := h.row i ys g' h1 h2
      obtain ⟨a1, a2, a3⟩ := h.at' g' (List.mem_of_getElem? h2)
      exact ⟨c', by rw [List.getElem?_append_left (by omega)]; exact e1, e2, Tab.grown e3 hg (by rw [hv]; intro e; exact a2 (Option.some.inj e).symm)⟩
    · have hil : i = xss.length := by have := (List.getElem?_eq_some_iff.1 h1).1; simp at this; omega
      subst hil
      rw [List.getElem?_append_right (Nat.le_refl _)] at h1
      rw [List.getElem?_append_right (by rw [h.len]; exact Nat.le_refl _), h.len] at h2
      simp at h1 h2
      subst h1; subst h2
      exact ⟨c, by rw [List.getElem?_append_right (by omega), hvl]; simp, hc, Tab.grown ht hg (by rw [hv]; intro e; exact hne (Option.some.inj e).symm)⟩

end Go.Proofs.YtkddkkcfpnndlaaGreatDoor
