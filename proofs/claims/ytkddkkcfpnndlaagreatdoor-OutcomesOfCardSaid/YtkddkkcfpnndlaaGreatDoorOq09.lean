/- Slices of a call's own, of integers and of lists of integers: what an append leaves, and where. A block of lists that the call has made and writes. A list of lists that a call makes, list by list. Walks: markets.Gains. -/
import Derived.Test.YtkddkkcfpnndlaaGreatDoorOq03
import Derived.Test.YtkddkkcfpnndlaaGreatDoorOq08
import Derived.Maps.AppendAt
import Derived.Deep.RegionHeld
import Derived.BigRegion
namespace Go.Proofs.YtkddkkcfpnndlaaGreatDoor
open Go.RowKit

theorem infoInts : (Tryz.prog.info? 25).map (fun i => (i.zero, i.size, i.bytes)) = some (some (.slice none 0 0), 1, 24) := by kernel_rfl

theorem Ints.kept {w w' : World} {a : Option Addr} {n c : Nat} {xs : List Int} {row : Option Nat} (h : Ints w a n c xs) (hg : w.grownBy w' row) (hne : 0 < n → ∀ b o, a = some ⟨b, o, none⟩ → row ≠ some b) : Ints w' a n c xs :=
 ⟨h.len, h.cap, h.big, h.addr, fun b o e k x hx => hg.cell (h.cell b o e k x hx) (fun e' => hne (by have := (List.getElem?_eq_some_iff.1 hx).1; have := h.len; omega) b o e e'.symm), h.bd, h.nil⟩

theorem Ints.lt {w : World} {a : Option Addr} {n c : Nat} {xs : List Int} (h : Ints w a n c xs) (hn : 0 < n) {b o : Nat} (e : a = some ⟨b, o, none⟩) : b < w.heap.size := by
 obtain ⟨z, hz, _⟩ := h.get hn
 exact block_lt_of_cell (h.cell b o e 0 z hz)

theorem appMany {ops : Array Oper} {rest : List Oper} {o : Oper} {a : Act} {Q : Exit → Act → World → Prop} (w : World) (hgd : o.guard = none) (s x : Operand)
   (ho : o.op = .call { callee := .builtin .append, args := #[s, x], argTypes := #[25, 25] })
   (base : Nat) (v : Value) (xs : List Int) (hs : a.eval s = v) (hown : Own w base v xs) (la : Option Addr) (m c : Nat) (ys : List Int) (hx : a.eval x = .slice la m c) (hy : Ints w la m c ys) (hpos : 0 < m)
   (hlen : xs.length + m < 17592186044000) (hbase : base ≤ w.heap.size)
   (h : ∀ v' w', Own w' base v' (xs ++ ys) → w.grownBy w' v.ownBlock → Below base w w' → (v'.ownBlock = v.ownBlock ∨ v'.ownBlock = some w.heap.size) → wpList Tryz.prog ops Q rest (a.put o.dst v') w') : wpList Tryz.prog ops Q (o :: rest) a w := by
 obtain ⟨i0, hi, hz0, hz1, hz2⟩ := info_parts infoInt
 obtain ⟨b, off, rfl⟩ := hy.addr hpos
 have hl := hy.len
 refine wpList_append_own_at w hgd s x _ ho base 3 i0 _ 1 8 Tryz.underlying25 hi hz0 hz1 hz2 rfl (by decide) v xs.length _ hs hown ⟨b, off, none⟩ m c (ys.map (Value.int .i64)) hx (by simp [hl]) ?_ ?_ ?_ ?_ hbase ?_
 · intro j u hu
   rw [List.getElem?_map] at hu
   cases hyj : ys[j]? with
   | none => rw [hyj] at hu; cases hu
   | some y =>
     rw [hyj] at hu
     cases hu
     have hcell := hy.cell b off rfl j y hyj
     have e1 : (Addr.mk b off none).add j = ⟨b, off + j, none⟩ := by
       unfold Addr.add; split
       · subst j; rfl
       · rfl
     rw [e1]; exact hcell
 · intro u hu
   obtain ⟨y, _, rfl⟩ := List.mem_map.1 hu
   rfl
 · unfold maxLen; omega
 · omega
 · intro v' w' hown' hg _ hat
   refine h v' w' ?_ hg ((Below.refl base w).grown hg hbase fun k hk => (World.ownsRow.lt hown k hk).1) hat
   unfold Own
   rw [List.map_append, List.length_append, hl]; exact hown'

/-! ### lists of lists -/
def OwnRows (w : World) (base : Nat) (v : Value) (xss : List (List Int)) : Prop :=
 ∃ vals : List Value, w.ownsRow base 25 1 v vals.length vals ∧ vals.length = xss.length ∧
   ∀ (i : Nat) (xs : List Int), xss[i]? = some xs → ∃ (a : Option Addr) (n c : Nat), vals[i]? = some (Value.slice a n c) ∧ Ints w a n c xs ∧ (0 < n → ∀ b o : Nat, a = some ⟨b, o, none⟩ → v.ownBlock ≠ some b)

theorem OwnRows.lt {w : World} {base : Nat} {v : Value} {xss : List (List Int)} (h : OwnRows w base v xss) : ∀ k, v.ownBlock = some k → base ≤ k ∧ k < w.heap.size := by
 obtain ⟨vals, h1, _⟩ := h
 exact World.ownsRow.lt h1

theorem OwnRows.rows {w : World} {base : Nat} {v : Value} {xss : List (List Int)} (h : OwnRows w base v xss) (hbig : xss.length ≤ 4611686018427387904) : ∃ a c, v = .slice a xss.length c ∧ Rows w a xss.length c xss := by
 obtain ⟨vals, ⟨h1, h2⟩, h3, h4⟩ := h
 rcases h2 with ⟨hv, hn⟩ | ⟨g, cap, cur, hv, hg, hh, hc, hm, hs, ht⟩
 · have : xss = [] := List.eq_nil_of_length_eq_zero (by omega)
   subst this
   exact ⟨none, 0, hv, Rows.nil _ _ _⟩
 · refine ⟨some ⟨g, 0, none⟩, cap, by rw [hv, h3], rfl, by omega, hbig, fun _ => ⟨_, _, rfl⟩, fun b o e k xs hx => ?_⟩
   cases e
   obtain ⟨a, n, c, e1, e2, _⟩ := h4 k xs hx
   refine ⟨a, n, c, ?_, e2⟩
   rw [cell_of_row w g _ cur _ _ hh]
   have hk : k < vals.length := (List.getElem?_eq_some_iff.1 e1).1
   have h5 : (cur.toList.take (vals.length * 1))[k]? = some (.slice a n c) := by rw [ht]; exact e1
   rw [List.getElem?_take_of_lt (by omega)] at h5
   simpa using h5

end Go.Proofs.YtkddkkcfpnndlaaGreatDoor

namespace Go.Proofs.YtkddkkcfpnndlaaGreatDoor
open Go.RowKit

def VRow (w : World) (B : Nat) (T : TypeId) (vals : List Value) : Prop := w.heap[B]? = some (.cells vals.toArray T (0, 0))
theorem VRow.cell {w : World} {B : Nat} {T : TypeId} {vals : List Value} (h : VRow w B T vals) {k : Nat} {v : Value} (hx : vals[k]? = some v) : w.cell? ⟨B, k, none⟩ = some v := by
 rw [cell_of_row w B k _ T _ h]; simpa using hx
theorem VRow.frozen {w : World} {B : Nat} {T : TypeId} {vals : List Value} (h : VRow w B T vals) (k : Nat) : w.frozen? ⟨B, k, none⟩ = false := frozen_of_row w B k _ T h
theorem VRow.lt {w : World} {B : Nat} {T : TypeId} {vals : List Value} (h : VRow w B T vals) : B < w.heap.size := by
 rcases Nat.lt_or_ge B w.heap.size with h1 | h1
 · exact h1
 · unfold VRow at h; rw [Array.getElem?_eq_none h1] at h; cases h
theorem VRow.set {w : World} {B : Nat} {T : TypeId} {vals : List Value} (h : VRow w B T vals) (k : Nat) (v : Value) : VRow (w.setCell ⟨B, k, none⟩ v) B T (vals.set k v) := by
 unfold VRow; rw [heap_setCell_same w B k _ T _ h]; simp
theorem VRow.alloc {w : World} {B : Nat} {T : TypeId} {vals : List Value} (h : VRow w B T vals) (o : Obj) : VRow (w.alloc o) B T vals := by
 unfold VRow; rw [Below.heap_alloc w o B h.lt]; exact h
theorem VRow.below {w w' : World} {B B' : Nat} {T : TypeId} {vals : List Value} (h : VRow w B T vals) (hb : Below B' w w') (hB : B < B') : VRow w' B T vals := by
 unfold VRow; rw [hb.block B hB]; exact h
theorem VRow.new (w : World) (T : TypeId) (vals : List Value) : VRow (w.alloc (.cells vals.toArray T)) w.heap.size T vals := heap_alloc_new w _
theorem VRow.drew {w : World} {B : Nat} {T : TypeId} {vals : List Value} (h : VRow w B T vals) : VRow w.drew B T vals := h

theorem mkRows (c : Nat) (hc : c ≤ 1000000) (w : World) : (Instr.makeSlice 22 (.int .i64 (c : Int)) (.int .i64 (c : Int))).run Tryz.prog w = .ok (.slice (some ⟨w.heap.size, 0, none⟩) c c) (w.alloc (.cells (List.replicate c (Value.slice none 0 0)).toArray 25)) := by
 obtain ⟨i0, hi, hz0, hz1, hz2⟩ := info_parts infoInts
 have h := run_make (P := Tryz.prog) w 22 25 i0 _ Tryz.underlying22 hi hz0 .i64 .i64 c c (by omega) (by omega) (by rw [hz2]; omega) (by omega)
 rw [hz1] at h
 have e : madeCells (Value.slice none 0 0).cells (c * 1) = (List.replicate c (Value.slice none 0 0)).toArray := by
   apply Array.ext'
   rw [show (Value.slice none 0 0).cells = #[.slice none 0 0] from rfl, toList_madeCells_one]
   simp
 rw [Int.toNat_natCast, e] at h
 exact h

theorem VRow.rows {w : World} {B : Nat} {T : TypeId} {vals : List Value} {xss : List (List Int)} (h : VRow w B T vals) (hbig : xss.length ≤ 4611686018427387904)
   (hv : ∀ (i : Nat) (xs : List Int), xss[i]? = some xs → ∃ (a : Option Addr) (n c : Nat), vals[i]? = some (Value.slice a n c) ∧ Ints w a n c xs) : Rows w (some ⟨B, 0, none⟩) xss.length xss.length xss :=
 ⟨rfl, Nat.le_refl _, hbig, fun _ => ⟨_, _, rfl⟩, fun b o e k xs hx => by
   cases e
   obtain ⟨a, n, c, e1, e2⟩ := hv k xs hx
   exact ⟨a, n, c, by rw [Nat.zero_add]; exact h.cell e1, e2⟩⟩

theorem Own.drew {w : World} {base : Nat} {v : Value} {xs : List Int} (h : Own w base v xs) : Own w.drew base v xs := h
theorem Own.other {w : World} {base : Nat} {v : Value} {xs : List Int} (h : Own w base v xs) {a : Addr} (ha : a.block < base) (u : Value) : Own (w.setCell a u) base v xs := by
 obtain ⟨h1, h2⟩ := h
 refine ⟨h1, ?_⟩
 rcases h2 with h2 | ⟨g, cap, cur, hv, hg, hh, r⟩
 · exact .inl h2
 · exact .inr ⟨g, cap, cur, hv, hg, by rw [heap_setCell_other w a g u (by omega)]; exact hh, r⟩
end Go.Proofs.YtkddkkcfpnndlaaGreatDoor

namespace Go.Proofs.YtkddkkcfpnndlaaGreatDoor
open Go.RowKit

theorem Ints.far {w : World} {a : Option Addr} {n c : Nat} {xs : List Int} (h : Ints w a n c xs) {p : Addr} (hne : 0 < n → ∀ b o, a = some ⟨b, o, none⟩ → b ≠ p.block) (u : Value) : Ints (w.setCell p u) a n c xs :=
 ⟨h.len, h.cap, h.big, h.addr, fun b o e k x hx => by
   rw [World.cell?_setCell_far w p ⟨b, o + k, none⟩ u (fun e' => hne (by have := (List.getElem?_eq_some_iff.1 hx).1; have := h.len; omega) b o e e'.symm)]; exact h.cell b o e k x hx, h.bd, h.nil⟩
theorem Ints.alloc {w : World} {a : Option Addr} {n c : Nat} {xs : List Int} (h : Ints w a n c xs) (o : Obj) : Ints (w.alloc o) a n c xs :=
 h.below ((Below.refl _ _).alloc (Nat.le_refl _) _) (Nat.le_refl _)
theorem Ints.upTo {w w' : World} {a : Option Addr} {n c B : Nat} {xs : List Int} (h : Ints w a n c xs) (hb : Below B w w') (hlt : 0 < n → ∀ b o, a = some ⟨b, o, none⟩ → b < B) : Ints w' a n c xs :=
 ⟨h.len, h.cap, h.big, h.addr, fun b o e k x hx => by
   rw [hb.cell (p := ⟨b, o + k, none⟩) (hlt (by have := (List.getElem?_eq_some_iff.1 hx).1; have := h.len; omega) b o e)]; exact h.cell b o e k x hx, h.bd, h.nil⟩

structure Made (w : World) (B base top n : Nat) (xss : List (List Int)) (vals : List Value) : Prop where
 row : VRow w B 25 vals
 len : vals.length = n
 lo : base ≤ B
 hi : B < top
 done : ∀ (j : Nat) (xs : List Int), xss[j]? = some xs → ∃ (a : Option Addr) (c : Nat), vals[j]? = some (Value.slice a xs.length c) ∧ Ints w a xs.length c xs ∧ (0 < xs.length → ∀ b o : Nat, a = some ⟨b, o, none⟩ → base ≤ b ∧ b < top ∧ b ≠ B)

theorem Made.other {w : World} {B base top n : Nat} {xss : List (List Int)} {vals : List Value} (h : Made w B base top n xss vals) {p : Addr} (hp : top ≤ p.block) (u : Value) : Made (w.setCell p u) B base top n xss vals := by
 refine ⟨?_, h.len, h.lo, h.hi, fun j xs hj => ?_⟩
 · unfold VRow; rw [heap_setCell_other w p B u (by have := h.hi; omega)]; exact h.row
 · obtain ⟨a, c, h1, h2, h3⟩ := h.done j xs hj
   exact ⟨a, c, h1, h2.far (fun hn b o e => by have := (h3 hn b o e).2.1; omega) u, h3⟩
theorem Made.alloc {w : World} {B base top n : Nat} {xss : List (List Int)} {vals : List Value} (h : Made w B base top n xss vals) (o : Obj) : Made (w.alloc o) B base top n xss vals := by
 refine ⟨h.row.alloc o, h.len, h.lo, h.hi, fun j xs hj => ?_⟩
 obtain ⟨a, c, h1, h2, h3⟩ := h.done j xs hj
 exact ⟨a, c, h1, h2.alloc o, h3⟩
theorem Made.drew {w : World} {B base top n : Nat} {xss : List (List Int)} {vals : List Value} (h : Made w B base top n xss vals) : Made w.drew B base top n xss vals := by
 refine ⟨h.row.drew, h.len, h.lo, h.hi, fun j xs hj => ?_⟩
 obtain ⟨a, c, h1, h2, h3⟩ := h.done j xs hj
 exact ⟨a, c, h1, h2.drew, h3⟩
theorem Made.below {w w' : World} {B base top n B' : Nat} {xss : List (List Int)} {vals : List Value} (h : Made w B base top n xss vals) (hb : Below B' w w') (ht : top ≤ B') : Made w' B base top n xss vals := by
 refine ⟨h.row.below hb (by have := h.hi; omega), h.len, h.lo, h.hi, fun j xs hj => ?_⟩
 obtain ⟨a, c, h1, h2, h3⟩ := h.done j xs hj
 exact ⟨a, c, h1, h2.upTo hb (fun hn b o e => by have := (h3 hn b o e).2.1; omega), h3⟩
theorem Made.set {w : World} {B base top n : Nat} {xss : List (List Int)} {vals : List Value} (h : Made w B base top n xss vals) {i : Nat} (hi : xss.length ≤ i) (v : Value) : Made (w.setCell ⟨B, i, none⟩ v) B base top n xss (vals.set i v) := by
 refine ⟨h.row.set i v, by rw [List.length_set]; exact h.len, h.lo, h.hi, fun j xs hj => ?_⟩
 obtain ⟨a, c, h1, h2, h3⟩ := h.done j xs hj
 have hjl := (List.getElem?_eq_some_iff.1 hj).1
 exact ⟨a, c, by rw [List.getElem?_set_ne (by omega)]; exact h1, h2.far (fun hn b o e => (h3 hn b o e).2.2) v, h3⟩
theorem Made.push {w : World} {B base top top' n : Nat} {xss : List (List Int)} {xs : List Int} {vals : List Value} (h : Made w B base top n xss vals) (ht : top ≤ top') {a : Option Addr} {c : Nat} (hv : vals[xss.length]? = some (Value.slice a xs.length c)) (hI : Ints w a xs.length c xs)
   (hne : 0 < xs.length → ∀ b o : Nat, a = some ⟨b, o, none⟩ → base ≤ b ∧ b < top' ∧ b ≠ B) : Made w B base top' n (xss ++ [xs]) vals := by
 refine ⟨h.row, h.len, h.lo, by have := h.hi; omega, fun j ys hj => ?_⟩
 by_cases e : j < xss.length
 · rw [List.getElem?_append_left e] at hj
   obtain ⟨a, c, h1, h2, h3⟩ := h.done j ys hj
   exact ⟨a, c, h1, h2, fun hn b o e => ⟨(h3 hn b o e).1, Nat.lt_of_lt_of_le (h3 hn b o e).2.1 ht, (h3 hn b o e).2.2⟩⟩
 · have : j = xss.length := by have := (List.getElem?_eq_some_iff.1 hj).1; simp at this; omega
   subst this
   rw [List.getElem?_append_right (Nat.le_refl _), Nat.sub_self] at hj
   cases hj
   exact ⟨a, c, hv, hI, hne⟩
theorem Made.rows {w : World} {B base top n : Nat} {xss : List (List Int)} {vals : List Value} (h : Made w B base top n xss vals) (hn : xss.length = n) (hbig : n ≤ 4611686018427387904) : Rows w (some ⟨B, 0, none⟩) n n xss := by
 have := h.row.rows (xss := xss) (by omega) fun j xs hj => by
   obtain ⟨a, c, h1, h2, _⟩ := h.done j xs hj
   exact ⟨a, xs.length, c, h1, h2⟩
 rwa [hn] at this
theorem Made.lower {w : World} {B base base' top n : Nat} {xss : List (List Int)} {vals : List Value} (h : Made w B base top n xss vals) (hb : base' ≤ base) : Made w B base' top n xss vals :=
 ⟨h.row, h.len, Nat.le_trans hb h.lo, h.hi, fun j xs hj => by
   obtain ⟨a, c, h1, h2, h3⟩ := h.done j xs hj
   exact ⟨a, c, h1, h2, fun hn b o e => ⟨Nat.le_trans hb (h3 hn b o e).1, (h3 hn b o e).2⟩⟩⟩
theorem Made.start (w : World) (n : Nat) : Made (w.alloc (.cells (List.replicate n (Value.slice none 0 0)).toArray 25)) w.heap.size w.heap.size (w.heap.size + 1) n [] (List.replicate n (Value.slice none 0 0)) :=
 ⟨VRow.new _ _ _, by simp, Nat.le_refl _, by omega, fun j xs hj => by simp at hj⟩

end Go.Proofs.YtkddkkcfpnndlaaGreatDoor

namespace Go.Proofs.YtkddkkcfpnndlaaGreatDoor
open Go.RowKit

def mw (w : World) (ra ba oa : Option Addr) (rn rc bn bc on oc : Nat) : World := w.alloc (.cells #[.slice ra rn rc, .slice ba bn bc, .slice oa on oc] 57)
theorem mw_kept {w w1 : World} {ra ba oa : Option Addr} {rn rc bn bc on oc : Nat} (hb : Below (w.heap.size + 1) (mw w ra ba oa rn rc bn bc on oc) w1) :
   w1.cell? ⟨w.heap.size, 0, none⟩ = some (.slice ra rn rc) ∧ w1.cell? ⟨w.heap.size, 1, none⟩ = some (.slice ba bn bc) ∧ w1.cell? ⟨w.heap.size, 2, none⟩ = some (.slice oa on oc) ∧ w.heap.size < w1.heap.size ∧ Below w.heap.size w w1 := by
 have hs : (mw w ra ba oa rn rc bn bc on oc).heap.size = w.heap.size + 1 := by simp [mw]
 have h0 := hb.size
 refine ⟨?_, ?_, ?_, by omega, ((Below.refl w.heap.size w).alloc (Nat.le_refl _) _).trans (hb.mono (by omega))⟩
 · rw [hb.cell (p := ⟨w.heap.size, 0, none⟩) (by simp)]; simp [mw, go_sem]
 · rw [hb.cell (p := ⟨w.heap.size, 1, none⟩) (by simp)]; simp [mw, go_sem]
 · rw [hb.cell (p := ⟨w.heap.size, 2, none⟩) (by simp)]; simp [mw, go_sem]
theorem mw_start (w : World) (ra ba oa : Option Addr) (rn rc bn bc on oc : Nat) : Below (w.heap.size + 1) (mw w ra ba oa rn rc bn bc on oc) (mw w ra ba oa rn rc bn bc on oc) := Below.refl _ _
theorem mw_below {w w1 w2 : World} {ra ba oa : Option Addr} {rn rc bn bc on oc : Nat} (h : Below (w.heap.size + 1) (mw w ra ba oa rn rc bn bc on oc) w1) {B : Nat} (h2 : Below B w1 w2) (hB : w.heap.size + 1 ≤ B) : Below (w.heap.size + 1) (mw w ra ba oa rn rc bn bc on oc) w2 :=
 h.trans (h2.mono hB)
theorem mw_below' {w w1 w2 : World} {ra ba oa : Option Addr} {rn rc bn bc on oc : Nat} (h : Below (w.heap.size + 1) (mw w ra ba oa rn rc bn bc on oc) w1) (h2 : Below w1.heap.size w1 w2) : Below (w.heap.size + 1) (mw w ra ba oa rn rc bn bc on oc) w2 :=
 h.trans (h2.mono (by have := h.size; simp [mw] at this; omega))

structure MktAt (w : World) (ra ba oa : Option Addr) (rn rc bn bc on oc : Nat) (m : Mkt) : Prop where
 res : Ints w ra rn rc m.res
 bids : Rows w ba bn bc m.bids
 ord : Ints w oa on oc m.ord
theorem MktAt.below {w w' : World} {ra ba oa : Option Addr} {rn rc bn bc on oc : Nat} {m : Mkt} (h : MktAt w ra ba oa rn rc bn bc on oc m) {B : Nat} (hb : Below B w w') (hB : w.heap.size ≤ B) : MktAt w' ra ba oa rn rc bn bc on oc m :=
 ⟨h.res.below hb hB, h.bids.below hb hB, h.ord.below hb hB⟩

set_option maxHeartbeats 1000000 in
theorem Gains_no (ra ba oa : Option Addr) (rn rc bn bc on oc : Nat) (m : Mkt) (w : World) (hm : MktAt w ra ba oa rn rc bn bc on oc m) (hc : mcheck m = false) :
   Calls Tryz.prog 117 #[.agg #[.slice ra rn rc, .slice ba bn bc, .slice oa on oc]] w fun e w' => e = .returned (.tuple #[.slice none 0 0, .int .i64 1]) ∧ Below w.heap.size w w' := by
 have HC := Lib.hid hc; clear hc
 have HB0 := Lib.hid (mw_start w ra ba oa rn rc bn bc on oc)
 have hm1 := hm.below (mw_kept HB0.out).2.2.2.2 (Nat.le_refl _)
 have HK := Lib.hid (mcheck_any ra ba oa rn rc bn bc on oc m (mw w ra ba oa rn rc bn bc on oc) hm1.res hm1.bids hm1.ord)
 clear hm hm1
 go_enter Tryz.func117, Tryz.ntmps117
 go_wp2_with fail
 refine HK.out.mono ?_
 rw [HC.out]
 rintro e w1 ⟨rfl, hb⟩
 have HB1 := Lib.hid (mw_below' HB0.out hb); clear hb HK
 go_wp2_with fail
 go_ret2
 exact ⟨rfl, (mw_kept HB1.out).2.2.2.2⟩

def partRow (res bid : List Int) (k : Nat) : List Int := tabN res.length fun j => if j < k then (if bid = [] then -1 else bid.getD j 0 - res.getD j 0) else 0
theorem partRow_zero (res bid : List Int) : partRow res bid 0 = List.replicate res.length 0 := by
 unfold partRow tabN
 apply List.ext_getElem?
 intro j
 by_cases hj : j < res.length <;> simp [hj]
theorem partRow_all (res bid : List Int) : partRow res bid res.length = gainRow res bid := by
 unfold gainRow
 exact tabN_congr fun j hj => by rw [if_pos hj]
theorem partRow_set {res bid : List Int} {k : Nat} (v : Int) (hv : (if bid = [] then -1 else bid.getD k 0 - res.getD k 0) = v) : (partRow res bid k).set k v = partRow res bid (k + 1) := by
 unfold partRow
 rw [tabN_set]
 refine tabN_congr fun j hj => ?_
 by_cases e : j = k
 · subst e; rw [if_pos rfl, if_pos (by omega), hv]
 · rw [if_neg e]
   by_cases h : j < k
   · rw [if_pos h, if_pos (show j < k + 1 by omega)]
   · rw [if_neg h, if_neg (show ¬ j < k + 1 by omega)]
theorem partRow_length (res bid : List Int) (k : Nat) : (partRow res bid k).length = res.length := tabN_length _ _

set_option maxRecDepth 100000 in
set_option maxHeartbeats 2000000 in
theorem Gains_made (ra ba oa : Option Addr) (rn rc bn bc on oc : Nat) (m : Mkt) (w : World) (hm : MktAt w ra ba oa rn rc bn bc on oc m) (hc : mcheck m = true) :
   Calls Tryz.prog 117 #[.agg #[.slice ra rn rc, .slice ba bn bc, .slice oa on oc]] w fun e w' => ∃ B vals, e = .returned (.tuple #[.slice (some ⟨B, 0, none⟩) bn bn, .int .i64 0]) ∧ Made w' B w.heap.size w'.heap.size bn (gainsM m) vals ∧ Below w.heap.size w w' := by
 have hok := mcheck_ok hc
 have hrl := hm.res.len
 have hbl := hm.bids.len
 have hn1 := hok.n1
 have hn8 := hok.n8
 have hm1 := hok.m1
 have hm8 := hok.m8
 rw [hrl] at hn1 hn8
 rw [hbl] at hm1 hm8
 have HRL := Lib.hid hrl; clear hrl
 have HBL := Lib.hid hbl; clear hbl
 have HOK := Lib.hid hok; clear hok
 have HC := Lib.hid hc; clear hc
 have HB0 := Lib.hid (mw_start w ra ba oa rn rc bn bc on oc)
 have HM := Lib.hid hm; clear hm
 have hmA := HM.out.below (mw_kept HB0.out).2.2.2.2 (Nat.le_refl _)
 have HK := Lib.hid (mcheck_any ra ba oa rn rc bn bc on oc m (mw w ra ba oa rn rc bn bc on oc) hmA.res hmA.bids hmA.ord)
 clear hmA
 obtain ⟨bb, bo, rfl⟩ := HM.out.bids.addr (by omega)
 obtain ⟨rb, ro, rfl⟩ := HM.out.res.addr (by omega)
 have hmkB := mkRows bn (by omega)
 have hmkR := mkInts rn (by omega)
 go_enter Tryz.func117, Tryz.ntmps117
 go_wp2_with fail
 refine HK.out.mono ?_
 rw [HC.out]
 rintro e w1 ⟨rfl, hb⟩
 have HB1 := Lib.hid (mw_below' HB0.out hb); clear hb HK
 obtain ⟨c0, c1, _, hs1, hbw1⟩ := mw_kept HB1.out
 have HBW1 := Lib.hid hbw1; clear hbw1
 have HMS := Lib.hid (Made.start w1 bn)
 have HBA := Lib.hid (mw_below HB1.out ((Below.refl w1.heap.size w1).alloc (Nat.le_refl _) (.cells (List.replicate bn (Value.slice none 0 0)).toArray 25)) (by omega))
 go_wp2_with fail
 clear c0 c1
 go_loopg [19] bn (fun g' s19 wr => ∃ (i : Nat) (vals : List Value), i + g' = bn ∧ s19 = .int .i64 i ∧ Made wr w1.heap.size w1.heap.size wr.heap.size bn ((gainsM m).take i) vals ∧ Below (w.heap.size + 1) (mw w (some ⟨rb, ro, none⟩) (some ⟨bb, bo, none⟩) oa rn rc bn bc on oc) wr)
 case atStart => exact ⟨0, _, by omega, rfl, by simpa using HMS.out, HBA.out⟩
 case round =>
   obtain ⟨i, vals, hi, rfl, hMd, hB⟩ := hrel
   obtain ⟨c0, c1, _, hs2, hbw⟩ := mw_kept hB
   have HI := Lib.hid hi; clear hi
   have HB := Lib.hid hB; clear hB
   have HBW := Lib.hid hbw; clear hbw
   have hgl : ((gainsM m).take i).length = i := by rw [List.length_take, gainsM_length]; have := HBL.out; have := HI.out; omega
   by_cases hlt : i < bn
   · obtain ⟨bid, hbid⟩ := HM.out.bids.get hlt
     obtain ⟨la, ln, lc, hcl, hli⟩ := HM.out.bids.row HBW.out (Nat.le_refl _) (b := bb) (o := bo) (k := i) rfl hbid
     have hBo := hMd.hi
     have hvl := hMd.len
     obtain ⟨v0, hv0⟩ : ∃ v0, vals[i]? = some v0 := ⟨_, List.getElem?_eq_getElem (by omega)⟩
     have hcv := hMd.row.cell hv0
     have hfv := hMd.row.frozen i
     have hMd1 := (hMd.set (i := i) (by omega) (.slice (some ⟨wr.heap.size, 0, none⟩) rn rn)).alloc (.cells (iarr (List.replicate rn 0)) 3)
     have hrow1 := Row.new' (wr.setCell ⟨w1.heap.size, i, none⟩ (.slice (some ⟨wr.heap.size, 0, none⟩) rn rn)) 3 (List.replicate rn 0) (B := wr.heap.size) (by simp)
     have hB1 := mw_below HB.out (((Below.refl (w.heap.size + 1) wr).setCell (p := ⟨w1.heap.size, i, none⟩) (by simp; omega) (.slice (some ⟨wr.heap.size, 0, none⟩) rn rn)).alloc (by simp; omega) (.cells (iarr (List.replicate rn 0)) 3)) (Nat.le_refl _)
     have hvl1 : i < vals.length := by omega
     have HMD1 := Lib.hid hMd1; clear hMd1
     have HROW1 := Lib.hid hrow1; clear hrow1
     have HBB1 := Lib.hid hB1; clear hB1
     have HV0 := Lib.hid hv0; clear hv0
     have HLI := Lib.hid hli; clear hli
     have HBID := Lib.hid hbid; clear hbid
     have HGL := Lib.hid hgl; clear hgl
     have HVL := Lib.hid hvl; clear hvl
     have HMD0 := Lib.hid hMd; clear hMd
     go_wp2_with fail
     obtain ⟨wo, rfl⟩ : ∃ wo : World, wo = wr := ⟨_, rfl⟩
     obtain ⟨go, rfl⟩ : ∃ go : Nat, go = gk := ⟨_, rfl⟩
     have hz : rn = m.res.length := HRL.out.symm
     go_loopg [34] rn (fun g' s34 wr => ∃ (k : Nat), k + g' = rn ∧ s34 = .int .i64 k ∧ Made wr w1.heap.size w1.heap.size wo.heap.size bn ((gainsM m).take i) (vals.set i (.slice (some ⟨wo.heap.size, 0, none⟩) rn rn)) ∧ Row wr wo.heap.size 3 (partRow m.res bid k) ∧ Below (w.heap.size + 1) (mw w (some ⟨rb, ro, none⟩) (some ⟨bb, bo, none⟩) oa rn rc bn bc on oc) wr ∧ wo.heap.size < wr.heap.size)
     case atStart => exact ⟨0, by omega, rfl, HMD1.out, by rw [partRow_zero, ← hz]; exact HROW1.out, HBB1.out, by simp⟩
     case round =>
       obtain ⟨k, hk, rfl, hMd, hRow, hB, hsz⟩ := hrel
       obtain ⟨c0, c1, _, hs2, hbw⟩ := mw_kept hB
       have HK := Lib.hid hk; clear hk
       by_cases hltk : k < rn
       · obtain ⟨x, hx, hxb⟩ := HM.out.res.get hltk
         have cx := (HM.out.res.below hbw (Nat.le_refl _)).cell rb ro rfl k x hx
         have hx6 := HOK.out.res x (List.mem_of_getElem? hx)
         have hcs := hMd.row.cell (k := i) (v := .slice (some ⟨wo.heap.size, 0, none⟩) rn rn) (by simp [hvl1])
         have hold := hRow.cell (k := k) (x := 0) (by unfold partRow; rw [tabN_get _ (by omega), if_neg (by omega)])
         have hfr := hRow.frozen k
         have hrest : m.res.getD k 0 = x := by rw [List.getD_eq_getElem?_getD, hx]; rfl
         have HREST := Lib.hid hrest; clear hrest
         have HMD := Lib.hid hMd; clear hMd
         have HROW := Lib.hid hRow; clear hRow
         have HBN := Lib.hid hB; clear hB
         have HBW2 := Lib.hid hbw; clear hbw
         have HX := Lib.hid hx; clear hx
         obtain ⟨hx1, hx2⟩ := hx6
         clear hz hxb
         by_cases hl0 : 0 < ln
         · have hne : bid ≠ [] := fun e => by have := HLI.out.len; rw [e] at this; simp at this; omega
           have hln : ln = rn := by
             rcases HOK.out.bid bid (List.mem_of_getElem? HBID.out) with e | ⟨e, _⟩
             · exact absurd e hne
             · have := HLI.out.len; have := HRL.out; omega
           have HNE := Lib.hid hne; clear hne
           subst hln
           obtain ⟨y, hy, _⟩ := HLI.out.get hltk
           obtain ⟨lb, lo, rfl⟩ := HLI.out.addr (by omega)
           have cy := (HLI.out.below HBW2.out (Nat.le_refl _)).cell lb lo rfl k y hy
           have hy6 : 0 ≤ y ∧ y ≤ 1000000 := by
             rcases HOK.out.bid bid (List.mem_of_getElem? HBID.out) with e | ⟨_, e⟩
             · exact absurd e HNE.out
             · exact e y (List.mem_of_getElem? hy)
           have hlb : lb < w.heap.size := by
             have := block_lt_of_cell (HLI.out.cell lb lo rfl k y hy); simpa using this
           have hbidt : bid.getD k 0 = y := by rw [List.getD_eq_getElem?_getD, hy]; rfl
           have HBT := Lib.hid hbidt; clear hbidt
           have HY := Lib.hid hy; clear hy
           obtain ⟨hy1, hy2⟩ := hy6
           have hws : w.heap.size < wo.heap.size := by have := (mw_kept HB.out).2.2.2.1; omega
           have cy1 : (wr.setCell ⟨wo.heap.size, k, none⟩ (.int .i64 (-1))).cell? ⟨lb, lo + k, none⟩ = some (.int .i64 y) := by
             rw [World.cell?_setCell_far _ _ _ _ (by simp; omega)]; exact cy
           have hcs1 : (wr.setCell ⟨wo.heap.size, k, none⟩ (.int .i64 (-1))).cell? ⟨w1.heap.size, i, none⟩ = some (.slice (some ⟨wo.heap.size, 0, none⟩) ln ln) := by
             rw [World.cell?_setCell_far _ _ _ _ (by simp; omega)]; exact hcs
           have hrow2 := HROW.out.set k (-1)
           have hold1 := hrow2.cell (k := k) (x := -1) (by rw [List.getElem?_set_self (by rw [partRow_length]; have := HRL.out; omega)])
           have hfr1 := hrow2.frozen k
           have HROW2 := Lib.hid hrow2; clear hrow2
           go_wp2_with fail
           go_region
           go_wp2_with fail
           go_roundg (gk - 1)
           case measure => have := HK.out; omega
           case rel =>
             refine ⟨k + 1, by have := HK.out; omega, by go_num, ((HMD.out.other (by simp) _).other (by simp) _).drew, ?_, mw_below HBN.out ((((Below.refl (w.heap.size + 1) wr).setCell (by simp; omega) _).setCell (by simp; omega) _).drew) (Nat.le_refl _), by simp; omega⟩
             rw [← partRow_set (res := m.res) (bid := bid) (k := k) (y - x) (by rw [if_neg HNE.out, HBT.out, HREST.out])]
             have h2 := HROW2.out.set k (y - x)
             rw [List.set_set] at h2
             exact h2.drew
         · obtain rfl : ln = 0 := by omega
           have hne : bid = [] := List.eq_nil_of_length_eq_zero HLI.out.len
           have hset := partRow_set (res := m.res) (bid := bid) (k := k) (-1) (by rw [if_pos hne])
           have HSET := Lib.hid hset; clear hset
           have HNE := Lib.hid hne; clear hne
           go_wp2_with fail
           go_roundg (gk - 1)
           case measure => have := HK.out; omega
           case rel => exact ⟨k + 1, by have := HK.out; omega, by go_num, HMD.out.other (by simp) _, by rw [← HSET.out]; exact HROW.out.set k (-1), mw_below HBN.out ((Below.refl (w.heap.size + 1) wr).setCell (by simp; omega) _) (Nat.le_refl _), by simp; omega⟩
       · obtain rfl : k = rn := by have := HK.out; omega
         rw [hz, partRow_all] at hRow
         have hgr : (gainsM m)[i]? = some (gainRow m.res bid) := by unfold gainsM; rw [List.getElem?_map, HBID.out]; rfl
         have hri := hRow.ints (by rw [gainRow_length]; omega) (fun x hx => by
           have := HOK.out.rows.2 _ (List.mem_of_getElem? hgr) x hx; omega)
         rw [gainRow_length, ← hz] at hri
         have hpush := hMd.push (xs := gainRow m.res bid) (top' := wr.heap.size) (by omega) (a := some ⟨wo.heap.size, 0, none⟩) (c := k) (by rw [HGL.out, gainRow_length, ← hz]; simp [hvl1]) (by rw [gainRow_length, ← hz]; exact hri) (fun _ b o e => by cases e; omega)
         rw [show (gainsM m).take i ++ [gainRow m.res bid] = (gainsM m).take (i + 1) by rw [List.take_add_one, hgr]; rfl] at hpush
         have HPUSH := Lib.hid hpush; clear hpush hgr hri hRow hMd
         have HBN := Lib.hid hB; clear hB
         clear hz hbw
         go_wp2_with fail
         go_roundg (go - 1)
         case measure => have := HI.out; omega
         case rel => exact ⟨i + 1, _, by have := HI.out; omega, by go_num, HPUSH.out, HBN.out⟩
   · obtain rfl : i = bn := by have := HI.out; omega
     have HMD0 := Lib.hid hMd; clear hMd
     rw [List.take_of_length_le (by rw [gainsM_length, HBL.out]; exact Nat.le_refl _)] at HMD0
     go_wp2_with fail
     go_ret2
     exact ⟨_, vals, rfl, HMD0.out.lower HBW1.out.size, HBW.out⟩

theorem Gains_yes (ra ba oa : Option Addr) (rn rc bn bc on oc : Nat) (m : Mkt) (w : World) (hm : MktAt w ra ba oa rn rc bn bc on oc m) (hc : mcheck m = true) :
   Calls Tryz.prog 117 #[.agg #[.slice ra rn rc, .slice ba bn bc, .slice oa on oc]] w fun e w' => ∃ a, e = .returned (.tuple #[.slice a bn bn, .int .i64 0]) ∧ Rows w' a bn bn (gainsM m) ∧ Below w.heap.size w w' := by
 refine (Gains_made ra ba oa rn rc bn bc on oc m w hm hc).mono ?_
 rintro e w' ⟨B, vals, rfl, hM, hb⟩
 exact ⟨_, rfl, hM.rows (by rw [gainsM_length]; exact hm.bids.len) hm.bids.big, hb⟩
end Go.Proofs.YtkddkkcfpnndlaaGreatDoor
