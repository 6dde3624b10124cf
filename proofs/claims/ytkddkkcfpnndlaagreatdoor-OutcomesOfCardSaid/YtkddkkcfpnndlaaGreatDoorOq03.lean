/- Slices of integers that a call has made itself: appended to, written. Walks: weights.each. Bits of numbers below 256, as the walk writes them. Walks: weights.best. -/
import Derived.Test.YtkddkkcfpnndlaaGreatDoorOq00
import Derived.Test.YtkddkkcfpnndlaaGreatDoorRows
import Derived.Test.YtkddkkcfpnndlaaGreatDoorOq01
import Derived.Test.YtkddkkcfpnndlaaGreatDoorOq02
import Derived.Laws.AppendOwnNone
import Derived.Deep.RegionHeld3
import Derived.Deep.RegionLaw
namespace Go.Proofs.YtkddkkcfpnndlaaGreatDoor
open Go.RowKit

theorem infoInt : (Tryz.prog.info? 3).map (fun i => (i.zero, i.size, i.bytes)) = some (some (.int .i64 0), 1, 8) := by kernel_rfl

def Own (w : World) (base : Nat) (v : Value) (xs : List Int) : Prop := w.ownsRow base 3 1 v xs.length (xs.map (Value.int .i64))

theorem Own.nil (w : World) (base : Nat) : Own w base (.slice none 0 0) [] := World.ownsRow_nil _ _ _ _
theorem Own.alloc {w : World} {base : Nat} {v : Value} {xs : List Int} (h : Own w base v xs) (o : Obj) : Own (w.alloc o) base v xs := World.ownsRow.alloc h o
theorem Own.below {w w' : World} {base B : Nat} {v : Value} {xs : List Int} (h : Own w base v xs) (hb : Below B w w') (hB : w.heap.size ≤ B) : Own w' base v xs := by
 obtain ⟨h1, h2⟩ := h
 refine ⟨h1, ?_⟩
 rcases h2 with h2 | ⟨g, cap, cur, hv, hg, hh, r⟩
 · exact .inl h2
 · have hlt : g < w.heap.size := by
     rcases Nat.lt_or_ge g w.heap.size with h | h
     · exact h
     · rw [Array.getElem?_eq_none h] at hh; cases hh
   exact .inr ⟨g, cap, cur, hv, hg, by rw [hb.block g (by omega)]; exact hh, r⟩

theorem Own.ints {w : World} {base : Nat} {v : Value} {xs : List Int} (h : Own w base v xs) (hbig : xs.length ≤ 4611686018427387904) (hbd : ∀ x, x ∈ xs → -9223372036854775808 ≤ x ∧ x ≤ 9223372036854775807) :
   ∃ a c, v = .slice a xs.length c ∧ Ints w a xs.length c xs := by
 obtain ⟨h1, h2⟩ := h
 rcases h2 with ⟨hv, hn⟩ | ⟨g, cap, cur, hv, hg, hh, hc, hm, hs, ht⟩
 · obtain rfl : xs = [] := List.eq_nil_of_length_eq_zero hn
   exact ⟨none, 0, hv, Ints.empty _ _ _⟩
 · refine ⟨some ⟨g, 0, none⟩, cap, hv, rfl, hc, hbig, fun _ => ⟨_, _, rfl⟩, fun b o e k x hx => ?_, hbd, fun e => by cases e⟩
   cases e
   have hk : k < xs.length := (List.getElem?_eq_some_iff.1 hx).1
   rw [cell_of_row w g _ cur _ _ hh]
   have h3 : (cur.toList.take (xs.length * 1))[k]? = some (.int .i64 x) := by rw [ht]; simp [hx]
   rw [List.getElem?_take_of_lt (by omega)] at h3
   simpa using h3

theorem app1 {ops : Array Oper} {rest : List Oper} {o : Oper} {a : Act} {Q : Exit → Act → World → Prop} (w : World) (hgd : o.guard = none) (s x : Operand)
   (ho : o.op = .call { callee := .builtin .append, args := #[s, x], argTypes := #[25, 25] })
   (base : Nat) (v : Value) (xs : List Int) (hs : a.eval s = v) (hown : Own w base v xs) (b off c : Nat) (y : Int) (hx : a.eval x = .slice (some ⟨b, off, none⟩) 1 c)
   (hc : w.cell? ⟨b, off, none⟩ = some (.int .i64 y)) (hlen : xs.length < 17592186044000) (hbase : base ≤ w.heap.size)
   (h : ∀ g cap w', Own w' base (.slice (some ⟨g, 0, none⟩) (xs.length + 1) cap) (xs ++ [y]) → w.grownBy w' v.ownBlock → Below base w w' → wpList Tryz.prog ops Q rest (a.put o.dst (.slice (some ⟨g, 0, none⟩) (xs.length + 1) cap)) w') : wpList Tryz.prog ops Q (o :: rest) a w := by
 obtain ⟨i0, hi, hz0, hz1, hz2⟩ := info_parts infoInt
 refine wpList_append_own w hgd s x _ ho base 3 i0 _ 1 8 Tryz.underlying25 hi hz0 hz1 hz2 rfl (by decide) v xs.length _ hs hown ⟨b, off, none⟩ 1 c [.int .i64 y] hx rfl ?_ ?_ ?_ ?_ hbase ?_
 · intro j u hu
   cases j with
   | zero => simp at hu; subst hu; simpa [Addr.add] using hc
   | succ j => simp at hu
 · intro u hu; simp at hu; subst hu; rfl
 · unfold maxLen; omega
 · omega
 · intro v' w' hown' hg hnil
   have hne : v' ≠ .slice none 0 0 := fun e => by have := (hnil.1 e).2; omega
   rcases hown'.2 with ⟨e, _⟩ | ⟨g, cap, cur, hv, r⟩
   · exact absurd e hne
   · subst hv
     refine h g cap w' ?_ hg ((Below.refl base w).grown hg hbase fun k hk => (World.ownsRow.lt hown k hk).1)
     unfold Own
     rw [List.map_append, List.length_append]; exact hown'

theorem Own.base {w : World} {base : Nat} {v : Value} {xs : List Int} (h : Own w base v xs) : ∀ k, v.ownBlock = some k → base ≤ k := fun k hk => (World.ownsRow.lt h k hk).1

theorem app0 {ops : Array Oper} {rest : List Oper} {o : Oper} {a : Act} {Q : Exit → Act → World → Prop} (w : World) (hgd : o.guard = none) (s x : Operand)
   (ho : o.op = .call { callee := .builtin .append, args := #[s, x], argTypes := #[25, 25] })
   (base : Nat) (v : Value) (xs : List Int) (hs : a.eval s = v) (hown : Own w base v xs) (hx : a.eval x = .slice none 0 0)
   (h : wpList Tryz.prog ops Q rest (a.put o.dst v) w) : wpList Tryz.prog ops Q (o :: rest) a w := by
 obtain ⟨i0, hi, hz0, hz1, hz2⟩ := info_parts infoInt
 exact wpList_append_own_none hgd s x _ ho base 3 i0 1 Tryz.underlying25 hi v xs.length _ hs hown hx h

theorem mkInts (c : Nat) (hc : c ≤ 1000000) (w : World) : (Instr.makeSlice 25 (.int .i64 (c : Int)) (.int .i64 (c : Int))).run Tryz.prog w = .ok (.slice (some ⟨w.heap.size, 0, none⟩) c c) (w.alloc (.cells (iarr (List.replicate c 0)) 3)) := by
 obtain ⟨i0, hi, hz0, hz1, hz2⟩ := info_parts infoInt
 have h := run_make (P := Tryz.prog) w 25 3 i0 _ Tryz.underlying25 hi hz0 .i64 .i64 c c (by omega) (by omega) (by rw [hz2]; omega) (by omega)
 rw [hz1] at h
 have e : madeCells (Value.int .i64 0).cells (c * 1) = iarr (List.replicate c 0) := by
   apply Array.ext'
   rw [show (Value.int .i64 0).cells = #[.int .i64 0] from rfl, toList_madeCells_one]
   simp [iarr]
 rw [Int.toNat_natCast, e] at h
 exact h

/-! ### written, not appended to -/
end Go.Proofs.YtkddkkcfpnndlaaGreatDoor

namespace Go.Proofs.YtkddkkcfpnndlaaGreatDoor
open Go.RowKit

def upTo (n : Nat) : List Int := (List.range n).map fun (k : Nat) => (k : Int)
theorem upTo_succ (n : Nat) : upTo (n + 1) = upTo n ++ [(n : Int)] := by simp [upTo, List.range_succ]
theorem upTo_length (n : Nat) : (upTo n).length = n := by simp [upTo]

set_option maxHeartbeats 400000 in
theorem each_any (n : Nat) (w : World) (hn : n ≤ 100) :
   Calls Tryz.prog 124 #[.int .i64 n, .slice none 0 0] w fun e w' => ∃ a c, e = .returned (.slice a n c) ∧ Ints w' a n c (upTo n) ∧ Below w.heap.size w w' := by
 go_enter Tryz.func124, Tryz.ntmps124
 go_wp2_with fail
 go_loopg [5, 8] n (fun g' s5 s8 wr => ∃ k : Nat, k + g' = n ∧ s8 = .int .i64 k ∧ Own wr w.heap.size s5 (upTo k) ∧ Below w.heap.size w wr)
 case atStart => exact ⟨0, by omega, rfl, Own.nil _ _, Below.refl _ _⟩
 case round =>
   obtain ⟨k, hk, rfl, ho, hB⟩ := hrel
   by_cases hlt : k < n
   · have HK := Lib.hid hk; clear hk
     have HO := Lib.hid ho; clear ho
     have HB := Lib.hid hB; clear hB
     go_wp2_with (at_builtin; refine app1 _ rfl _ _ rfl w.heap.size _ (upTo k) rfl (HO.out.alloc _) wr.heap.size 0 1 (k : Int) rfl (by simp [go_sem]) (by rw [upTo_length]; omega) (by have := HB.out.size; simp; omega) ?_)
     intro g cap w1 ho1 _ hb1
     have HO1 := Lib.hid ho1; clear ho1
     have HB1 := Lib.hid (((HB.out.alloc HB.out.size (.cells #[.int .i64 (k : Int)] 3))).trans hb1); clear hb1
     go_wp2_with fail
     go_roundg (gk - 1)
     case measure => have := HK.out; omega
     case rel => exact ⟨k + 1, by have := HK.out; omega, by go_num, by rw [upTo_succ]; exact HO1.out, HB1.out⟩
   · obtain rfl : k = n := by omega
     have HO := Lib.hid ho; clear ho
     have HB := Lib.hid hB; clear hB
     go_wp2_with (at_builtin; refine app0 _ rfl _ _ rfl w.heap.size _ (upTo k) rfl HO.out rfl ?_)
     obtain ⟨a, c, hv, hi⟩ := HO.out.ints (by rw [upTo_length]; omega) (by intro x hx; simp [upTo] at hx; omega)
     go_ret
     rw [upTo_length] at hv hi
     exact ⟨a, c, by rw [← hv]; rfl, hi, HB.out⟩
end Go.Proofs.YtkddkkcfpnndlaaGreatDoor

namespace Go.Proofs.YtkddkkcfpnndlaaGreatDoor
open Go.RowKit

theorem bit_and (who i : Nat) (hw : who < 256) (hi : i < 8) : bits BinOp.and IntKind.i64 ((who : Int) / 2 ^ i) 1 = if who.testBit i then 1 else 0 := by
 have h : ∀ who : Fin 256, ∀ i : Fin 8, bits BinOp.and IntKind.i64 ((who.val : Int) / 2 ^ i.val) 1 = if who.val.testBit i.val then 1 else 0 := by decide +kernel
 exact h ⟨who, hw⟩ ⟨i, hi⟩
theorem bit_pow (i : Nat) (hi : i < 8) : wrap64 ((2 : Int) ^ i) = ((2 ^ i : Nat) : Int) := by
 have h : ∀ i : Fin 8, wrap64 ((2 : Int) ^ i.val) = ((2 ^ i.val : Nat) : Int) := by decide +kernel
 exact h ⟨i, hi⟩
theorem bit_pow' (i : Nat) (hi : i < 8) : IntKind.i64.wrap ((2 : Int) ^ i) = ((2 ^ i : Nat) : Int) := by
 have h : ∀ i : Fin 8, IntKind.i64.wrap ((2 : Int) ^ i.val) = ((2 ^ i.val : Nat) : Int) := by decide +kernel
 exact h ⟨i, hi⟩
theorem bit_less (who i : Nat) (hw : who < 256) (hi : i < 8) (hb : who.testBit i = true) : bits BinOp.andNot IntKind.i64 (who : Int) ((2 ^ i : Nat) : Int) = ((who - 2 ^ i : Nat) : Int) := by
 have h : ∀ who : Fin 256, ∀ i : Fin 8, who.val.testBit i.val = true → bits BinOp.andNot IntKind.i64 (who.val : Int) ((2 ^ i.val : Nat) : Int) = ((who.val - 2 ^ i.val : Nat) : Int) := by decide +kernel
 exact h ⟨who, hw⟩ ⟨i, hi⟩ hb
theorem bit_less_test (who i r : Nat) (hw : who < 256) (hi : i < 8) (hr : r < 8) (hb : who.testBit i = true) : (who - 2 ^ i).testBit r = (who.testBit r && r != i) := by
 have h : ∀ who : Fin 256, ∀ i : Fin 8, who.val.testBit i.val = true → ∀ r : Fin 8, (who.val - 2 ^ i.val).testBit r.val = (who.val.testBit r.val && r.val != i.val) := by decide +kernel
 exact h ⟨who, hw⟩ ⟨i, hi⟩ hb ⟨r, hr⟩
theorem bit_or (who i : Nat) (hw : who < 256) (hi : i < 8) : bits BinOp.or IntKind.i64 (who : Int) ((2 ^ i : Nat) : Int) = ((who ||| 2 ^ i : Nat) : Int) := by
 have h : ∀ who : Fin 256, ∀ i : Fin 8, bits BinOp.or IntKind.i64 (who.val : Int) ((2 ^ i.val : Nat) : Int) = ((who.val ||| 2 ^ i.val : Nat) : Int) := by decide +kernel
 exact h ⟨who, hw⟩ ⟨i, hi⟩
end Go.Proofs.YtkddkkcfpnndlaaGreatDoor

namespace Go.Proofs.YtkddkkcfpnndlaaGreatDoor
open Go.RowKit Sale

theorem info256 : (Tryz.prog.info? 100).map (·.size) = some 256 := by kernel_rfl
def gi (gains : List (List Int)) (i k : Nat) : Int := ((gains[i]?.getD [])[k]?).getD (-1)
theorem gi_at {gains : List (List Int)} {i k : Nat} {l : List Int} {x : Int} (h : gains[i]? = some l) (hx : l[k]? = some x) : gi gains i k = x := by simp [gi, h, hx]

def bitsOf (j : Nat) : Nat → Bool := fun i => j.testBit i
def tabOf (gains : List (List Int)) (ks : List Nat) (j : Nat) : Int := if j < 2 ^ gains.length then opt (Sale.flip (gi gains)) gains.length ks (bitsOf j) else 0
def tab (f : Nat → Int) : List Int := (List.range 256).map f
theorem tab_get (f : Nat → Int) {k : Nat} (h : k < 256) : (tab f)[k]? = some (f k) := by simp [tab, h]
theorem tab_set (f : Nat → Int) (k : Nat) (v : Int) : (tab f).set k v = tab (fun j => if j = k then v else f j) := by
 apply List.ext_getElem?
 intro j
 rw [List.getElem?_set]
 by_cases hj : j < 256
 · rw [tab_get _ hj, tab_get _ hj]
   by_cases e : k = j
   · subst e; simp [tab, hj]
   · simp [e, Ne.symm e]
 · rw [List.getElem?_eq_none (l := tab f) (by simp [tab]; omega), List.getElem?_eq_none (l := tab _) (by simp [tab]; omega)]
   simp [tab]; omega
theorem tab_congr {f f' : Nat → Int} (h : ∀ j, j < 256 → f j = f' j) : tab f = tab f' := by
 unfold tab; exact List.map_congr_left fun j hj => h j (List.mem_range.1 hj)

def partOf (gains : List (List Int)) (k : Nat) (ks : List Nat) (who i : Nat) : Int :=
 foldMax (fun r => bitsOf who r && decide (0 ≤ gi gains r k)) (fun r => gi gains r k + opt (Sale.flip (gi gains)) gains.length ks (less (bitsOf who) r)) (opt (Sale.flip (gi gains)) gains.length ks (bitsOf who)) (List.range i)

theorem part_zero (gains : List (List Int)) (k : Nat) (ks : List Nat) (who : Nat) : partOf gains k ks who 0 = opt (Sale.flip (gi gains)) gains.length ks (bitsOf who) := rfl
theorem part_full (gains : List (List Int)) (k : Nat) (ks : List Nat) (who : Nat) : partOf gains k ks who gains.length = opt (Sale.flip (gi gains)) gains.length (k :: ks) (bitsOf who) := rfl
theorem part_no {gains : List (List Int)} {k : Nat} {ks : List Nat} {who i : Nat} (h : who.testBit i = false ∨ gi gains i k < 0) : partOf gains k ks who (i + 1) = partOf gains k ks who i := by
 unfold partOf
 rw [List.range_succ, foldMax_snoc, if_neg]
 simp only [bitsOf, Bool.and_eq_true, decide_eq_true_eq, not_and]
 rcases h with h | h
 · rw [h]; intro e; cases e
 · intro _; omega
theorem part_yes {gains : List (List Int)} {k : Nat} {ks : List Nat} {who i : Nat} (h : who.testBit i = true) (h0 : 0 ≤ gi gains i k) :
   partOf gains k ks who (i + 1) = max (partOf gains k ks who i) (gi gains i k + opt (Sale.flip (gi gains)) gains.length ks (less (bitsOf who) i)) := by
 unfold partOf
 rw [List.range_succ, foldMax_snoc, if_pos]
 simp [bitsOf, h, h0]
theorem gi_le {gains : List (List Int)} (hbd : ∀ l, l ∈ gains → ∀ x, x ∈ l → -1000000 ≤ x ∧ x ≤ 1000000) (i k : Nat) : gi gains i k ≤ 1000000 := by
 unfold gi
 cases h : gains[i]? with
 | none => simp
 | some l =>
   cases h2 : l[k]? with
   | none => simp [h2]
   | some x => have := (hbd l (List.mem_of_getElem? h) x (List.mem_of_getElem? h2)).2; simpa [h2] using this
theorem tabOf_bd {gains : List (List Int)} (hbd : ∀ l, l ∈ gains → ∀ x, x ∈ l → -1000000 ≤ x ∧ x ≤ 1000000) (ks : List Nat) (j : Nat) : 0 ≤ tabOf gains ks j ∧ tabOf gains ks j ≤ 1000000 * ks.length := by
 unfold tabOf
 split
 · exact ⟨opt_nonneg _ _ _ _, opt_le (by omega) _ _ fun l _ r _ => gi_le hbd r l⟩
 · omega
theorem tabOf_less {gains : List (List Int)} {ks : List Nat} {who i : Nat} (hm : gains.length ≤ 8) (hw : who < 2 ^ gains.length) (hi : i < gains.length) (hb : who.testBit i = true) :
   tabOf gains ks (who - 2 ^ i) = opt (Sale.flip (gi gains)) gains.length ks (less (bitsOf who) i) := by
 have h256 : who < 256 := Nat.lt_of_lt_of_le hw (Nat.pow_le_pow_right (n := 2) (by omega) hm)
 unfold tabOf
 rw [if_pos (Nat.lt_of_le_of_lt (Nat.sub_le _ _) hw)]
 exact opt_congr ks (fun _ _ _ _ => rfl) fun r hr => bit_less_test who i r h256 (by omega) (by omega) hb

def midOf (gains : List (List Int)) (k : Nat) (ks : List Nat) (who j : Nat) : Int := if j < who then tabOf gains (k :: ks) j else tabOf gains ks j
def innOf (gains : List (List Int)) (k : Nat) (ks : List Nat) (who i j : Nat) : Int := if j = who then partOf gains k ks who i else midOf gains k ks who j

set_option maxHeartbeats 400000 in
set_option maxRecDepth 100000 in
theorem best_any (ga ia : Option Addr) (gn gc n ic : Nat) (gains : List (List Int)) (kn : List Nat) (items : Nat) (w : World) (hg : Rows w ga gn gc gains) (hi : Ints w ia n ic (kn.map fun k : Nat => (k : Int)))
   (hm : gn ≤ 8) (hlen : ∀ l, l ∈ gains → l.length = items) (hk : ∀ k, k ∈ kn → k < items) (hbd : ∀ l, l ∈ gains → ∀ x, x ∈ l → -1000000 ≤ x ∧ x ≤ 1000000) (hn : n ≤ 9) :
   Calls Tryz.prog 123 #[.slice ga gn gc, .slice ia n ic] w fun e w' => e = .returned (.int .i64 (mostOf 0 (tab (tabOf gains kn.reverse)))) ∧ Below w.heap.size w w' := by
 obtain ⟨N, hN⟩ : ∃ N : Nat, N = 2 ^ gn := ⟨_, rfl⟩
 have hN8 : N ≤ 256 := by rw [hN]; exact Nat.pow_le_pow_right (n := 2) (by omega) hm
 have hsh : wrap64 ((2 : Int) ^ gn) = (N : Int) := by
   have e : ((2 : Int) ^ gn) = ((2 ^ gn : Nat) : Int) := by simp
   rw [e, ← hN]; unfold wrap64; omega
 have hsh2 : IntKind.i64.wrap ((2 : Int) ^ gn) = (N : Int) := by
   have e : ((2 : Int) ^ gn) = ((2 ^ gn : Nat) : Int) := by simp
   rw [e, ← hN]; exact IntWalk.i64_in _ (by omega)
 have HN := Lib.hid hN; clear hN
 have hz : Tryz.zeroCells100 = iarr (tab fun _ => 0) := by kernel_rfl
 go_enter Tryz.func123, Tryz.ntmps123
 go_wp2_with fail

 go_loopg [14] n (fun g s14 wr => ∃ t : Nat, t + g = n ∧ s14 = .int .i64 t ∧ Row wr w.heap.size 100 (tab (tabOf gains (kn.take t).reverse)) ∧ Below w.heap.size w wr)
 case atStart => exact ⟨0, by omega, rfl, by rw [show tab (tabOf gains (kn.take 0).reverse) = tab (fun _ => 0) from tab_congr fun j _ => by simp [tabOf, opt]]; exact Row.new _ _ _, (Below.refl _ _).alloc (Nat.le_refl _) _⟩
 case round =>
   obtain ⟨t, ht, rfl, hR, hB⟩ := hrel
   by_cases hlt : t < n
   · obtain ⟨k, hkt⟩ : ∃ k, kn[t]? = some k := ⟨kn[t]'(by have := hi.len; simp at this; omega), by simp⟩
     have hki : k < items := hk k (List.mem_of_getElem? hkt)
     obtain ⟨b, o, rfl⟩ := hi.addr (by omega)
     have hc := (hi.below hB (Nat.le_refl _)).cell b o rfl t k (by simp [hkt])
     have hsz : (iarr (tab (tabOf gains (kn.take t).reverse))).size = 256 := by simp [iarr_size, tab]
     generalize hks : (kn.take t).reverse = ks at *
     have hkl : ks.length ≤ 9 := by rw [← hks]; simp; omega
     have HKL := Lib.hid hkl; clear hkl
     have HGL := Lib.hid hg.len
     have HKS := Lib.hid hks; clear hks
     have HKT := Lib.hid hkt; clear hkt
     have HT := Lib.hid ht; clear ht
     have HI := Lib.hid hi; clear hi
     have HG := Lib.hid hg; clear hg
     have HR := Lib.hid hR; clear hR
     have HB := Lib.hid hB; clear hB
     have HS2 := Lib.hid (show (iarr (tab fun _ => 0)).size = (iarr (tab (tabOf gains ks))).size from by rw [hsz, iarr_size]; simp [tab])
     have HS := Lib.hid (show (Tryz.prog.info? 100).map (·.size) = some (iarr (tab (tabOf gains ks))).size from by rw [hsz]; exact info256)
     clear hsz
     have HLEN := Lib.hid hlen; clear hlen
     have HKK := Lib.hid hk; clear hk
     have HBD := Lib.hid hbd; clear hbd
     go_upto_region 5 with (fail)
     go_step
     refine wpList_load_row rfl 100 _ rfl w.heap.size rfl 100 (iarr (tab (tabOf gains ks))) (0, 0) _ HR.out Tryz.underlying100 rfl HS.out ?_
     go_step
     go_step
     go_step
     refine wpList_store_new wr rfl 100 _ _ rfl (iarr (tab fun _ => 0)) (iarr (tab (tabOf gains ks))) rfl rfl HS.out HS2.out (iarr_oneCell _) ?_
     obtain ⟨w1, rfl⟩ : ∃ w1 : World, w1 = wr := ⟨_, rfl⟩
     obtain ⟨gt, rfl⟩ : ∃ gt : Nat, gt = gk := ⟨_, rfl⟩
     go_wp2_with fail
     go_loopg [22] N (fun g s22 wr => ∃ who : Nat, who + g = N ∧ s22 = .int .i64 who ∧ Row wr w.heap.size 100 (tab (midOf gains k ks who)) ∧ Row wr w1.heap.size 100 (tab (tabOf gains ks)) ∧ Below w.heap.size w wr)
     case atStart =>
       exact ⟨0, by omega, rfl, by rw [show midOf gains k ks 0 = tabOf gains ks from funext fun j => by simp [midOf]]; exact HR.out.alloc _, Row.new _ _ _, HB.out.alloc HB.out.size _⟩
     case round =>
       obtain ⟨who, hw, rfl, hR1, hR2, hB1⟩ := hrel
       by_cases hlw : who < N
       · have HW := Lib.hid hw; clear hw
         have HR1 := Lib.hid hR1; clear hR1
         have HR2 := Lib.hid hR2; clear hR2
         have HB1 := Lib.hid hB1; clear hB1
         go_wp2_with fail
         obtain ⟨w2, rfl⟩ : ∃ w2 : World, w2 = wr := ⟨_, rfl⟩
         obtain ⟨gw, rfl⟩ : ∃ gw : Nat, gw = gk := ⟨_, rfl⟩
         go_loopg [27] gn (fun g s27 wr => ∃ i : Nat, i + g = gn ∧ s27 = .int .i64 i ∧ Row wr w.heap.size 100 (tab (innOf gains k ks who i)) ∧ Row wr w1.heap.size 100 (tab (tabOf gains ks)) ∧ Below w.heap.size w wr)
         case atStart =>
           refine ⟨0, by omega, rfl, ?_, HR2.out, HB1.out⟩
           rw [show tab (innOf gains k ks who 0) = tab (midOf gains k ks who) from tab_congr fun j _ => ?_]
           · exact HR1.out
           · unfold innOf
             split
             · rename_i e; subst e
               rw [part_zero, midOf, if_neg (by omega), tabOf, if_pos (by rw [HGL.out, ← HN.out]; exact hlw)]
             · rfl
         case round =>
           obtain ⟨i, hi, rfl, hR3, hR4, hB3⟩ := hrel
           by_cases hli : i < gn
           · obtain ⟨l, hl⟩ := HG.out.get hli
             obtain ⟨bg, og, rfl⟩ := HG.out.addr (by omega)
             obtain ⟨la, ln, lc, hcl, hli2⟩ := (HG.out.below hB3 (Nat.le_refl _)).cell bg og rfl i l hl
             have hlen := HLEN.out l (List.mem_of_getElem? hl)
             have hln := hli2.len
             obtain ⟨x, hx, _⟩ := hli2.get (k := k) (by omega)
             obtain ⟨lb, lo, rfl⟩ := hli2.addr (by omega)
             have hcx := hli2.cell lb lo rfl k x hx
             have hkl : k < ln := by omega
             clear hlen hln
             have HL2 := Lib.hid hli2; clear hli2
             have HL := Lib.hid hl; clear hl
             have HX := Lib.hid hx; clear hx
             have HI2 := Lib.hid hi; clear hi
             have HR3 := Lib.hid hR3; clear hR3
             have HR4 := Lib.hid hR4; clear hR4
             have HB3 := Lib.hid hB3; clear hB3
             have hw8 : who < 256 := by omega
             have hi8 : i < 8 := by omega
             have hpw := bit_pow i hi8
             have hba := bit_and who i hw8 hi8
             cases hbit : who.testBit i with
             | false =>
               rw [hbit] at hba
               have HBIT := Lib.hid hbit; clear hbit
               rw [if_neg (by decide)] at hba
               go_wp2_with fail
               go_roundg (gk - 1)
               case measure => have := HI2.out; omega
               case rel =>
                 refine ⟨i + 1, by have := HI2.out; omega, by go_num, ?_, HR4.out, HB3.out⟩
                 rw [show innOf gains k ks who (i + 1) = innOf gains k ks who i from funext fun j => by unfold innOf; rw [part_no (.inl HBIT.out)]]
                 exact HR3.out
             | true =>
               rw [hbit, if_pos rfl] at hba
               have HBIT := Lib.hid hbit
               have hless := bit_less who i hw8 hi8 hbit
               clear hbit
               obtain ⟨q, hq⟩ : ∃ q, q = who - 2 ^ i := ⟨_, rfl⟩
               rw [← hq] at hless
               obtain ⟨pw, hpw2⟩ : ∃ pw : Nat, pw = 2 ^ i := ⟨_, rfl⟩
               rw [← hpw2] at hless hpw
               have HPW := Lib.hid hpw2; clear hpw2
               have hq8 : q < 256 := by rw [hq]; exact Nat.lt_of_le_of_lt (Nat.sub_le _ _) hw8
               have HQ := Lib.hid hq; clear hq
               by_cases hx0 : x < 0
               · go_wp2_with fail
                 go_roundg (gk - 1)
                 case measure => have := HI2.out; omega
                 case rel =>
                   refine ⟨i + 1, by have := HI2.out; omega, by go_num, ?_, HR4.out, HB3.out⟩
                   rw [show innOf gains k ks who (i + 1) = innOf gains k ks who i from funext fun j => by unfold innOf; rw [part_no (.inr (by rw [gi_at HL.out HX.out]; exact hx0))]]
                   exact HR3.out
               · have hp0 : innOf gains k ks who i who = partOf gains k ks who i := by simp [innOf]
                 obtain ⟨p, hp⟩ : ∃ p, p = partOf gains k ks who i := ⟨_, rfl⟩
                 obtain ⟨y, hy⟩ : ∃ y, y = tabOf gains ks q := ⟨_, rfl⟩
                 have hc1 := HR3.out.cell (tab_get (innOf gains k ks who i) hw8)
                 rw [hp0, ← hp] at hc1
                 have hc2 := HR4.out.cell (tab_get (tabOf gains ks) hq8)
                 rw [← hy] at hc2
                 have hf1 := HR3.out.frozen who
                 clear hp0
                 have hyb : 0 ≤ y ∧ y ≤ 9000000 := by have := tabOf_bd HBD.out ks q; have := HKL.out; rw [hy]; omega
                 have hxb : x ≤ 1000000 := (HBD.out l (List.mem_of_getElem? HL.out) x (List.mem_of_getElem? HX.out)).2
                 have HP := Lib.hid hp; clear hp
                 have HY := Lib.hid hy; clear hy
                 have hpw3 : IntKind.i64.wrap ((2 : Int) ^ i) = (pw : Int) := by rw [HPW.out]; exact bit_pow' i hi8
                 have hyx : IntKind.i64.wrap (y + x) = y + x := IntWalk.i64_in _ (by omega)
                 have z1 := HR3.out.lt
                 have z2 := HR4.out.lt
                 have i1 : (who : Int) < 256 := by omega
                 have i2 : (q : Int) < 256 := by omega
                 have i3 : (k : Int) < (ln : Int) := by omega
                 go_wp2_with fail
                 go_region_law (first | (go_simp; go_at_call 165; refine (most_any p _ 1 1 [y + x] _ (Ints.one _ (by omega)).drew).mono ?_; rintro e w' ⟨rfl, rfl⟩))
                 all_goals (go_wp2_with fail)
                 all_goals (go_roundg (gk - 1))
                 all_goals first | (have := HI2.out; omega) | skip
                 all_goals
                   refine ⟨i + 1, by have := HI2.out; omega, by go_num, ?_, ((HR4.out.other (by show w1.heap.size ≠ w.heap.size; have := HR.out.lt; omega) _).alloc _).drew, ((HB3.out.setCell (by simp) _).alloc (by simp; have := HB3.out.size; omega) _).drew⟩
                   have hset := HR3.out.set who (mostOf p [y + x])
                   rw [tab_set] at hset
                   rw [show tab (innOf gains k ks who (i + 1)) = tab (fun j => if j = who then mostOf p [y + x] else innOf gains k ks who i j) from tab_congr fun j _ => ?_]
                   · exact (hset.alloc _).drew
                   · unfold innOf
                     split
                     · rw [part_yes HBIT.out (by rw [gi_at HL.out HX.out]; omega), gi_at HL.out HX.out, ← tabOf_less (by rw [HGL.out]; exact hm) (by rw [HGL.out, ← HN.out]; exact hlw) (by rw [HGL.out]; exact hli) HBIT.out, ← HQ.out, ← HY.out, ← HP.out]
                       simp [mostOf]; omega
                     · rfl
           · obtain rfl : i = gn := by omega
             have HR3 := Lib.hid hR3; clear hR3
             have HR4 := Lib.hid hR4; clear hR4
             have HB3 := Lib.hid hB3; clear hB3
             go_wp2_with fail
             go_roundg (gw - 1)
             case measure => have := HW.out; omega
             case rel =>
               refine ⟨who + 1, by have := HW.out; omega, by go_num, ?_, HR4.out, HB3.out⟩
               rw [show tab (midOf gains k ks (who + 1)) = tab (innOf gains k ks who i) from tab_congr fun j _ => ?_]
               · exact HR3.out
               · unfold innOf
                 split
                 · rename_i e; subst e
                   rw [midOf, if_pos (by omega), ← HGL.out, part_full, tabOf, if_pos (by rw [HGL.out, ← HN.out]; exact hlw)]
                 · rename_i e
                   unfold midOf
                   by_cases h1 : j < who
                   · rw [if_pos (by omega), if_pos h1]
                   · rw [if_neg (by omega), if_neg h1]
       · obtain rfl : who = N := by omega
         have HR1 := Lib.hid hR1; clear hR1
         have HR2 := Lib.hid hR2; clear hR2
         have HB1 := Lib.hid hB1; clear hB1
         go_wp2_with fail
         go_roundg (gt - 1)
         case measure => have := HT.out; omega
         case rel =>
           refine ⟨t + 1, by have := HT.out; omega, by go_num, ?_, HB1.out⟩
           have e1 : (kn.take (t + 1)).reverse = k :: ks := by rw [List.take_add_one, HKT.out, List.reverse_append, HKS.out]; rfl
           rw [e1, show tab (tabOf gains (k :: ks)) = tab (midOf gains k ks who) from tab_congr fun j _ => ?_]
           · exact HR1.out
           · unfold midOf
             split
             · rfl
             · rw [tabOf, tabOf, if_neg (by rw [HGL.out, ← HN.out]; omega), if_neg (by rw [HGL.out, ← HN.out]; omega)]
   · obtain rfl : t = n := by omega
     have hl := hi.len
     have e1 : (kn.take t).reverse = kn.reverse := by rw [List.take_of_length_le (by simp at hl; omega)]
     rw [e1] at hR
     have hints := hR.ints (by simp [tab]) (fun x hx => by
       obtain ⟨j, _, rfl⟩ := List.mem_map.1 hx
       have := tabOf_bd hbd kn.reverse j
       simp at hl this; omega)
     rw [show (tab (tabOf gains kn.reverse)).length = 256 by simp [tab]] at hints
     have HINTS := Lib.hid hints; clear hints
     have HB := Lib.hid hB; clear hB
     clear hR hi hg hl e1 hlen hk hbd
     go_wp2_with fail
     refine (most_any 0 _ 256 256 (tab (tabOf gains kn.reverse)) wr HINTS.out).mono ?_
     rintro e w1 ⟨rfl, rfl⟩
     go_wp2_with fail
     go_ret
     exact ⟨rfl, HB.out⟩
end Go.Proofs.YtkddkkcfpnndlaaGreatDoor
