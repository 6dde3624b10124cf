/- Walks: slices.Values, AppendSeq, Collect, Sorted at ints: what a slice holds, in new memory, sorted. -/
import Derived.Test.YtkddkkcfpnndlaaGreatDoorOq03
import Derived.Test.YtkddkkcfpnndlaaGreatDoorShelf
import Derived.RangeFuncNested
import Derived.RangeFuncBound
import Derived.RangeFuncCalls
import Derived.RangeFuncLeaves
import Derived.RangeFuncBox
import Derived.Shelf.Abstract
import Derived.Shelf.RegionOpen
import Derived.Maps.AppendAt
import Derived.OwnWalkIn
import Derived.TacticsInMore
import Derived.LoopNIn
import Derived.LoopIn
import Derived.Sort.OwnSortedInts
namespace Go.Proofs.YtkddkkcfpnndlaaGreatDoor
open Go.RowKit Go.Shelf

attribute [local go_sem] Oper.semAt_some

set_option maxRecDepth 100000 in
set_option maxHeartbeats 2000000 in
theorem values1_in (l Bs n₀ : Nat) (a : Option Addr) (len cap : Nat) (zs : List Int) (J Jx : List Int → World → Prop)
   (hY : ∀ pre x W, J pre W → pre.length < len → YieldAt Fence.wide 8 Tryz.prog l #[.int .i64 x] W fun e W' =>
     (e = .returned (.bool true) ∧ J (pre ++ [x]) W' ∧ Below n₀ W W') ∨ (e = .returned (.bool false) ∧ Jx (pre ++ [x]) W'))
   (W w0 : World) (hBs : W.cell? ⟨Bs, 0, none⟩ = some (.slice a len cap)) (hI : Ints w0 a len cap zs) (hz : w0.heap.size ≤ n₀) (hb0 : Below w0.heap.size w0 W) (h0 : J [] W) :
   CallsIn Fence.wide 9 Tryz.prog 167 #[.func (.yield l) #[] #[], .pointer (some ⟨Bs, 0, none⟩)] W fun e W' => (∃ v, e = .returned v) ∧
     ((∃ ys, ys = zs ∧ J ys W') ∨ (∃ pre, pre <+: zs ∧ Jx pre W')) := by
 have hlen := hI.len
 have hbig := hI.big
 refine callsIn_of_wp Tryz.func167 rfl trivial ?_ rfl
 simp only [Tryz.ntmps167, List.size_toArray, List.length_cons, List.length_nil, Nat.reduceAdd, Nat.reduceSub, Array.replicate_succ, Array.replicate_zero, List.push_toArray, List.append_toArray, List.nil_append, List.cons_append]
 have HI := Lib.hid hI; clear hI
 have HL := Lib.hid hlen; clear hlen
 gi_wp2
 gi_loopw [7] (fun i wr => ∃ k : Nat, k ≤ len ∧ i = .int .i64 k ∧ J (zs.take k) wr ∧ Below n₀ W wr)
   (fun i _ => len - (intOf i).toNat)
 case atStart => exact ⟨0, Nat.zero_le _, rfl, h0, Below.refl _ _⟩
 case round =>
   obtain ⟨k, hk, rfl, hJs, hnx⟩ := hrel
   by_cases hlt : k < len
   · obtain ⟨x, hx, _⟩ := HI.out.get hlt
     obtain ⟨b, o, rfl⟩ := HI.out.addr (by omega)
     have hcx := (HI.out.below (hb0.trans (hnx.mono hz)) (Nat.le_refl _)).cell b o rfl k x hx
     obtain ⟨fn, tmps, assign, body, hy, hR⟩ := hY _ x wr hJs (by rw [List.length_take, HL.out]; omega)
     have HX := Lib.hid hx; clear hx
     gi_wp2
     refine hR.mono ?_
     rintro e W3 (⟨rfl, hJ3, hk3⟩ | ⟨rfl, hJx3⟩)
     · gi_wp2
       go_roundw
       case rel => exact ⟨k + 1, by omega, by simp, by rw [List.take_add_one, HX.out]; exact hJ3, hnx.trans hk3⟩
       case measure => simp [intOf]; omega
     · gi_wp2
       refine bodyPost_ret (results_none rfl _ _ _) rfl ?_
       refine ⟨⟨_, rfl⟩, .inr ⟨_, ?_, hJx3⟩⟩
       have : zs.take (k + 1) = zs.take k ++ [x] := by rw [List.take_add_one, HX.out]; rfl
       rw [← this]; exact List.take_prefix _ _
   · obtain rfl : k = len := by omega
     gi_wp2
     go_end0
     exact ⟨⟨_, rfl⟩, .inl ⟨_, List.take_of_length_le (by rw [HL.out]; exact Nat.le_refl _), hJs⟩⟩

theorem values_stops (Bs n₀ : Nat) (a : Option Addr) (len cap : Nat) (zs : List Int) (w w0 : World) (hBs : Bs < w.heap.size) (hn₀ : n₀ ≤ w.heap.size)
   (hc : w.cell? ⟨Bs, 0, none⟩ = some (.slice a len cap)) (hI : Ints w0 a len cap zs) (hz : w0.heap.size ≤ n₀) (hb0 : Below w0.heap.size w0 w) :
   SeqStopsK Fence.wide 9 Tryz.prog 167 #[.pointer (some ⟨Bs, 0, none⟩)] (fun x : Int => #[Value.int .i64 x]) (Below n₀) (fun ys => ys = zs) (fun pre => pre <+: zs) len w := fun l J Jx W hW _ _ hY h0 =>
 values1_in l Bs n₀ a len cap zs J Jx hY W w0 ((hW.cell (p := ⟨Bs, 0, none⟩) hBs).trans hc) hI hz (hb0.trans (hW.mono (Nat.le_trans hz hn₀))) h0

set_option maxRecDepth 100000 in
set_option maxHeartbeats 2000000 in
theorem appendSeq_in (Bs : Nat) (a : Option Addr) (len cap : Nat) (zs : List Int) (w w0 : World) (hBs : Bs < w.heap.size)
   (hc : w.cell? ⟨Bs, 0, none⟩ = some (.slice a len cap)) (hI : Ints w0 a len cap zs) (hz : w0.heap.size ≤ w.heap.size) (hb0 : Below w0.heap.size w0 w) (hsz : len < 17592186044000) :
   CallsIn Fence.wide 10 Tryz.prog 192 #[.slice none 0 0, .func (.func 167) #[] #[.pointer (some ⟨Bs, 0, none⟩)]] w fun e W' => ∃ v, e = .returned v ∧ Own W' w.heap.size v zs ∧ Below w.heap.size w W' := by
 obtain ⟨i0, hi, hz0, hz1, hz2⟩ := info_parts infoInt
 refine callsIn_of_wp_marks Tryz.func192 rfl trivial ?_ rfl
 simp only [Tryz.ntmps192, List.size_toArray, List.length_cons, List.length_nil, Nat.reduceAdd, Nat.reduceSub, Array.replicate_succ, Array.replicate_zero, List.push_toArray, List.append_toArray, List.nil_append, List.cons_append]
 gi_wp2
 have bO := Boxed.new w 25 (.slice none 0 0)
 have hB0 : Below w.heap.size w (w.alloc (.cells #[.slice none 0 0] 25)) := (Below.refl _ w).alloc (Nat.le_refl _) _
 refine wpIn_rangeFunc_ownG rfl (by omega) (gf := 167) (lb := #[.pointer (some ⟨Bs, 0, none⟩)]) rfl trivial (enters_of Tryz.func167 (by kernel_rfl) rfl)
   (values_stops Bs w.heap.size a len cap zs _ w0 (by simp; omega) (by simp) ((hB0.cell (p := ⟨Bs, 0, none⟩) hBs).trans hc) hI hz (hb0.trans (hB0.mono hz))) belowK_t (belowK_b (by simp)) (Below.refl _ _) (fun _ => rfl)
   (fun pre W => (∃ v, Boxed W w.heap.size 25 v ∧ W.ownsRow w.heap.size 3 1 v pre.length (pre.map (Value.int .i64)) ∧ (v = .slice none 0 0 ↔ pre = [])) ∧ Below w.heap.size w W)
   (fun _ _ _ => False)
   (OwnFrom.and (Own.from (holdsRow_own w.heap.size w.heap.size 25 3 1 (fun pre => pre.length) (fun pre => pre.map (Value.int .i64)) (fun pre v => v = .slice none 0 0 ↔ pre = [])) _) (ownFrom_below (Nat.le_refl _) (by simp)))
   (fun _ _ _ _ _ hs _ _ => hs)
   ⟨⟨_, bO, World.ownsRow_nil _ _ _ _, by simp⟩, hB0⟩
   (fun x => { tmps := #[.slice none 0 0, .func (.func 167) #[] #[.pointer (some ⟨Bs, 0, none⟩)], .pointer (some ⟨w.heap.size, 0, none⟩), undef, .slice none 0 0, .int .i64 x, .func (.func 167) #[] #[.pointer (some ⟨Bs, 0, none⟩)], .int .i64 x, undef, undef, undef, undef, undef], defers := [] }) ?assign ?body ?done ?stop
 case assign =>
   intro l x W K hK
   gi_wp2
   exact hK
 case body =>
   rintro l pre x W ⟨⟨v, hv, hrow, hnil⟩, hB⟩ hlt
   have hcv := hv.cell
   gi_wp2_with (gi_at_builtin; refine wpListIn_append_own _ rfl _ _ 25 rfl w.heap.size 3 i0 (.int .i64 0) 1 8 Tryz.underlying25 hi hz0 hz1 hz2 rfl (by decide) _ _ _ rfl (hrow.alloc _) ⟨W.heap.size, 0, none⟩ 1 1 [.int .i64 x] rfl rfl (cell_one_new _ _ _) (by simp [Value.oneCell']) (by unfold maxLen; omega) (by omega) (by have := hB.size; simp; omega) ?_; intro v' w1 hown' hgrow _; obtain ⟨g', cap', rfl⟩ := ownsRow_succ hown'; obtain ⟨hv1, hv2, hr2, hk2, hb2⟩ := hv.appended (by decide) hrow hB.size (Nat.le_refl _) hown' hgrow; have hc1 := hv1.cell; have hf1 := hv1.frozen)
   exact ⟨hk2.from _, hb2, ⟨_, hv2, by simpa using hr2, by simp⟩, hB.trans hb2⟩
 case done =>
   rintro D ys W hD rfl ⟨⟨v, hv, hrow, hnil⟩, hB⟩ hK
   have hcv := hv.cell
   gi_wp2
   refine ⟨by simp, .inl ⟨_, _, rfl, run_takeDeferred hK, ?_⟩⟩
   exact ⟨_, results_tmp rfl _ _ _, v, rfl, ownsRow_putObj hrow _ hK rfl, hB.trans (belowK_b (w := w) (Nat.le_refl _) W D _ _ (by simp at hD; omega) hK rfl rfl)⟩
 case stop =>
   rintro D c pre W _ _ h _
   exact h.elim

theorem collect_any (Bs : Nat) (a : Option Addr) (len cap : Nat) (zs : List Int) (w w0 : World) (hBs : Bs < w.heap.size)
   (hc : w.cell? ⟨Bs, 0, none⟩ = some (.slice a len cap)) (hI : Ints w0 a len cap zs) (hz : w0.heap.size ≤ w.heap.size) (hb0 : Below w0.heap.size w0 w) (hsz : len < 17592186044000) :
   Calls Tryz.prog 166 #[.func (.func 167) #[] #[.pointer (some ⟨Bs, 0, none⟩)]] w fun e W' => ∃ v, e = .returned v ∧ Own W' w.heap.size v zs ∧ Below w.heap.size w W' := by
 go_enter Tryz.func166, Tryz.ntmps166
 go_wp2_with fail
 refine (callsIn_wide.1 (appendSeq_in Bs a len cap zs w w0 hBs hc hI hz hb0 hsz)).mono ?_
 rintro e w1 ⟨v, rfl, ho, hb⟩
 have HO := Lib.hid ho; clear ho
 have HB := Lib.hid hb; clear hb
 clear hc hI hb0
 go_wp2_with fail
 go_ret
 exact ⟨v, rfl, HO.out, HB.out⟩

def sorted (zs : List Int) : List Int := zs.mergeSort fun x y => decide (x ≤ y)
theorem sorted_length (zs : List Int) : (sorted zs).length = zs.length := List.length_mergeSort _
theorem sorted_perm (zs : List Int) : (sorted zs).Perm zs := List.mergeSort_perm _ _
theorem sorted_pair (zs : List Int) : (sorted zs).Pairwise (· ≤ ·) := by
 have h := List.pairwise_mergeSort (le := fun x y : Int => decide (x ≤ y)) (fun a b c h1 h2 => by simp at *; omega) (fun a b => by simp; omega) zs
 exact h.imp fun h => by simpa using h

theorem sortOwn (v : Value) (zs : List Int) (base : Nat) (w : World) (ho : Own w base v zs) (hbase : base ≤ w.heap.size) (hsz : zs.length < 4611686018427387904) :
   Calls Tryz.prog 97 #[v] w fun e w' => e = .returned (.tuple #[]) ∧ Own w' base v (sorted zs) ∧ Below base w w' := by
 obtain ⟨h1, h2⟩ := ho
 rcases h2 with ⟨rfl, hn⟩ | ⟨g, cap, cur, rfl, hg, hh, hc, hm, hs, ht⟩
 · obtain rfl : zs = [] := List.eq_nil_of_length_eq_zero hn
   refine (Tryz.slices_Sort_int_none none 0 w).mono ?_
   rintro e w' ⟨rfl, rfl⟩
   exact ⟨rfl, (by rw [show sorted [] = [] by simp [sorted]]; exact Own.nil _ _), Below.refl _ _⟩
 · rw [Nat.mul_one] at ht
   have hlt : g < w.heap.size := (Array.getElem?_eq_some_iff.1 hh).1
   refine (Tryz.slices_Sort_int g 0 cap zs w (holds_of_blockI hh ht) hlt hsz).mono ?_
   rintro e w' ⟨rfl, n, os, rfl⟩
   refine ⟨rfl, ?_, (Below.refl base w).grown (grownBy_sortedI _) hbase (fun k hk => by cases hk; exact hg)⟩
   unfold Own
   rw [sorted_length]
   exact ownsRow_sortedI (sorted_length zs) hg hh hc hm hs

theorem sorted_any (Bs : Nat) (a : Option Addr) (len cap : Nat) (zs : List Int) (w w0 : World) (hBs : Bs < w.heap.size)
   (hc : w.cell? ⟨Bs, 0, none⟩ = some (.slice a len cap)) (hI : Ints w0 a len cap zs) (hz : w0.heap.size ≤ w.heap.size) (hb0 : Below w0.heap.size w0 w) (hsz : len < 17592186044000) :
   Calls Tryz.prog 125 #[.func (.func 167) #[] #[.pointer (some ⟨Bs, 0, none⟩)]] w fun e W' => ∃ v, e = .returned v ∧ Own W' w.heap.size v (sorted zs) ∧ Below w.heap.size w W' := by
 have HC := Lib.hid (collect_any Bs a len cap zs w w0 hBs hc hI hz hb0 hsz)
 have hl := hI.len
 have HL := Lib.hid hl
 clear hc hI hb0 hl
 go_enter Tryz.func125, Tryz.ntmps125
 go_wp2_with fail
 refine HC.out.mono ?_
 rintro e w1 ⟨v, rfl, ho, hb⟩
 have HO := Lib.hid ho; clear ho
 have HB := Lib.hid hb; clear hb
 go_wp2_with fail
 refine (sortOwn v zs w.heap.size w1 HO.out HB.out.size (by rw [HL.out]; omega)).mono ?_
 rintro e w2 ⟨rfl, ho, hb⟩
 have HO2 := Lib.hid ho; clear ho
 have HB2 := Lib.hid (HB.out.trans hb); clear hb
 go_wp2_with fail
 go_ret
 exact ⟨v, rfl, HO2.out, HB2.out⟩

theorem values_any (a : Option Addr) (len cap : Nat) (w : World) :
   Calls Tryz.prog 126 #[.slice a len cap] w fun e w' => e = .returned (.func (.func 167) #[] #[.pointer (some ⟨w.heap.size, 0, none⟩)]) ∧ w.alloc (.cells #[.slice a len cap] 25) = w' := by
 go_enter Tryz.func126, Tryz.ntmps126
 go_wp2_with fail
 go_ret
 exact ⟨rfl, rfl⟩
end Go.Proofs.YtkddkkcfpnndlaaGreatDoor
