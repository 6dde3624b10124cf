/- Walks: math/bits.Mul of one and a small number. Walks: slices.Repeat of a list of one. -/
import Derived.Test.YtkddkkcfpnndlaaGreatDoorOq13
import Derived.Test.YtkddkkcfpnndlaaGreatDoorOq10
import Derived.Laws.CopyOwn
namespace Go.Proofs.YtkddkkcfpnndlaaGreatDoor
open Go.RowKit

set_option maxRecDepth 100000 in
set_option maxHeartbeats 1000000 in
theorem mul64_any (n : Nat) (hn : n ≤ 8) (w : World) :
   Calls Tryz.prog 247 #[.int .u64 1, .int .u64 n] w fun e w' => e = .returned (.tuple #[.int .u64 0, .int .u64 n]) ∧ w = w' := by
 obtain rfl | rfl | rfl | rfl | rfl | rfl | rfl | rfl | rfl : n = 0 ∨ n = 1 ∨ n = 2 ∨ n = 3 ∨ n = 4 ∨ n = 5 ∨ n = 6 ∨ n = 7 ∨ n = 8 := by omega
 all_goals
   go_enter Tryz.func247, Tryz.ntmps247
   go_wp2_with fail
   go_ret2
   exact ⟨rfl, rfl⟩

set_option maxRecDepth 100000 in
set_option maxHeartbeats 1000000 in
theorem mul_any (n : Nat) (hn : n ≤ 8) (w : World) :
   Calls Tryz.prog 243 #[.int .u64 1, .int .u64 n] w fun e w' => e = .returned (.tuple #[.int .u64 0, .int .u64 n]) ∧ w = w' := by
 have HM := Lib.hid (mul64_any n hn)
 go_enter Tryz.func243, Tryz.ntmps243
 go_wp2_with fail
 refine (HM.out _).mono ?_
 rintro e w' ⟨rfl, rfl⟩
 go_wp2_with fail
 go_ret2
 exact ⟨rfl, rfl⟩
end Go.Proofs.YtkddkkcfpnndlaaGreatDoor

namespace Go.Proofs.YtkddkkcfpnndlaaGreatDoor
open Go.RowKit

def repN (m n : Nat) (x : Int) : List Int := List.replicate m x ++ List.replicate (n - m) 0
theorem repN_zero (n : Nat) (x : Int) : repN 0 n x = List.replicate n 0 := by simp [repN]
theorem repN_all (n : Nat) (x : Int) : repN n n x = List.replicate n x := by simp [repN]
theorem repN_length {m n : Nat} (x : Int) (h : m ≤ n) : (repN m n x).length = n := by simp [repN]; omega
theorem repN_get {m n k : Nat} {x : Int} (h : k < m) : (repN m n x)[k]? = some x := by
 unfold repN; rw [List.getElem?_append_left (by simpa using h)]; simp [h]
theorem repN_splice {m n d : Nat} (x : Int) (h : m + d ≤ n) : splice ((repN m n x).map (Value.int .i64)) m ((List.replicate d x).map (Value.int .i64)) = (repN (m + d) n x).map (Value.int .i64) := by
 unfold splice
 rw [← List.map_take, ← List.map_drop, ← List.map_append, ← List.map_append]
 congr 1
 simp only [List.length_map, List.length_replicate]
 unfold repN
 rw [List.take_append_of_le_length (by simp), List.take_of_length_le (by simp), List.drop_append, List.drop_of_length_le (by simp)]
 simp only [List.length_replicate, List.nil_append, List.drop_replicate, ← List.append_assoc, List.replicate_append_replicate]
 congr 2
 omega

theorem rep_cells {w : World} {b o d : Nat} {x : Int} (h : ∀ j, j < d → w.cell? ⟨b, o + j, none⟩ = some (.int .i64 x)) (j : Nat) (v : Value) (hv : ((List.replicate d x).map (Value.int .i64))[j]? = some v) : w.cell? ((⟨b, o, none⟩ : Addr).add j) = some v := by
 rw [List.getElem?_map] at hv
 have hj : j < d := by
   rcases Nat.lt_or_ge j d with h | h
   · exact h
   · rw [List.getElem?_eq_none (by simpa using h)] at hv; cases hv
 rw [List.getElem?_replicate, if_pos hj] at hv
 cases hv
 have := h j hj
 by_cases hj0 : j = 0
 · subst hj0; first | (simp [Addr.add]; done) | simpa [Addr.add] using this
 · first | (simp [Addr.add, hj0]; done) | simpa [Addr.add, hj0] using this
theorem copyRep {ops : Array Oper} {rest : List Oper} {o : Oper} {a : Act} {Q : Exit → Act → World → Prop} (w w0 : World) (B G n m d sb so sLen sCap : Nat) (x : Int) (hgd : o.guard = none) (dop sop : Operand)
   (ho : o.op = .call { callee := .builtin .copy, args := #[dop, sop], argTypes := #[25, 25] }) (hd : a.eval dop = .slice (some ⟨G, m, none⟩) (n - m) (n - m)) (hs : a.eval sop = .slice (some ⟨sb, so, none⟩) sLen sCap)
   (hrow : Row w G 3 (repN m n x)) (hm : m ≤ n) (hdd : d = Nat.min sLen (n - m)) (hcells : ∀ j, j < d → w.cell? ⟨sb, so + j, none⟩ = some (.int .i64 x)) (hb : Below B w0 w) (hBG : B ≤ G)
   (h : ∀ w', Row w' G 3 (repN (m + d) n x) → Below B w0 w' → wpList Tryz.prog ops Q rest (a.put o.dst (.int .i64 d)) w') : wpList Tryz.prog ops Q (o :: rest) a w := by
 have hdl : d ≤ n - m := by rw [hdd]; exact Nat.min_le_right _ _
 have hdn : m + d ≤ n := by omega
 refine wpList_copy_splice hgd dop sop 25 25 ho 3 Tryz.underlying25 (by kernel_rfl) _ _ _ _ _ _ hd hs G m ((repN m n x).map (Value.int .i64)) 3 hrow ((List.replicate d x).map (Value.int .i64)) (by rw [List.length_map, List.length_replicate, hdd]) (fun _ => ⟨rfl, _, rfl, rep_cells hcells⟩)
   (by rw [List.length_map, List.length_map, List.length_replicate, repN_length x hm]; exact hdn) (fun v hv => by obtain ⟨y, _, rfl⟩ := List.mem_map.1 hv; rfl) B w0 hb hBG fun w' hr hb' => ?_
 have hr' := hr.out
 rw [repN_splice x hdn] at hr'
 have := h w' hr' hb'
 rwa [List.length_map, List.length_replicate]

def PR (w0 : World) (n m d : Nat) (x : Int) (i : Nat) (v : Value) (w : World) : Prop := match i with
 | 0 => v = .int .i64 m
 | 1 => v = .slice (some ⟨w0.heap.size, 0, none⟩) n n
 | 2 => v = .int .i64 m
 | 3 => v = .slice (some ⟨w0.heap.size, m, none⟩) (n - m) (n - m)
 | 4 => v = .slice (some ⟨w0.heap.size, 0, none⟩) n n
 | 5 => v = .int .i64 m
 | 6 => v = .slice (some ⟨w0.heap.size, 0, none⟩) m n
 | 7 => v = .int .i64 d ∧ Row w w0.heap.size 3 (repN (m + d) n x)
 | 8 => v = .int .i64 (m + d : Nat) ∧ Row w w0.heap.size 3 (repN (m + d) n x)
 | _ => True
def deadR (i j : Nat) : Bool := (i == 7) && (j == 7 || j == 8)

set_option maxRecDepth 100000 in
set_option maxHeartbeats 1000000 in
theorem repeat_any (xb xo xc n : Nat) (x : Int) (w : World) (hx : w.cell? ⟨xb, xo, none⟩ = some (.int .i64 x)) (hn : n ≤ 8) (hbd : -9223372036854775808 ≤ x ∧ x ≤ 9223372036854775807) :
   Calls Tryz.prog 236 #[.slice (some ⟨xb, xo, none⟩) 1 xc, .int .i64 n] w fun e w' => e = .returned (.slice (some ⟨w.heap.size, 0, none⟩) n n) ∧ Ints w' (some ⟨w.heap.size, 0, none⟩) n n (List.replicate n x) ∧ Below w.heap.size w w' := by
 have HM := Lib.hid (mul_any n hn)
 have hmk := mkInts n (by omega)
 have hxl := block_lt_of_cell hx
 have e2 : IntKind.i64.wrap (n : Int) = (n : Int) := IntWalk.i64_in _ (by omega)
 go_enter Tryz.func236, Tryz.ntmps236
 go_wp2_with fail
 refine (HM.out _).mono ?_
 rintro e w' ⟨rfl, rfl⟩
 have hr0 : Row (w.alloc (.cells (iarr (List.replicate n 0)) 3)) w.heap.size 3 (repN 0 n x) := by rw [repN_zero]; exact Row.new w _ _
 have hb0 : Below w.heap.size w (w.alloc (.cells (iarr (List.replicate n 0)) 3)) := (Below.refl _ _).alloc (Nat.le_refl _) _
 have hx0 := cell_step hb0 hx
 have HR0 := Lib.hid hr0; clear hr0
 have HB0 := Lib.hid hb0; clear hb0
 have HX0 := Lib.hid hx0; clear hx0
 have HX := Lib.hid hx; clear hx
 have hc0 : ∀ j, j < Nat.min 1 n → (w.alloc (.cells (iarr (List.replicate n 0)) 3)).cell? ⟨xb, xo + j, none⟩ = some (.int .i64 x) := fun j hj => by
   have h1 : Nat.min 1 n ≤ 1 := Nat.min_le_left _ _
   obtain rfl : j = 0 := by omega
   exact HX0.out
 have HC0 := Lib.hid hc0; clear hc0
 go_wp2_with (refine copyRep _ w w.heap.size w.heap.size n 0 (Nat.min 1 n) xb xo 1 xc x rfl _ _ rfl rfl rfl HR0.out (Nat.zero_le _) rfl HC0.out HB0.out (Nat.le_refl _) ?_)
 intro w1 hr1 hb1
 have hm1 : Nat.min 1 n ≤ n := Nat.min_le_right _ _
 have hm2 : n = 0 ∨ 1 ≤ Nat.min 1 n := by rcases Nat.eq_zero_or_pos n with h | h; exact .inl h; exact .inr (by rw [show Nat.min 1 n = 1 from Nat.min_eq_left (by omega)]; exact Nat.le_refl _)
 obtain ⟨m0, hm0⟩ : ∃ m0, m0 = Nat.min 1 n := ⟨_, rfl⟩
 rw [← hm0] at hr1 hm1 hm2 ⊢
 clear hm0
 have HR1 := Lib.hid hr1; clear hr1
 have HB1 := Lib.hid hb1; clear hb1
 clear HM hmk
 go_wp2_with fail
 go_loopg [8] (n - m0) (fun g s8 wr => ∃ m : Nat, m + g = n ∧ s8 = .int .i64 m ∧ (n = 0 ∨ 1 ≤ m) ∧ Row wr w.heap.size 3 (repN m n x) ∧ Below w.heap.size w wr)
 case atStart => exact ⟨m0, by omega, rfl, hm2, HR1.out, HB1.out⟩
 case round =>
   obtain ⟨m, hm, rfl, hmp, hr, hb⟩ := hrel
   have HM2 := Lib.hid hm
   by_cases hlt : m < n
   · have e3 : decide ((m : Int) < (n : Int)) = true := by simp; omega
     have hdp : 1 ≤ Nat.min m (n - m) := by
       rcases Nat.le_total m (n - m) with h | h
       · rw [show Nat.min m (n - m) = m from Nat.min_eq_left h]; omega
       · rw [show Nat.min m (n - m) = n - m from Nat.min_eq_right h]; omega
     have hdl : Nat.min m (n - m) ≤ n - m := Nat.min_le_right _ _
     obtain ⟨d, hd⟩ : ∃ d, d = Nat.min m (n - m) := ⟨_, rfl⟩
     rw [← hd] at hdp hdl
     have HD := Lib.hid hd; clear hd
     have HR := Lib.hid hr; clear hr
     have HB := Lib.hid hb; clear hb
     clear hm
     go_wp2_with fail
     refine wp_region_live' (by kernel_rfl) [38, 39, 40, 41, 42, 43, 44, 45, 46] (PR w n m d x) (fun i wa wb => i ≠ 7 → wb = wa) deadR (fun wx => Below w.heap.size w wx) (fun wx => Row wx w.heap.size 3 (repN m n x)) 7 (by simp) (by kernel_rfl) (by simp) (by decide) (by kernel_rfl) ?hmono HB.out.drew HR.out.drew
       (fun i wa wb hi hR h => by rw [hR hi]; exact h) ?hstep ?hlast
     case hmono =>
       intro i j y wa wb hi hj hd hR h
       by_cases e : i = 7
       · subst e
         match j, h with
         | 0, h | 1, h | 2, h | 3, h | 4, h | 5, h | 6, h => exact h
         | 7, h => simp [deadR] at hd
         | 8, h => simp [deadR] at hd
         | _ + 9, _ => trivial
       · rw [hR e]; exact h
     case hstep =>
       intro i o v wx K hi ho hB hpre hd hKK
       simp only [List.length_cons, List.length_nil] at hi
       simp only [fold, Nat.zero_add, Nat.reduceAdd, List.setIfInBounds_toArray, List.set_cons_zero, List.set_cons_succ]
       rcases (by omega : i = 0 ∨ i = 1 ∨ i = 2 ∨ i = 3 ∨ i = 4 ∨ i = 5 ∨ i = 6 ∨ i = 7 ∨ i = 8) with rfl | rfl | rfl | rfl | rfl | rfl | rfl | rfl | rfl
       all_goals
         simp only [List.getElem?_cons_zero, List.getElem?_cons_succ, Option.some.injEq] at ho
         subst ho
         simp only [fold, Nat.zero_add, Nat.reduceAdd, Act.put, List.setIfInBounds_toArray, List.set_cons_zero, List.set_cons_succ] at hKK
       · clear hd hpre
         go_wp2_with fail
         exact hKK _ _ hB (fun _ => rfl) rfl
       · clear hd hpre
         go_wp2_with fail
         exact hKK _ _ hB (fun _ => rfl) rfl
       · clear hd hpre
         go_wp2_with fail
         exact hKK _ _ hB (fun _ => rfl) rfl
       · have d1 : v 1 = .slice (some ⟨w.heap.size, 0, none⟩) n n := hd ⟨1, .data⟩ (by simp) rfl
         have d2 : v 2 = .int .i64 m := hd ⟨2, .data⟩ (by simp) rfl
         rw [d1, d2] at hKK ⊢
         clear hd hpre
         go_wp2_with fail
         exact hKK _ _ hB (fun _ => rfl) rfl
       · clear hd hpre
         go_wp2_with fail
         exact hKK _ _ hB (fun _ => rfl) rfl
       · clear hd hpre
         go_wp2_with fail
         exact hKK _ _ hB (fun _ => rfl) rfl
       · have d4 : v 4 = .slice (some ⟨w.heap.size, 0, none⟩) n n := hd ⟨4, .data⟩ (by simp) rfl
         have d5 : v 5 = .int .i64 m := hd ⟨5, .data⟩ (by simp) rfl
         rw [d4, d5] at hKK ⊢
         clear hd hpre
         go_wp2_with fail
         exact hKK _ _ hB (fun _ => rfl) rfl
       · have d3 : v 3 = .slice (some ⟨w.heap.size, m, none⟩) (n - m) (n - m) := hd ⟨3, .data⟩ (by simp) rfl
         have d6 : v 6 = .slice (some ⟨w.heap.size, 0, none⟩) m n := hd ⟨6, .data⟩ (by simp) rfl
         have hrow := hpre (.inl rfl)
         rw [d3, d6] at hKK ⊢
         have hcc : ∀ j, j < d → wx.cell? ⟨w.heap.size, 0 + j, none⟩ = some (.int .i64 x) := fun j hj => by
           have : d ≤ m := by rw [HD.out]; exact Nat.min_le_left _ _
           rw [Nat.zero_add]; exact hrow.cell (repN_get (by omega))
         clear hd hpre
         go_wp2_with (refine copyRep _ w w.heap.size w.heap.size n m d w.heap.size 0 m n x rfl _ _ rfl rfl rfl hrow (Nat.le_of_lt hlt) HD.out hcc hB (Nat.le_refl _) ?_)
         intro w5 hr5 hb5
         go_wp2_with fail
         exact hKK _ _ hb5 (fun h => absurd rfl h) ⟨rfl, hr5⟩
       · have d0 : v 0 = .int .i64 m := hd ⟨0, .data⟩ (by simp) rfl
         obtain ⟨d7, hr7⟩ : PR w n m d x 7 (v 7) wx := hd ⟨7, .data⟩ (by simp) rfl
         rw [d0, d7] at hKK ⊢
         clear hd hpre
         go_wp2_with fail
         exact hKK _ _ hB (fun _ => rfl) ⟨by push_cast; rfl, hr7⟩
     case hlast =>
       intro o v wx K ho hB hd hfree hKK
       simp only [List.length_cons, List.length_nil, Nat.reduceAdd, Nat.reduceSub, List.getElem?_cons_zero, List.getElem?_cons_succ, Option.some.injEq] at ho
       subst ho
       simp only [fold, Nat.zero_add, Nat.reduceAdd, List.setIfInBounds_toArray, List.set_cons_zero, List.set_cons_succ]
       obtain ⟨d8, hr8⟩ : PR w n m d x 8 (v 8) wx := hd ⟨8, .data⟩ (by simp) rfl
       rw [d8]
       clear hd hfree
       go_wp2_with fail
       go_roundg (gk - d)
       case measure => have := HM2.out; omega
       case rel => exact ⟨m + d, by have := HM2.out; omega, rfl, .inr (by omega), hr8, hB⟩
   · obtain rfl : m = n := by omega
     have HR := Lib.hid hr; clear hr
     have HB := Lib.hid hb; clear hb
     clear hm
     go_wp2_with fail
     go_ret
     have hr := HR.out
     rw [repN_all] at hr
     have := hr.ints (by simp; omega) (fun y hy => by rw [List.eq_of_mem_replicate hy]; exact hbd)
     rw [List.length_replicate] at this
     exact ⟨rfl, this, HB.out⟩
end Go.Proofs.YtkddkkcfpnndlaaGreatDoor
