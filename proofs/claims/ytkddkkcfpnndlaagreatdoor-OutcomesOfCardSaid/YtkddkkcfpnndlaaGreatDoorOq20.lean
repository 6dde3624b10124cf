/- Eight numbers as an array's value; those of them that are not 0. Walks: graphs.Near: the items that some may have. -/
import Derived.Test.YtkddkkcfpnndlaaGreatDoorOq13
import Derived.Test.YtkddkkcfpnndlaaGreatDoorOq19
import Derived.Deep.MidRow
namespace Go.Proofs.YtkddkkcfpnndlaaGreatDoor
open Go.RowKit

def arr8 (f : Nat → Nat) : List Value := (List.range 8).map fun k => .int .i64 (f k : Int)
theorem index8 (f : Nat → Nat) (k : Nat) (hk : k < 8) (w : World) : (Instr.index 114 (.agg (arr8 f).toArray) (.int .i64 (k : Int))).run Tryz.prog w = .ok (.int .i64 (f k : Int)) w := by
 obtain rfl | rfl | rfl | rfl | rfl | rfl | rfl | rfl : k = 0 ∨ k = 1 ∨ k = 2 ∨ k = 3 ∨ k = 4 ∨ k = 5 ∨ k = 6 ∨ k = 7 := by omega
 all_goals kernel_rfl

def whatOf (came : Nat → Nat) (n : Nat) : List Nat := (List.range n).filter fun k => decide (0 < came k)
theorem whatOf_succ (came : Nat → Nat) (n : Nat) : whatOf came (n + 1) = whatOf came n ++ if 0 < came n then [n] else [] := by
 unfold whatOf
 rw [List.range_succ, List.filter_append]
 by_cases h : 0 < came n <;> simp [h]
theorem whatOf_length (came : Nat → Nat) (n : Nat) : (whatOf came n).length ≤ n := by
 have := List.length_filter_le (fun k => decide (0 < came k)) (List.range n)
 simpa [whatOf] using this

end Go.Proofs.YtkddkkcfpnndlaaGreatDoor

namespace Go.Proofs.YtkddkkcfpnndlaaGreatDoor
open Go.RowKit Go.Shelf

attribute [local go_sem] Oper.semAt_some

def nearOf (G : List (List Nat)) (sm : List Nat) (k : Nat) : Nat := if sm.any (fun i => (nbOf G i).contains k) then 1 else 0
def markOf (sm : List Nat) (pre : List (Nat × Nat)) (k : Nat) : Nat := if pre.any (fun e => sm.contains e.1 && e.2 == k) then 1 else 0
theorem mark_nil (sm : List Nat) : markOf sm [] = fun _ => 0 := by funext k; simp [markOf]
theorem mark_no {sm : List Nat} {pre : List (Nat × Nat)} {e : Nat × Nat} (h : sm.contains e.1 = false) : markOf sm (pre ++ [e]) = markOf sm pre := by
 funext k
 unfold markOf
 rw [List.any_append]
 simp only [List.any_cons, List.any_nil, h, Bool.false_and, Bool.or_false]
theorem mark_yes {sm : List Nat} {pre : List (Nat × Nat)} {e : Nat × Nat} (h : sm.contains e.1 = true) : markOf sm (pre ++ [e]) = Way.mark (markOf sm pre) e.2 1 := by
 funext k
 by_cases ek : k = e.2
 · subst ek
   rw [Way.mark_same]
   unfold markOf
   rw [List.any_append]
   simp only [List.any_cons, List.any_nil, h, Bool.true_and, Bool.or_false, beq_self_eq_true, Bool.or_true, if_true]
 · rw [Way.mark_other ek]
   have : (e.2 == k) = false := by rw [beq_eq_false_iff_ne]; exact fun e' => ek e'.symm
   unfold markOf
   rw [List.any_append]
   simp only [List.any_cons, List.any_nil, this, Bool.and_false, Bool.or_false]
theorem mark_all (G : List (List Nat)) (sm : List Nat) : markOf sm (edgesOf G) = nearOf G sm := by
 funext k
 have h : ((edgesOf G).any fun e => sm.contains e.1 && e.2 == k) = (sm.any fun i => (nbOf G i).contains k) := by
   rw [Bool.eq_iff_iff]
   simp only [List.any_eq_true, Bool.and_eq_true, List.contains_eq_mem, decide_eq_true_eq, beq_iff_eq]
   constructor
   · rintro ⟨⟨i, k'⟩, he, hi, rfl⟩
     exact ⟨i, hi, mem_edges.1 he⟩
   · rintro ⟨i, hi, hk⟩
     exact ⟨(i, k), mem_edges.2 hk, hi, rfl⟩
 unfold markOf nearOf
 rw [h]
theorem near01 (G : List (List Nat)) (sm : List Nat) (k : Nat) : nearOf G sm k = 0 ∨ nearOf G sm k = 1 := by unfold nearOf; split <;> simp

def nearOk (g : List (List Int)) (items : Int) (sm : List Int) : Bool := gcheck g items && risesFrom g.length (-1) sm

theorem near_lt {G : List (List Nat)} (h8 : ∀ l, l ∈ G → ∀ k, k ∈ l → k < 8) {i k : Nat} (h : (i, k) ∈ edgesOf G) : k < 8 := by
 have hk := mem_edges.1 h
 unfold nbOf at hk
 cases hG : G[i]? with
 | none => rw [hG] at hk; cases hk
 | some l => rw [hG] at hk; exact h8 l (List.mem_of_getElem? hG) k hk

set_option maxRecDepth 100000 in
set_option maxHeartbeats 2000000 in
theorem Near_yes (ga sa : Option Addr) (gn gc sn sc : Nat) (G : List (List Nat)) (items : Int) (sm : List Nat) (w : World) (hg : Rows w ga gn gc (G.map nats)) (hs : Ints w sa sn sc (nats sm)) (hok : nearOk (G.map nats) items (nats sm) = true) :
   Calls Tryz.prog 215 #[.slice ga gn gc, .int .i64 items, .slice sa sn sc] w (RetList 0 (nats (whatOf (nearOf G sm) 8)) w) := by
 have hl := hg.len
 simp only [nearOk, Bool.and_eq_true] at hok
 have h8 : ∀ l, l ∈ G → ∀ k, k ∈ l → k < 8 := fun l hl k hk => by
   obtain ⟨h1, h2, _, h4⟩ := gcheck_parts hok.1
   have := risesFrom_bd (h4 _ (List.mem_map.2 ⟨l, hl, rfl⟩)) (k : Int) (List.mem_map.2 ⟨k, hk, rfl⟩)
   omega
 have H8 := Lib.hid h8; clear h8
 have HG := Lib.hid hg; clear hg
 have HS := Lib.hid hs; clear hs
 have HL := Lib.hid hl; clear hl
 have HC := Lib.hid hok.1
 have HR := Lib.hid (show risesFrom gn (-1) (nats sm) = true by have := hok.2; rwa [HL.out] at this)
 clear hok
 have HW := Lib.hid (show Below w.heap.size w (w.alloc (.cells #[.slice sa sn sc] 25)) from (Below.refl _ _).alloc (Nat.le_refl _) _)
 have HX := Lib.hid (Boxed.new w 25 (.slice sa sn sc))
 refine calls_marks 10 Tryz.func215 rfl ?_
 simp only [Tryz.ntmps215, List.size_toArray, List.length_cons, List.length_nil, Nat.reduceAdd, Nat.reduceSub, Array.replicate_succ, Array.replicate_zero, List.push_toArray, List.append_toArray, List.nil_append, List.cons_append]
 go_wp2_with fail
 refine (gcheck_any ga gn gc (G.map nats) items _ (HG.out.below HW.out (Nat.le_refl _))).mono ?_
 rw [HC.out]
 rintro e w1 ⟨rfl, hb⟩
 have hx1 : Boxed w1 w.heap.size 25 (.slice sa sn sc) := by unfold Boxed; rw [hb.block _ (by simp)]; exact HX.out
 have HB := Lib.hid (HW.out.trans (hb.mono (by simp))); clear hb
 have hc1 := hx1.cell
 have hz1 := hx1.lt
 have HX1 := Lib.hid hx1; clear hx1
 go_wp2_with fail
 refine (rises_any sa sn sc (nats sm) gn w1 (HS.out.below HB.out (Nat.le_refl _))).mono ?_
 rw [HR.out]
 rintro e w2 ⟨rfl, rfl⟩
 go_wp2_with fail
 refine (edges_any ga gn gc _).mono ?_
 rintro e w3 ⟨rfl, rfl⟩
 go_wp2_with fail
 obtain ⟨WB, hWB⟩ : ∃ WB, WB = (w1.alloc (.cells #[.int .i64 0, .int .i64 0, .int .i64 0, .int .i64 0, .int .i64 0, .int .i64 0, .int .i64 0, .int .i64 0] 114)).alloc (.cells #[.slice ga gn gc] 22) := ⟨_, rfl⟩
 have hV : VRow WB w1.heap.size 114 (arr8 (markOf sm [])) := by
   rw [mark_nil, hWB]
   exact (VRow.new w1 114 (arr8 fun _ => 0)).alloc _
 have hX : Boxed WB w.heap.size 25 (.slice sa sn sc) := by rw [hWB]; exact (HX1.out.alloc _).alloc _
 have hBe : WB.cell? ⟨w1.heap.size + 1, 0, none⟩ = some (.slice ga gn gc) := by rw [hWB]; simp [go_sem]
 have hBB : Below w.heap.size w WB := by rw [hWB]; exact (HB.out.alloc HB.out.size _).alloc (by have := HB.out.size; simp; omega) _
 have hsz : WB.heap.size = w1.heap.size + 2 := by rw [hWB]; simp
 rw [← hWB]
 clear hWB
 refine wp_rangeFunc_U 10 (fun x : Edge G => [(26, .int .i64 x.1.1), (27, .int .i64 x.1.2), (9, .int .i64 x.1.1), (10, .int .i64 x.1.2)]) (by omega) (lb := #[.pointer (some ⟨w1.heap.size + 1, 0, none⟩)]) rfl
   (enters_of Tryz.func238 (by kernel_rfl) rfl) (edges_stops (w1.heap.size + 1) w.heap.size ga gn gc G WB w (by omega) hBB.size hBe HG.out (Nat.le_refl _) hBB) hBB.size (Below.refl _ _) (fun _ => rfl)
   (fun pre W => (VRow W w1.heap.size 114 (arr8 (markOf sm (pre.map (·.1)))) ∧ Boxed W w.heap.size 25 (.slice sa sn sc)) ∧ Below w.heap.size w W) (fun _ _ _ => False)
   (OwnFrom.and (Own.from (fun s A B row hs hg' hr => ⟨hs.1.kept hg' hr, boxed_own w.heap.size 25 (fun _ : Unit => .slice sa sn sc) () A B row hs.2 hg' hr⟩) _) (ownFrom_below (Nat.le_refl _) hBB.size)) (fun _ _ _ _ _ hs _ _ => hs) ⟨⟨hV, hX⟩, hBB⟩ ?assign ?body ?done ?stop
 case assign =>
   intro l x W K hK
   gi_wp2
   exact hK
 case body =>
   rintro l pre ⟨⟨i, k⟩, hx⟩ W ⟨⟨hV, hX⟩, hB⟩ hlt
   have hk8 := near_lt H8.out hx
   have hcx := hX.cell
   have hcn : (nats sm).contains (i : Int) = sm.contains i := by
     rw [Bool.eq_iff_iff]; simp only [List.contains_eq_mem, decide_eq_true_eq]; exact mem_nats
   have HCN := Lib.hid hcn; clear hcn
   have hfz := hV.frozen k
   have hcv := hV.cell (k := k) (v := .int .i64 (markOf sm (pre.map (·.1)) k : Int)) (by simp [arr8, hk8])
   generalize hmk : markOf sm (pre.map (·.1)) k = mk at hcv
   clear hmk
   have hbs := hB.size
   have i1 : (k : Int) < 8 := by omega
   have HV := Lib.hid hV; clear hV
   have HXX := Lib.hid hX; clear hX
   have HB3 := Lib.hid hB; clear hB
   clear hBe hsz
   simp only [List.foldl_cons, List.foldl_nil, List.setIfInBounds_toArray, List.set_cons_zero, List.set_cons_succ]
   cases hc : sm.contains i with
   | true =>
     have HCT := Lib.hid hc; clear hc
     gi_wp2_with fail
     refine ⟨trivial, ?_⟩
     refine (CallsIn.inRound l (callsIn_wide.2 (contains_any sa sn sc (nats sm) (i : Int) W (HS.out.below HB3.out (Nat.le_refl _))))).mono ?_
     rw [HCN.out, HCT.out]
     rintro e w4 ⟨rfl, rfl⟩
     gi_wp2_with fail
     refine ⟨(KeepsOthers.setCell _ _ _).from _, (Below.refl w.heap.size W).setCell (p := ⟨w1.heap.size, k, none⟩) (by simp; omega) _, ⟨?_, by unfold Boxed; rw [heap_setCell_other _ _ _ _ (by simp; omega)]; exact HXX.out⟩, HB3.out.setCell (p := ⟨w1.heap.size, k, none⟩) (by simp; omega) _⟩
     rw [List.map_append, List.map_cons, List.map_nil, mark_yes HCT.out]
     have h2 := HV.out.set k (.int .i64 ((1 : Nat) : Int))
     rw [show (arr8 (markOf sm (pre.map (·.1)))).set k (.int .i64 ((1 : Nat) : Int)) = arr8 (Way.mark (markOf sm (pre.map (·.1))) k 1) from tab8_set hk8] at h2
     exact h2
   | false =>
     have HCT := Lib.hid hc; clear hc
     gi_wp2_with fail
     refine ⟨trivial, ?_⟩
     refine (CallsIn.inRound l (callsIn_wide.2 (contains_any sa sn sc (nats sm) (i : Int) W (HS.out.below HB3.out (Nat.le_refl _))))).mono ?_
     rw [HCN.out, HCT.out]
     rintro e w4 ⟨rfl, rfl⟩
     gi_wp2_with fail
     refine ⟨KeepsFrom.refl _ _, Below.refl _ _, ⟨?_, HXX.out⟩, HB3.out⟩
     rw [List.map_append, List.map_cons, List.map_nil, mark_no HCT.out]
     exact HV.out
 case stop => rintro D c pre W _ _ h _; exact h.elim
 case done =>
   rintro D ys W hD hys ⟨⟨hV, hX⟩, hB⟩ hK
   rw [hys, mark_all] at hV
   have HV := Lib.hid hV; clear hV
   have HB3 := Lib.hid hB; clear hB
   have HK := Lib.hid hK; clear hK
   clear hX hBe hys
   obtain ⟨nf, hnf⟩ : ∃ nf, nf = nearOf G sm := ⟨_, rfl⟩
   have h01 : ∀ k, nf k = 0 ∨ nf k = 1 := fun k => by rw [hnf]; exact near01 G sm k
   rw [← hnf] at HV ⊢
   have H01 := Lib.hid h01; have HNF := Lib.hid hnf; clear h01 hnf
   go_wp2_with (refine wpList_load_row rfl 114 _ rfl w1.heap.size rfl 114 (arr8 nf).toArray (0, 0) _ HV.out Tryz.underlying114 rfl (by kernel_rfl) ?_)
   have HBR := Lib.hid (Below.refl W.heap.size W)
   go_loopg [6, 34] 8 (fun g' s6 s34 wr => ∃ k : Nat, k + g' = 8 ∧ s34 = .int .i64 k ∧ Own wr W.heap.size s6 (nats (whatOf nf k)) ∧ Below W.heap.size W wr)
   case atStart => exact ⟨0, by omega, rfl, Own.nil _ _, HBR.out⟩
   case round =>
     obtain ⟨k, hk, rfl, hO2, hB4⟩ := hrel
     have HKK := Lib.hid hk; clear hk
     have HO2 := Lib.hid hO2; clear hO2
     have HB4 := Lib.hid hB4; clear hB4
     by_cases hlt : k < 8
     · have hix := index8 nf k hlt
       obtain ⟨zs, hzs⟩ : ∃ zs, zs = nats (whatOf nf k) := ⟨_, rfl⟩
       have hzl : zs.length ≤ k := by rw [hzs]; simp only [nats, List.length_map]; exact whatOf_length _ _
       have hsu := whatOf_succ nf k
       have h01 := H01.out k
       obtain ⟨cm, hcm⟩ : ∃ cm, cm = nf k := ⟨_, rfl⟩
       rw [← hcm] at hix hsu h01
       have HCM := Lib.hid hcm; clear hcm
       have HSU := Lib.hid hsu; clear hsu
       have HZ := Lib.hid hzs; clear hzs
       rcases h01 with rfl | rfl
       · go_wp2_with fail
         go_roundg (gk - 1)
         case measure => have := HKK.out; omega
         case rel => exact ⟨k + 1, by have := HKK.out; omega, by go_num, by rw [HSU.out, if_neg (by omega), List.append_nil]; exact HO2.out, HB4.out⟩
       · go_wp2_with (at_builtin; refine app1 _ rfl _ _ rfl W.heap.size _ zs rfl (by rw [HZ.out]; exact HO2.out.alloc _) wr.heap.size 0 1 (k : Int) rfl (by simp [go_sem]) (by omega) (by have := HB4.out.size; simp; omega) ?_)
         intro g' cap' w' hown' hgr' hb'
         have HO3 := Lib.hid hown'; clear hown'
         have HB5 := Lib.hid hb'; clear hb' hgr'
         go_wp2_with fail
         go_roundg (gk - 1)
         case measure => have := HKK.out; omega
         case rel => exact ⟨k + 1, by have := HKK.out; omega, by go_num, by rw [HSU.out, if_pos (by omega), show nats (whatOf nf k ++ [k]) = zs ++ [(k : Int)] by rw [HZ.out]; simp [nats]]; exact HO3.out, (HB4.out.alloc HB4.out.size _).trans HB5.out⟩
     · obtain rfl : k = 8 := by have := HKK.out; omega
       obtain ⟨va, vc, rfl, hmr, hvc⟩ := HO2.out.myRow
       have hcap := hmr.cap
       have hwl : (nats (whatOf nf 8)).length ≤ 8 := by simp only [nats, List.length_map]; exact whatOf_length _ _
       obtain ⟨m, hm⟩ : ∃ m, m = (nats (whatOf nf 8)).length := ⟨_, rfl⟩
       rw [← hm] at hwl HO2 hmr hcap ⊢
       have HMR := Lib.hid hmr; clear hmr
       clear hm
       go_wp2_with fail
       refine (clip_any va m vc wr hcap).mono ?_
       rintro e w4 ⟨rfl, rfl⟩
       go_wp2_with fail
       have hKw : wr.heap[D]? = some (.deferred (some [])) := by rw [HB4.out.block D (Array.getElem?_eq_some_iff.1 HK.out).1]; exact HK.out
       have hin : Ints wr va m m (nats (whatOf nf 8)) := HMR.out.clip.ints (by omega) (fun x hx => by
         obtain ⟨y, hy, rfl⟩ := List.mem_map.1 hx
         have := List.mem_range.1 (List.mem_filter.1 hy).1
         omega)
       exact marks_ret hKw (v := .tuple #[.slice va m m, .int .i64 0]) (by simp [results, Tryz.results215, go_sem]) ⟨va, m, m, rfl, by rw [← HNF.out]; exact hin.putObj _ hKw rfl, (HB3.out.trans (HB4.out.mono HB3.out.size)).trans (Below.put hKw (Nat.le_trans hBB.size hD) _)⟩
end Go.Proofs.YtkddkkcfpnndlaaGreatDoor
