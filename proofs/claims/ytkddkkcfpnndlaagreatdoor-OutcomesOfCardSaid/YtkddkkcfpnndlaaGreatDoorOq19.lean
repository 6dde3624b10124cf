/- Walks: graphs.edges: each bidder with each item that it may have. -/
import Derived.Test.YtkddkkcfpnndlaaGreatDoorOq17
import Derived.Test.YtkddkkcfpnndlaaGreatDoorOq16
namespace Go.Proofs.YtkddkkcfpnndlaaGreatDoor
open Go.RowKit Go.Shelf

attribute [local go_sem] Oper.semAt_some

def rowEdges (i : Nat) (L : List Nat) : List (Nat × Nat) := L.map fun k => (i, k)
def edgesTo (G : List (List Nat)) (n : Nat) : List (Nat × Nat) := (List.range n).flatMap fun i => rowEdges i (nbOf G i)
def edgesOf (G : List (List Nat)) : List (Nat × Nat) := edgesTo G G.length
theorem edgesTo_succ (G : List (List Nat)) (n : Nat) : edgesTo G (n + 1) = edgesTo G n ++ rowEdges n (nbOf G n) := by
 simp [edgesTo, List.range_succ]
theorem edgesTo_prefix (G : List (List Nat)) : ∀ {n m : Nat}, n ≤ m → edgesTo G n <+: edgesTo G m := by
 intro n m h
 induction m with
 | zero => obtain rfl : n = 0 := by omega
           exact List.prefix_refl _
 | succ m ih =>
   rcases Nat.lt_or_ge n (m + 1) with h1 | h1
   · exact (ih (by omega)).trans (by rw [edgesTo_succ]; exact List.prefix_append _ _)
   · obtain rfl : n = m + 1 := by omega
     exact List.prefix_refl _
theorem row_prefix {G : List (List Nat)} {i : Nat} (hi : i < G.length) (j : Nat) : edgesTo G i ++ rowEdges i ((nbOf G i).take j) <+: edgesOf G := by
 refine List.IsPrefix.trans ?_ (edgesTo_prefix G (n := i + 1) (m := G.length) (by omega))
 rw [edgesTo_succ]
 refine (List.prefix_append_right_inj _).2 ?_
 unfold rowEdges
 rw [List.map_take]
 exact List.take_prefix _ _
theorem row_snoc {G : List (List Nat)} {i j k : Nat} (h : (nbOf G i)[j]? = some k) : edgesTo G i ++ rowEdges i ((nbOf G i).take j) ++ [(i, k)] = edgesTo G i ++ rowEdges i ((nbOf G i).take (j + 1)) := by
 rw [List.take_add_one, h, List.append_assoc]
 simp [rowEdges]
theorem row_lt {G : List (List Nat)} {i j k : Nat} (hi : i < G.length) (h : (nbOf G i)[j]? = some k) : (edgesTo G i ++ rowEdges i ((nbOf G i).take j)).length < (edgesOf G).length := by
 have := (row_prefix hi (j + 1)).length_le
 rw [← row_snoc h, List.length_append] at this
 simp at this ⊢
 omega
theorem mem_edges {G : List (List Nat)} {i k : Nat} : (i, k) ∈ edgesOf G ↔ k ∈ nbOf G i := by
 unfold edgesOf edgesTo rowEdges
 rw [List.mem_flatMap]
 constructor
 · rintro ⟨a, ha, h⟩
   obtain ⟨b, hb, e⟩ := List.mem_map.1 h
   cases e; exact hb
 · intro h
   refine ⟨i, List.mem_range.2 ?_, List.mem_map.2 ⟨k, h, rfl⟩⟩
   rcases Nat.lt_or_ge i G.length with h1 | h1
   · exact h1
   · unfold nbOf at h; rw [List.getElem?_eq_none h1] at h; cases h

abbrev enc2 (p : Nat × Nat) : Array Value := #[.int .i64 p.1, .int .i64 p.2]

set_option maxRecDepth 100000 in
set_option maxHeartbeats 2000000 in
theorem edges1_in (l Bs n₀ : Nat) (ga : Option Addr) (gn gc : Nat) (G : List (List Nat)) (J Jx : List (Nat × Nat) → World → Prop)
   (hY : ∀ pre x W, x ∈ edgesOf G → J pre W → pre.length < (edgesOf G).length → YieldAt Fence.wide 8 Tryz.prog l (enc2 x) W fun e W' =>
     (e = .returned (.bool true) ∧ J (pre ++ [x]) W' ∧ Below n₀ W W') ∨ (e = .returned (.bool false) ∧ Jx (pre ++ [x]) W'))
   (W w0 : World) (hBs : W.cell? ⟨Bs, 0, none⟩ = some (.slice ga gn gc)) (hG : Rows w0 ga gn gc (G.map nats)) (hz : w0.heap.size ≤ n₀) (hb0 : Below w0.heap.size w0 W) (h0 : J [] W) :
   CallsIn Fence.wide 9 Tryz.prog 238 #[.func (.yield l) #[] #[], .pointer (some ⟨Bs, 0, none⟩)] W fun e W' => (∃ v, e = .returned v) ∧
     ((∃ ys, ys = edgesOf G ∧ J ys W') ∨ (∃ pre, pre <+: edgesOf G ∧ Jx pre W')) := by
 have hlen := hG.len
 rw [List.length_map] at hlen
 have hbig := hG.big
 refine callsIn_of_wp Tryz.func238 rfl trivial ?_ rfl
 simp only [Tryz.ntmps238, List.size_toArray, List.length_cons, List.length_nil, Nat.reduceAdd, Nat.reduceSub, Array.replicate_succ, Array.replicate_zero, List.push_toArray, List.append_toArray, List.nil_append, List.cons_append]
 have HG := Lib.hid hG; clear hG
 have HL := Lib.hid hlen; clear hlen
 gi_wp2
 gi_loopg [9] gn (fun g' s9 wr => ∃ i : Nat, i + g' = gn ∧ s9 = .int .i64 i ∧ J (edgesTo G i) wr ∧ Below n₀ W wr)
 case atStart => exact ⟨0, by omega, rfl, h0, Below.refl _ _⟩
 case round =>
   obtain ⟨i, hi, rfl, hJ, hB⟩ := hrel
   have HI := Lib.hid hi; clear hi
   have HJ := Lib.hid hJ; clear hJ
   by_cases hlt : i < gn
   · obtain ⟨row, hrow⟩ := HG.out.get hlt
     obtain ⟨L, hL, rfl⟩ : ∃ L, G[i]? = some L ∧ row = nats L := by
       rw [List.getElem?_map] at hrow
       cases hGw : G[i]? with
       | none => rw [hGw] at hrow; cases hrow
       | some L => rw [hGw] at hrow; cases hrow; exact ⟨L, rfl, rfl⟩
     have hnb : nbOf G i = L := by simp [nbOf, hL]
     obtain ⟨bg, og, rfl⟩ := HG.out.addr (by omega)
     obtain ⟨la, ln, lc, hcl, hli⟩ := HG.out.row (hb0.trans (hB.mono hz)) (Nat.le_refl _) (b := bg) (o := og) (k := i) rfl hrow
     have hll : L.length = ln := by have := hli.len; simpa [nats] using this
     have hlb := hli.big
     have HB := Lib.hid hB; clear hB
     have HLI := Lib.hid hli; clear hli
     have HNB := Lib.hid hnb; clear hnb
     have HLL := Lib.hid hll; clear hll
     have HGL := Lib.hid hL; clear hL
     clear hrow
     gi_wp2
     obtain ⟨wo, rfl⟩ : ∃ wo : World, wo = wr := ⟨_, rfl⟩
     obtain ⟨go, rfl⟩ : ∃ go : Nat, go = gk := ⟨_, rfl⟩
     gi_loopg [16] ln (fun g' s16 wr => ∃ j : Nat, j + g' = ln ∧ s16 = .int .i64 j ∧ J (edgesTo G i ++ rowEdges i (L.take j)) wr ∧ Below n₀ W wr)
     case atStart => exact ⟨0, by omega, rfl, by simpa [rowEdges] using HJ.out, HB.out⟩
     case round =>
       obtain ⟨j, hj, rfl, hJ2, hB2⟩ := hrel
       have HJJ := Lib.hid hj; clear hj
       have HB2 := Lib.hid hB2; clear hB2
       by_cases hlt2 : j < ln
       · obtain ⟨k, hk⟩ : ∃ k, L[j]? = some k := ⟨_, List.getElem?_eq_getElem (by rw [HLL.out]; exact hlt2)⟩
         obtain ⟨lb, lo, rfl⟩ := HLI.out.addr (by omega)
         have hck := (HLI.out.below (hb0.trans (HB2.out.mono hz)) (Nat.le_refl _)).cell lb lo rfl j (k : Int) (by simp [nats, hk])
         obtain ⟨fn, tmps, assign, body, hy, hR⟩ := hY _ (i, k) wr (mem_edges.2 (by rw [HNB.out]; exact List.mem_of_getElem? hk)) hJ2 (by have := row_lt (G := G) (i := i) (j := j) (k := k) (by rw [HL.out]; exact hlt) (by rw [HNB.out]; exact hk); rw [HNB.out] at this; exact this)
         dsimp only [enc2] at hy
         have HK := Lib.hid hk; clear hk
         clear hJ2
         gi_wp2
         refine hR.mono ?_
         rintro e W3 (⟨rfl, hJ3, hk3⟩ | ⟨rfl, hJx3⟩)
         · gi_wp2
           gi_roundg (gk - 1)
           case measure => have := HJJ.out; omega
           case rel => exact ⟨j + 1, by have := HJJ.out; omega, by go_num, by have := row_snoc (G := G) (i := i) (j := j) (k := k) (by rw [HNB.out]; exact HK.out); rw [HNB.out] at this; rw [← this]; exact hJ3, HB2.out.trans hk3⟩
         · gi_wp2
           refine bodyPost_ret (results_none rfl _ _ _) rfl ?_
           refine ⟨⟨_, rfl⟩, .inr ⟨_, ?_, hJx3⟩⟩
           have := row_snoc (G := G) (i := i) (j := j) (k := k) (by rw [HNB.out]; exact HK.out)
           rw [HNB.out] at this
           rw [this]
           have := row_prefix (G := G) (i := i) (by rw [HL.out]; exact hlt) (j + 1)
           rw [HNB.out] at this
           exact this
       · obtain rfl : j = ln := by have := HJJ.out; omega
         rw [List.take_of_length_le (by rw [HLL.out]; exact Nat.le_refl _)] at hJ2
         have HJ2 := Lib.hid hJ2; clear hJ2
         gi_wp2
         gi_roundg (go - 1)
         case measure => have := HI.out; omega
         case rel => exact ⟨i + 1, by have := HI.out; omega, by go_num, by rw [edgesTo_succ, HNB.out]; exact HJ2.out, HB2.out⟩
   · obtain rfl : i = gn := by have := HI.out; omega
     gi_wp2
     go_end0
     exact ⟨⟨_, rfl⟩, .inl ⟨_, by unfold edgesOf; rw [HL.out], HJ.out⟩⟩

abbrev Edge (G : List (List Nat)) := { x : Nat × Nat // x ∈ edgesOf G }
theorem edges_stops (Bs n₀ : Nat) (ga : Option Addr) (gn gc : Nat) (G : List (List Nat)) (w w0 : World) (hBs : Bs < w.heap.size) (hn₀ : n₀ ≤ w.heap.size)
   (hc : w.cell? ⟨Bs, 0, none⟩ = some (.slice ga gn gc)) (hG : Rows w0 ga gn gc (G.map nats)) (hz : w0.heap.size ≤ n₀) (hb0 : Below w0.heap.size w0 w) :
   SeqStopsK Fence.wide 9 Tryz.prog 238 #[.pointer (some ⟨Bs, 0, none⟩)] (fun x : Edge G => enc2 x.1) (Below n₀) (fun ys => ys.map (·.1) = edgesOf G) (fun pre => pre.map (·.1) <+: edgesOf G) (edgesOf G).length w := fun l J Jx W hW _ _ hY h0 => by
 refine (edges1_in l Bs n₀ ga gn gc G (fun l' W => ∃ l2 : List (Edge G), l2.map (·.1) = l' ∧ J l2 W) (fun l' W => ∃ l2 : List (Edge G), l2.map (·.1) = l' ∧ Jx l2 W) ?_ W w0 ((hW.cell (p := ⟨Bs, 0, none⟩) hBs).trans hc) hG hz (hb0.trans (hW.mono (Nat.le_trans hz hn₀))) ⟨[], rfl, h0⟩).mono ?_
 · rintro pre x W1 hx ⟨l2, rfl, hJ⟩ hlen
   obtain ⟨fn, tmps, assign, body, h1, h2⟩ := hY l2 ⟨x, hx⟩ W1 hJ (by simpa using hlen)
   refine ⟨fn, tmps, assign, body, h1, h2.mono ?_⟩
   rintro e W2 (⟨rfl, hJ2, hb⟩ | ⟨rfl, hJ2⟩)
   · exact .inl ⟨rfl, ⟨_, by simp, hJ2⟩, hb⟩
   · exact .inr ⟨rfl, ⟨_, by simp, hJ2⟩⟩
 · rintro e W2 ⟨hv, (⟨ys, rfl, l2, e2, hJ⟩ | ⟨pre, hp, l2, rfl, hJ⟩)⟩
   · exact ⟨hv, .inl ⟨l2, e2, hJ⟩⟩
   · exact ⟨hv, .inr ⟨l2, hp, hJ⟩⟩

theorem edges_any (ga : Option Addr) (gn gc : Nat) (w : World) :
   Calls Tryz.prog 228 #[.slice ga gn gc] w fun e w' => e = .returned (.func (.func 238) #[] #[.pointer (some ⟨w.heap.size, 0, none⟩)]) ∧ w.alloc (.cells #[.slice ga gn gc] 22) = w' := by
 go_enter Tryz.func228, Tryz.ntmps228
 go_wp2_with fail
 go_ret
 exact ⟨rfl, rfl⟩
end Go.Proofs.YtkddkkcfpnndlaaGreatDoor
