/- Walks: matchings.Most, All. Walks: matchings.All. -/
import Derived.Test.YtkddkkcfpnndlaaGreatDoorOq18
import Derived.Test.YtkddkkcfpnndlaaGreatDoorOq20
namespace Go.Proofs.YtkddkkcfpnndlaaGreatDoor
open Go.RowKit

set_option maxRecDepth 100000 in
set_option maxHeartbeats 2000000 in
theorem Most_yes (ga : Option Addr) (gn gc : Nat) (G : List (List Nat)) (items : Int) (w : World) (hg : Rows w ga gn gc (G.map nats)) (hok : gcheck (G.map nats) items = true) :
   Calls Tryz.prog 226 #[.slice ga gn gc, .int .i64 items] w fun e w' => ∃ a, e = .returned (.tuple #[.slice a gn gn, .int .i64 0]) ∧ Ints w' a gn gn (mostL G gn) ∧ Below w.heap.size w w' := by
 have hl : G.length = gn := by have := hg.len; simpa using this
 have h8 : gn ≤ 8 := by have := (gcheck_parts hok).2.2.1; rw [List.length_map] at this; omega
 have hb0 : Below w.heap.size w ((w.alloc (.cells #[.slice ga gn gc] 22)).alloc (.cells #[.int .i64 items] 3)) := ((Below.refl _ _).alloc (Nat.le_refl _) _).alloc (by simp) _
 have HG := Lib.hid hg
 have HC := Lib.hid (gcheck_any ga gn gc (G.map nats) items _ (hg.below hb0 (Nat.le_refl _)))
 have x2 : Boxed ((w.alloc (.cells #[.slice ga gn gc] 22)).alloc (.cells #[.int .i64 items] 3)) w.heap.size 22 (.slice ga gn gc) := (Boxed.new w _ _).alloc _
 have x3 : Boxed ((w.alloc (.cells #[.slice ga gn gc] 22)).alloc (.cells #[.int .i64 items] 3)) (w.heap.size + 1) 3 (.int .i64 items) := by
   have := Boxed.new (w.alloc (.cells #[.slice ga gn gc] 22)) 3 (.int .i64 items)
   rwa [show (w.alloc (.cells #[.slice ga gn gc] 22)).heap.size = w.heap.size + 1 by simp] at this
 have HX := Lib.hid (And.intro x2 (And.intro x3 hb0)); clear x2 x3 hb0 hg
 have HOK := Lib.hid hok; clear hok
 have HL := Lib.hid hl; clear hl
 go_enter Tryz.func226, Tryz.ntmps226
 go_wp2_with fail
 refine HC.out.mono ?_
 rw [HOK.out]
 rintro e w1 ⟨rfl, hb⟩
 clear HC
 have h2 := boxed_on HX.out.1 hb
 have h3 := boxed_on HX.out.2.1 hb
 have HB1 := Lib.hid (HX.out.2.2.trans (hb.mono (HX.out.2.2.size))); clear hb
 have c2 := h2.cell
 have z3 := h3.lt
 have H23 := Lib.hid (And.intro h2 h3); clear h2 h3 HX
 have hb2 : Below w1.heap.size w1 (w1.alloc (.cells #[.int .i64 (-1)] 3)) := (Below.refl _ _).alloc (Nat.le_refl _) _
 have c2a := cell_step hb2 c2
 have HBB := Lib.hid hb2; clear hb2
 go_wp2_with fail
 have hb2 := HBB.out
 refine (repeat_any w1.heap.size 0 1 gn (-1) (w1.alloc (.cells #[.int .i64 (-1)] 3)) (by simp [go_sem]) h8 (by omega)).mono ?_
 rintro e w2 ⟨rfl, hi2, hb⟩
 have hb3 := hb2.trans (hb.mono (by simp))
 have h2 := boxed_on H23.out.1 hb3
 have h3 := boxed_on H23.out.2 hb3
 have HB2 := Lib.hid (HB1.out.trans (hb3.mono HB1.out.size)); clear hb hb2 hb3 H23
 rw [show (w1.alloc (.cells #[.int .i64 (-1)] 3)).heap.size = w1.heap.size + 1 by simp] at hi2 ⊢
 have c2 := h2.cell
 have c3 := h3.cell
 have HA := Lib.hid (show GoAt (w2.alloc (.cells #[.slice (some ⟨w1.heap.size + 1, 0, none⟩) gn gn] 25)) w.heap.size (w.heap.size + 1) w2.heap.size ga gn gc items (some ⟨w1.heap.size + 1, 0, none⟩) gn gn from ⟨h2.alloc _, h3.alloc _, Boxed.new w2 _ _⟩)
 have z2 := HB2.out.size
 have hz3 := h3.lt
 have HI := Lib.hid (hi2.below (w' := w2.alloc (.cells #[.slice (some ⟨w1.heap.size + 1, 0, none⟩) gn gn] 25)) ((Below.refl _ _).alloc (Nat.le_refl _) _) (Nat.le_refl _)); clear hi2
 have HB3 := Lib.hid (show Below w.heap.size w (w2.alloc (.cells #[.slice (some ⟨w1.heap.size + 1, 0, none⟩) gn gn] 25)) from HB2.out.alloc HB2.out.size _)
 have k2 := HA.out.b2.cell
 clear h2 h3 z3
 go_wp2_with fail
 go_loopg [20] gn (fun g s20 wr => ∃ i : Nat, i + g = gn ∧ s20 = .int .i64 i ∧ (∃ ha hc, GoAt wr w.heap.size (w.heap.size + 1) w2.heap.size ga gn gc items ha gn hc ∧ Ints wr ha gn hc (mostL G i)) ∧ Below w.heap.size w wr)
 case atStart => exact ⟨0, by omega, rfl, ⟨_, _, HA.out, by rw [most_zero, HL.out]; exact HI.out⟩, HB3.out⟩
 case round =>
   obtain ⟨i, hi, rfl, ⟨ha, hc, hA, hI⟩, hb⟩ := hrel
   have HII := Lib.hid hi; clear hi
   have HB := Lib.hid hb; clear hb
   by_cases hlt : i < gn
   · have HGO := Lib.hid (mgoes_any w.heap.size (w.heap.size + 1) w2.heap.size ga ha gn gc gn hc i G items (mostL G i) wr hA ⟨by omega, by omega⟩ (HG.out.below HB.out (Nat.le_refl _)) hI (most_ok HOK.out (by rw [HL.out]; exact hlt)))
     clear hA hI
     go_wp2_with fail
     refine HGO.out.mono ?_
     rintro e w4 ⟨⟨v, rfl⟩, ha', hc', hA', hI', hb'⟩
     have HA' := Lib.hid hA'; clear hA'
     have HI' := Lib.hid hI'; clear hI'
     have HB' := Lib.hid (HB.out.trans (hb' w.heap.size (by omega) HB.out.size)); clear hb'
     go_wp2_with fail
     go_roundg (gk - 1)
     case measure => have := HII.out; omega
     case rel => exact ⟨i + 1, by have := HII.out; omega, by go_num, ⟨ha', hc', HA'.out, by rw [most_more HOK.out (by rw [HL.out]; exact hlt)]; exact HI'.out⟩, HB'.out⟩
   · obtain rfl : i = gn := by have := HII.out; omega
     have k2 := hA.b2.cell
     have k6 := hA.b6.cell
     have HI' := Lib.hid hI; clear hI hA
     go_wp2_with fail
     refine (clip_any ha i hc wr HI'.out.cap).mono ?_
     rintro e w4 ⟨rfl, rfl⟩
     go_wp2_with fail
     go_ret2
     exact ⟨ha, rfl, HI'.out.clip, HB.out⟩
end Go.Proofs.YtkddkkcfpnndlaaGreatDoor

namespace Go.Proofs.YtkddkkcfpnndlaaGreatDoor
open Go.RowKit

def aloneG (G : List (List Nat)) (sm : List Nat) : List (List Nat) := (List.range G.length).map fun i => if i ∈ sm then nbOf G i else []
theorem aloneG_length (G : List (List Nat)) (sm : List Nat) : (aloneG G sm).length = G.length := by simp [aloneG]
theorem aloneG_nb (G : List (List Nat)) (sm : List Nat) : nbOf (aloneG G sm) = Way.alone (nbOf G) sm := by
 funext i
 unfold Way.alone
 by_cases hi : i < G.length
 · simp [nbOf, aloneG, hi]
 · have h1 : nbOf G i = [] := by unfold nbOf; rw [List.getElem?_eq_none (by omega)]; rfl
   have h2 : nbOf (aloneG G sm) i = [] := by unfold nbOf; rw [List.getElem?_eq_none (by rw [aloneG_length]; omega)]; rfl
   rw [h1, h2]; simp
theorem aloneG_check {G : List (List Nat)} {items : Int} (sm : List Nat) (h : gcheck (G.map nats) items = true) : gcheck ((aloneG G sm).map nats) items = true := by
 obtain ⟨h1, h2, h3, h4⟩ := gcheck_parts h
 simp only [gcheck, Bool.and_eq_true, decide_eq_true_eq, Bool.not_eq_true', List.any_eq_false]
 refine ⟨⟨⟨h1, h2⟩, by simpa [aloneG] using h3⟩, fun l hl => ?_⟩
 obtain ⟨L, hL, rfl⟩ := List.mem_map.1 hl
 unfold aloneG at hL
 obtain ⟨i, hi, rfl⟩ := List.mem_map.1 hL
 have hi := List.mem_range.1 hi
 by_cases hs : i ∈ sm
 · rw [if_pos hs]
   have := h4 (nats (nbOf G i)) (List.mem_map.2 ⟨_, by unfold nbOf; rw [List.getElem?_eq_getElem hi]; exact List.getElem_mem hi, rfl⟩)
   simp [this]
 · rw [if_neg hs]; simp [nats, risesFrom]
theorem many_list (M : Nat) (h : Nat → Option Nat) : manyOf (listOf M h) = (((List.range M).filter fun i => (h i).isSome).length : Int) := by
 unfold manyOf listOf
 rw [List.filter_map, List.length_map]
 congr 2
 refine List.filter_congr fun i _ => ?_
 simp only [Function.comp]
 cases hh : h i with
 | none => rfl
 | some k => simp [itm]
theorem many_all {G : List (List Nat)} {items : Int} {sm : List Nat} (hg : gcheck (G.map nats) items = true) (hn : sm.Nodup) (hs : ∀ i, i ∈ sm → i < G.length) :
   (manyOf (mostL (aloneG G sm) G.length) == (sm.length : Int)) = Way.allOf (nbOf G) G.length sm := by
 unfold mostL
 rw [aloneG_length, many_list, aloneG_nb, ← Way.allOf_many (g8_of hg) hn hs, Bool.eq_iff_iff, beq_iff_eq, decide_eq_true_eq]
 omega
structure AloneAt (w wr : World) (B gn : Nat) (G : List (List Nat)) (sm : List Nat) : Prop where
 row : ∃ vals, VRow wr B 25 vals ∧ vals.length = gn ∧ ∀ i, i < gn → ∃ a n c, vals[i]? = some (.slice a n c) ∧ Ints w a n c (nats (if i ∈ sm then nbOf G i else []))
 below : Below w.heap.size w wr
theorem sm_take {sm : List Nat} {j k : Nat} (h : sm[j]? = some k) (i : Nat) : (i ∈ sm.take (j + 1)) ↔ i ∈ sm.take j ∨ i = k := by
 rw [List.take_add_one, h]; simp
theorem all_post {a b : Bool} (h : a = b) : Ending.returned (.tuple #[.bool a, .int .i64 0]) = .returned (.tuple #[.bool b, .int .i64 0]) := by rw [h]
set_option maxRecDepth 100000 in
set_option maxHeartbeats 2000000 in
theorem All_yes (ga sa : Option Addr) (gn gc sn sc : Nat) (G : List (List Nat)) (items : Int) (sm : List Nat) (w : World) (hg : Rows w ga gn gc (G.map nats)) (hs : Ints w sa sn sc (nats sm)) (hok : nearOk (G.map nats) items (nats sm) = true) (hnd : sm.Nodup) (hsM : ∀ i, i ∈ sm → i < gn) :
   Calls Tryz.prog 213 #[.slice ga gn gc, .int .i64 items, .slice sa sn sc] w fun e w' => e = .returned (.tuple #[.bool (Way.allOf (nbOf G) gn sm), .int .i64 0]) ∧ Below w.heap.size w w' := by
 have hl : G.length = gn := by have := hg.len; simpa using this
 have hgc : gcheck (G.map nats) items = true := by simp only [nearOk, Bool.and_eq_true] at hok; exact hok.1
 have h8 : gn ≤ 8 := by have := (gcheck_parts hgc).2.2.1; rw [List.length_map] at this; omega
 have hsl : sm.length = sn := by have := hs.len; simpa [nats] using this
 have hsn : sn ≤ 8 := by
   have := Way.nodup_len hnd (m := List.range gn) fun x hx => List.mem_range.2 (hsM x hx)
   simp at this; omega
 have HN := Lib.hid (Near_yes ga sa gn gc sn sc G items sm w hg hs hok)
 have hmk := mkRows gn (by omega)
 have hma := many_all hgc hnd (by rw [hl]; exact hsM)
 have HMA := Lib.hid hma; clear hma
 have HG := Lib.hid hg; clear hg
 have HS := Lib.hid hs; clear hs
 have HL := Lib.hid hl; clear hl
 have HSL := Lib.hid hsl; clear hsl
 have HC := Lib.hid hgc; clear hgc hok
 have HSM := Lib.hid hsM; clear hsM hnd
 go_enter Tryz.func213, Tryz.ntmps213
 go_wp2_with fail
 refine HN.out.mono ?_
 rintro e w1 ⟨na, nn, nc, rfl, _, hb⟩
 have HB1 := Lib.hid hb; clear hb HN
 go_wp2_with fail
 have HA0 := Lib.hid (show AloneAt w (w1.alloc (.cells (List.replicate gn (Value.slice none 0 0)).toArray 25)) w1.heap.size gn G [] from
   ⟨⟨_, VRow.new w1 _ _, by simp, fun i hi => ⟨none, 0, 0, by simp [hi], by simpa [nats] using Ints.empty w none 0⟩⟩, HB1.out.alloc HB1.out.size _⟩)
 have z1 := HB1.out.size
 clear hmk
 go_loopg [30] sn (fun g s30 wr => ∃ j : Nat, j + g = sn ∧ s30 = .int .i64 j ∧ AloneAt w wr w1.heap.size gn G (sm.take j))
 case atStart => exact ⟨0, by omega, rfl, HA0.out⟩
 case round =>
   obtain ⟨j, hj, rfl, hA⟩ := hrel
   have HJ := Lib.hid hj; clear hj
   by_cases hlt : j < sn
   · obtain ⟨k, hk⟩ : ∃ k, sm[j]? = some k := ⟨_, List.getElem?_eq_getElem (by rw [HSL.out]; exact hlt)⟩
     have hkn := HSM.out k (List.mem_of_getElem? hk)
     obtain ⟨sb, so, rfl⟩ := HS.out.addr (by omega)
     have cs := (HS.out.below hA.below (Nat.le_refl _)).cell sb so rfl j (k : Int) (by simp [nats, hk])
     obtain ⟨gb, go, rfl⟩ := HG.out.addr (by omega)
     have hGk : (G.map nats)[k]? = some (nats (nbOf G k)) := by simp [nbOf, List.getElem?_eq_getElem (show k < G.length by rw [HL.out]; exact hkn)]
     obtain ⟨la, ln, lc, hcl, hli⟩ := HG.out.row hA.below (Nat.le_refl _) (b := gb) (o := go) (k := k) rfl hGk
     obtain ⟨vals, hv, hvl, hvi⟩ := hA.row
     obtain ⟨oa, on, oc, hov, _⟩ := hvi k hkn
     have cov := hv.cell hov
     have fov := hv.frozen k
     have i1 : (k : Int) < (gn : Int) := by omega
     have HV := Lib.hid hv; clear hv
     have HVI := Lib.hid hvi; clear hvi
     have HLI := Lib.hid hli; clear hli
     have HAB := Lib.hid hA.below; clear hA
     have HK := Lib.hid hk; clear hk hGk hov
     have HVL := Lib.hid hvl; clear hvl
     go_wp2_with fail
     go_roundg (gk - 1)
     case measure => have := HJ.out; omega
     case rel =>
       refine ⟨j + 1, by have := HJ.out; omega, by go_num, ⟨⟨_, HV.out.set k (.slice la ln lc), by rw [List.length_set]; exact HVL.out, fun i hi => ?_⟩, HAB.out.setCell (p := ⟨w1.heap.size, k, none⟩) (by simp; omega) _⟩⟩
       by_cases e : i = k
       · subst e
         rw [if_pos ((sm_take HK.out i).2 (.inr rfl))]
         exact ⟨la, ln, lc, by rw [List.getElem?_set, if_pos rfl, if_pos (by rw [HVL.out]; exact hi)], HLI.out⟩
       · obtain ⟨a, n, c, h1, h2⟩ := HVI.out i hi
         refine ⟨a, n, c, by rw [List.getElem?_set, if_neg (fun h => e h.symm)]; exact h1, ?_⟩
         have : (i ∈ sm.take (j + 1)) ↔ i ∈ sm.take j := by rw [sm_take HK.out i]; simp [e]
         simp only [this]; exact h2
   · obtain rfl : j = sn := by have := HJ.out; omega
     rw [List.take_of_length_le (by rw [HSL.out]; exact Nat.le_refl _)] at hA
     obtain ⟨vals, hv, hvl, hvi⟩ := hA.row
     have hR : Rows wr (some ⟨w1.heap.size, 0, none⟩) gn gn ((aloneG G sm).map nats) := by
       have := hv.rows (xss := (aloneG G sm).map nats) (by rw [List.length_map, aloneG_length, HL.out]; omega) fun i xs hi => by
         have hil : i < gn := by have := (List.getElem?_eq_some_iff.1 hi).1; rwa [List.length_map, aloneG_length, HL.out] at this
         obtain ⟨a, n, c, h1, h2⟩ := hvi i hil
         have : xs = nats (if i ∈ sm then nbOf G i else []) := by
           rw [List.getElem?_map] at hi
           unfold aloneG at hi
           rw [List.getElem?_map, List.getElem?_range (by rw [HL.out]; exact hil)] at hi
           simpa using hi.symm
         subst this
         exact ⟨a, n, c, h1, h2.below hA.below (Nat.le_refl _)⟩
       rwa [List.length_map, aloneG_length, HL.out] at this
     have HB := Lib.hid hA.below; clear hA hv hvl hvi
     have HM := Lib.hid (Most_yes (some ⟨w1.heap.size, 0, none⟩) gn gn (aloneG G sm) items wr hR (aloneG_check sm HC.out)); clear hR
     go_wp2_with fail
     refine HM.out.mono ?_
     rintro e w4 ⟨ma, rfl, hmi, hb4⟩
     have HB4 := Lib.hid (HB.out.trans (hb4.mono HB.out.size)); clear hb4
     have HMI := Lib.hid hmi; clear hmi
     go_wp2_with (refine (many_any ma gn gn _ w4 HMI.out).mono ?_; rintro e w5 ⟨rfl, rfl⟩)
     go_ret2
     refine ⟨all_post (?_ : (manyOf (mostL (aloneG G sm) gn) == (j : Int)) = Way.allOf (nbOf G) gn sm), HB4.out⟩
     have := HMA.out
     rw [HL.out, HSL.out] at this
     exact this
end Go.Proofs.YtkddkkcfpnndlaaGreatDoor
