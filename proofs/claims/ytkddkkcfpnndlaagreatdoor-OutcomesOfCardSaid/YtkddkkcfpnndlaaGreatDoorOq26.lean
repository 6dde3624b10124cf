/- Walks: the references' checks of bids and markets. -/
import Derived.Test.YtkddkkcfpnndlaaGreatDoorOq09
import Derived.Test.YtkddkkcfpnndlaaGreatDoorOq11
namespace Go.Proofs.YtkddkkcfpnndlaaGreatDoor
open Go.RowKit Sale

theorem cell_step00 {w w' : World} {b o : Nat} {v : Value} (hb : Below w.heap.size w w') (h : w.cell? ⟨b, o, none⟩ = some v) : w'.cell? ⟨b, o, none⟩ = some v := by
 rw [hb.cell (p := ⟨b, o, none⟩) (block_lt_of_cell h)]; exact h
theorem vcheck_no {xs : List Int} {N k : Nat} {x : Int} (h : xs[k]? = some x) (hx : x < 0 ∨ 1000000 < x) : vcheck xs N = false := by
 cases hv : vcheck xs N with
 | false => rfl
 | true => have := (vcheck_parts hv).2.2.2 x (List.mem_of_getElem? h); omega
theorem vcheck_len {xs : List Int} {N : Nat} (h : N < 1 ∨ 8 < N ∨ xs.length ≠ N) : vcheck xs N = false := by
 cases hv : vcheck xs N with
 | false => rfl
 | true => have := vcheck_parts hv; omega
set_option maxHeartbeats 1000000 in
theorem ref04_any (a : Option Addr) (n c N : Nat) (xs : List Int) (w : World) (h : Ints w a n c xs) (hn : n ≤ 17592186044416) :
   Calls Tryz.prog 157 #[.slice a n c, .int .i64 (N : Int)] w fun e w' => e = .returned (.bool (vcheck xs N)) ∧ w = w' := by
 have hl := h.len
 by_cases h1 : N < 1
 · rw [vcheck_len (.inl h1)]
   have f1 : decide ((N : Int) < 1) = true := by simp; omega
   go_enter Tryz.func157, Tryz.ntmps157
   go_wp2_with fail
   go_ret
   exact ⟨rfl, rfl⟩
 have f1 : decide ((N : Int) < 1) = false := by simp; omega
 by_cases h2 : 8 < N
 · rw [vcheck_len (.inr (.inl h2))]
   have f2 : decide (8 < (N : Int)) = true := by simp; omega
   go_enter Tryz.func157, Tryz.ntmps157
   go_wp2_with fail
   go_ret
   exact ⟨rfl, rfl⟩
 have f2 : decide (8 < (N : Int)) = false := by simp; omega
 by_cases h3 : n = N
 case neg =>
   rw [vcheck_len (.inr (.inr (by omega)))]
   have f3 : ((n : Int) != (N : Int)) = true := by simp; omega
   have f4 : (n != N) = true := by simp; omega
   clear hl h3 h
   go_enter Tryz.func157, Tryz.ntmps157
   go_wp2_with fail
   go_ret
   exact ⟨rfl, rfl⟩
 subst h3
 have HH := Lib.hid h; clear h
 have HL := Lib.hid hl; clear hl
 go_enter Tryz.func157, Tryz.ntmps157
 go_wp2_with fail
 go_loopg [5] n (fun g s5 wr => ∃ k : Nat, k + g = n ∧ s5 = .int .i64 k ∧ (∀ x, x ∈ xs.take k → 0 ≤ x ∧ x ≤ 1000000) ∧ wr = w)
 case atStart => exact ⟨0, by omega, rfl, fun x h => by simp at h, rfl⟩
 case round =>
   obtain ⟨k, hk, rfl, ht, rfl⟩ := hrel
   have HK := Lib.hid hk; clear hk
   have HT := Lib.hid ht; clear ht
   by_cases hlt : k < n
   · obtain ⟨x, hx, hb1, hb2⟩ := HH.out.get hlt
     obtain ⟨b, o, rfl⟩ := HH.out.addr (by omega)
     have hc := HH.out.cell b o rfl k x hx
     have i1 : (k : Int) < (n : Int) := by omega
     by_cases hx1 : x < 0
     · have hv := vcheck_no (N := n) hx (.inl hx1)
       have e1 : decide (x < 0) = true := by simpa using hx1
       have HV := Lib.hid hv; clear hv hx
       go_wp2_with fail
       go_ret
       exact ⟨ret_bool (by rw [HV.out]), rfl⟩
     · have e1 : decide (x < 0) = false := by simpa using hx1
       by_cases hx2 : 1000000 < x
       · have hv := vcheck_no (N := n) hx (.inr hx2)
         have e2 : decide (1000000 < x) = true := by simpa using hx2
         have HV := Lib.hid hv; clear hv hx
         go_wp2_with fail
         go_ret
         exact ⟨ret_bool (by rw [HV.out]), rfl⟩
       · have e2 : decide (1000000 < x) = false := by simpa using hx2
         have HX := Lib.hid hx; clear hx
         go_wp2_with fail
         go_roundg (gk - 1)
         case measure => have := HK.out; omega
         case rel =>
           refine ⟨k + 1, by have := HK.out; omega, by go_num, fun y hy => ?_, rfl⟩
           rw [List.take_add_one, HX.out] at hy
           simp only [Option.toList_some, List.mem_append, List.mem_singleton] at hy
           rcases hy with hy | rfl
           · exact HT.out y hy
           · omega
   · obtain rfl : k = n := by have := HK.out; omega
     have hl := HL.out
     have hv : vcheck xs k = true := vcheck_of (by omega) (by omega) (by omega) (fun x hx => HT.out x (by rw [List.take_of_length_le (by omega)]; exact hx))
     have HV := Lib.hid hv; clear hv hl
     go_wp2_with fail
     go_ret
     exact ⟨ret_bool (by rw [HV.out]), rfl⟩

theorem perm_of_counts : ∀ (L M : List Int), L.Nodup → (∀ i, i ∈ L → M.count i = 1) → M.length = L.length → M.Perm L
 | [], M, _, _, hl => by have : M = [] := List.eq_nil_of_length_eq_zero hl; rw [this]
 | i :: L, M, hn, hc, hl => by
   have hi : i ∈ M := List.count_pos_iff.1 (by rw [hc i (List.mem_cons_self ..)]; omega)
   have hp := List.perm_cons_erase hi
   have hn' := List.nodup_cons.1 hn
   refine hp.trans (List.Perm.cons i (perm_of_counts L (M.erase i) hn'.2 (fun j hj => ?_) ?_))
   · have hne : j ≠ i := fun e => hn'.1 (e ▸ hj)
     rw [List.count_erase_of_ne hne]
     exact hc j (List.mem_cons_of_mem _ hj)
   · rw [List.length_erase_of_mem hi, hl]; rfl
theorem isOrd_counts {l : List Int} {m : Nat} : isOrd l m = true ↔ l.length = m ∧ ∀ i, i < m → l.count (i : Int) = 1 := by
 have hn : (upTo m).Nodup := by
   unfold upTo
   unfold List.Nodup
   rw [List.pairwise_map]
   exact List.nodup_range.imp (fun h e => h (Int.ofNat.inj e))
 unfold isOrd
 rw [List.isPerm_iff]
 constructor
 · intro h
   refine ⟨by rw [h.length_eq]; simp [upTo], fun i hi => ?_⟩
   rw [h.count_eq]
   exact count_one hn (by simp [upTo]; exact ⟨i, hi, rfl⟩)
 · intro ⟨h1, h2⟩
   refine perm_of_counts _ _ hn (fun i hi => ?_) (by rw [h1]; simp [upTo])
   obtain ⟨j, hj, rfl⟩ : ∃ j : Nat, j < m ∧ (j : Int) = i := by simpa [upTo] using hi
   exact h2 j hj
theorem mcheck_is {m : Mkt} : mcheck m = true ↔ vcheck m.res m.res.length = true ∧ 1 ≤ m.bids.length ∧ m.bids.length ≤ 8 ∧ m.ord.length = m.bids.length ∧ (∀ b, b ∈ m.bids → b = [] ∨ vcheck b m.res.length = true) ∧ ∀ i, i < m.bids.length → m.ord.count (i : Int) = 1 := by
 constructor
 · intro h
   have hk := mcheck_ok h
   have ho := isOrd_counts.1 hk.ord
   refine ⟨?_, hk.m1, hk.m8, ho.1, fun b hb => ?_, ho.2⟩
   · have h1 := hk.n1; have h8 := hk.n8; exact vcheck_of (by omega) (by omega) rfl hk.res
   · rcases hk.bid b hb with h | ⟨h1, h2⟩
     · exact .inl h
     · have h3 := hk.n1; have h8 := hk.n8; exact .inr (vcheck_of (by omega) (by omega) (by rw [h1]) h2)
 · intro ⟨h1, h2, h3, h4, h5, h6⟩
   have hv := vcheck_parts h1
   refine mcheck_of ⟨by omega, by omega, h2, h3, hv.2.2.2, fun b hb => ?_, isOrd_counts.2 ⟨h4, h6⟩⟩
   rcases h5 b hb with h | h
   · exact .inl h
   · have := vcheck_parts h; exact .inr ⟨by omega, this.2.2.2⟩
theorem mcheck_not {m : Mkt} (h : ¬ (vcheck m.res m.res.length = true ∧ 1 ≤ m.bids.length ∧ m.bids.length ≤ 8 ∧ m.ord.length = m.bids.length ∧ (∀ b, b ∈ m.bids → b = [] ∨ vcheck b m.res.length = true) ∧ ∀ i, i < m.bids.length → m.ord.count (i : Int) = 1)) : mcheck m = false := by
 cases hc : mcheck m with
 | false => rfl
 | true => exact absurd (mcheck_is.1 hc) h

set_option maxHeartbeats 2000000 in
theorem ref05_any (ra ba oa : Option Addr) (rn rc bn bc on oc : Nat) (m : Mkt) (w : World) (hm : MktAt w ra ba oa rn rc bn bc on oc m) (h1 : rn ≤ 17592186044416) (h2 : bn ≤ 17592186044416) (h3 : on ≤ 17592186044416) (hx : ∀ xs, xs ∈ m.bids → xs.length ≤ 17592186044416) :
   Calls Tryz.prog 103 #[.agg #[.slice ra rn rc, .slice ba bn bc, .slice oa on oc]] w fun e w' => e = .returned (.bool (mcheck m)) ∧ Below w.heap.size w w' := by
 have hl1 := hm.res.len
 have hl2 := hm.bids.len
 have hl3 := hm.ord.len
 have HM := Lib.hid (mw_start w ra ba oa rn rc bn bc on oc)
 obtain ⟨c0, c1, c2, hs, hbw⟩ := mw_kept HM.out
 have hm1 := hm.below hbw (Nat.le_refl _)
 obtain ⟨w1, hw1⟩ : ∃ w1, w1 = mw w ra ba oa rn rc bn bc on oc := ⟨_, rfl⟩
 rw [← hw1] at c0 c1 c2 hm1 hbw
 have HM1 := Lib.hid hm1; clear hm1
 have HBW := Lib.hid hbw; clear hbw
 have HX := Lib.hid hx; clear hx
 have hw1' : w.alloc (.cells #[.slice ra rn rc, .slice ba bn bc, .slice oa on oc] 57) = w1 := hw1.symm
 clear hw1 hm hs HM
 obtain ⟨cv, hcv⟩ : ∃ cv, vcheck m.res m.res.length = cv := ⟨_, rfl⟩
 obtain ⟨mv, hmv⟩ : ∃ mv, mcheck m = mv := ⟨_, rfl⟩
 rw [hmv]
 have hmi := @mcheck_is m
 have hmn := @mcheck_not m
 rw [hmv] at hmi hmn
 rw [hl1, hl2, hl3] at hmi hmn
 rw [hl1] at hcv
 rw [hcv] at hmi hmn
 have HMI := Lib.hid hmi; clear hmi
 have HMN := Lib.hid hmn; clear hmn
 have HCV := Lib.hid hcv; clear hcv
 have HMV := Lib.hid hmv; clear hmv
 have HL := Lib.hid (And.intro hl1 (And.intro hl2 hl3)); clear hl1 hl2 hl3
 go_enter Tryz.func103, Tryz.ntmps103
 go_wp2_with fail
 try rw [hw1']
 clear hw1'
 refine (ref04_any ra rn rc rn m.res w1 HM1.out.res h1).mono ?_
 rw [HCV.out]
 rintro e w' ⟨rfl, rfl⟩
 cases cv with
 | false =>
   have hv : mv = false := HMN.out (by simp)
   subst hv
   go_wp2_with fail
   go_ret
   exact ⟨rfl, HBW.out⟩
 | true =>
 by_cases g1 : bn < 1
 · have hv : mv = false := HMN.out (by omega)
   subst hv
   have f1 : decide ((bn : Int) < 1) = true := by simp; omega
   go_wp2_with fail
   go_ret
   exact ⟨rfl, HBW.out⟩
 have f1 : decide ((bn : Int) < 1) = false := by simp; omega
 by_cases g2 : 8 < bn
 · have hv : mv = false := HMN.out (by omega)
   subst hv
   have f2 : decide (8 < (bn : Int)) = true := by simp; omega
   go_wp2_with fail
   go_ret
   exact ⟨rfl, HBW.out⟩
 have f2 : decide (8 < (bn : Int)) = false := by simp; omega
 by_cases g3 : on = bn
 case neg =>
   have hv : mv = false := HMN.out (by omega)
   subst hv
   have f3 : ((on : Int) != (bn : Int)) = true := by simp; omega
   have f4 : (on != bn) = true := by simp; omega
   clear g3
   go_wp2_with fail
   go_ret
   exact ⟨rfl, HBW.out⟩
 subst g3
 go_wp2_with fail
 go_loopg [5, 6, 7] on (fun g s5 s6 s7 wr => ∃ k : Nat, k + g = on ∧ s5 = .int .i64 k ∧ (∀ b, b ∈ m.bids.take k → b = [] ∨ vcheck b rn = true) ∧ (∀ i, i < k → m.ord.count (i : Int) = 1) ∧ Below w1.heap.size w1 wr)
 case atStart => exact ⟨0, by omega, rfl, fun x h => by simp at h, fun i hi => by omega, Below.refl _ _⟩
 case round =>
   obtain ⟨k, hk, rfl, hbs, hcs, hB⟩ := hrel
   have HK := Lib.hid hk; clear hk
   have HBS := Lib.hid hbs; clear hbs
   have HCS := Lib.hid hcs; clear hcs
   obtain ⟨w2, rfl⟩ : ∃ w2, w2 = wr := ⟨_, rfl⟩
   have c1w := cell_step00 hB c1
   have c2w := cell_step00 hB c2
   by_cases hlt : k < on
   · obtain ⟨b, hb⟩ := HM1.out.bids.get hlt
     obtain ⟨bb, bo, rfl⟩ := HM1.out.bids.addr (by omega)
     obtain ⟨la, ln, lc, hcl, hli⟩ := HM1.out.bids.cell bb bo rfl k b hb
     have hclw := cell_step00 hB hcl
     have hlw := hli.below hB (Nat.le_refl _)
     have hll := hli.len
     have hbm : b ∈ m.bids := List.mem_of_getElem? hb
     have hln := HX.out b hbm
     rw [hll] at hln
     have HLI := Lib.hid hlw; clear hlw hli hcl
     have HB := Lib.hid hB; clear hB
     have HBM := Lib.hid (And.intro hb hbm); clear hb hbm
     have HLL := Lib.hid hll; clear hll
     have i1 : (k : Int) < (on : Int) := by omega
     obtain ⟨gO, hgO⟩ : ∃ n, n = gk - 1 := ⟨_, rfl⟩
     have HGO := Lib.hid hgO; clear hgO
     obtain ⟨bv, hbv⟩ : ∃ bv, vcheck b rn = bv := ⟨_, rfl⟩
     have HBV := Lib.hid hbv; clear hbv
     have goon : (b = [] ∨ vcheck b rn = true) → ∀ (K : Prop), (∀ x, x ∈ m.bids.take (k + 1) → x = [] ∨ vcheck x rn = true) → True := fun _ _ _ => trivial
     clear goon
     by_cases hpos : 0 < ln
     · have p1 : decide (0 < (ln : Int)) = true := by simp; omega
       cases bv with
       | false =>
         have hv : mv = false := HMN.out (fun h => by
           rcases h.2.2.2.2.1 b HBM.out.2 with h' | h'
           · have := HLL.out; rw [h'] at this; simp at this; omega
           · rw [HBV.out] at h'; cases h')
         subst hv
         go_wp2_with fail
         refine (ref04_any la ln lc rn b _ HLI.out hln).mono ?_
         rw [HBV.out]
         rintro e w' ⟨rfl, rfl⟩
         go_wp2_with fail
         go_ret
         exact ⟨rfl, HBW.out.trans (HB.out.mono HBW.out.size)⟩
       | true =>
         have hbs' : ∀ x, x ∈ m.bids.take (k + 1) → x = [] ∨ vcheck x rn = true := fun x hx => by
           rw [List.take_add_one, HBM.out.1] at hx
           simp only [Option.toList_some, List.mem_append, List.mem_singleton] at hx
           rcases hx with hx | rfl
           · exact HBS.out x hx
           · exact .inr HBV.out
         have HBS' := Lib.hid hbs'; clear hbs'
         go_wp2_with fail
         refine (ref04_any la ln lc rn b _ HLI.out hln).mono ?_
         rw [HBV.out]
         rintro e w' ⟨rfl, rfl⟩
         go_wp2_with fail
         have HB2 := Lib.hid HB.out
         go_loopg [6, 7] on (fun g s6 s7 wr => ∃ j : Nat, j + g = on ∧ s7 = .int .i64 j ∧ s6 = .int .i64 (((m.ord.take j).count (k : Int) : Nat) : Int) ∧ wr = w2)
         case atStart => exact ⟨0, by omega, rfl, rfl, rfl⟩
         case round =>
           obtain ⟨j, hj, rfl, rfl, rfl⟩ := hrel
           have HJ := Lib.hid hj; clear hj
           have hcb : (m.ord.take j).count (k : Int) ≤ j := Nat.le_trans List.count_le_length (List.length_take_le _ _)
           obtain ⟨t, ht⟩ : ∃ t, t = (m.ord.take j).count (k : Int) := ⟨_, rfl⟩
           rw [← ht] at hcb ⊢
           have HT := Lib.hid ht; clear ht
           by_cases hjl : j < on
           · obtain ⟨x, hx, _⟩ := HM1.out.ord.get hjl
             obtain ⟨ob, oo, rfl⟩ := HM1.out.ord.addr (by omega)
             have hcx := cell_step00 HB2.out (HM1.out.ord.cell ob oo rfl j x hx)
             have hsn : m.ord.take (j + 1) = m.ord.take j ++ [x] := by rw [List.take_add_one, hx]; rfl
             have HX2 := Lib.hid hsn; clear hsn hx
             have i2 : (j : Int) < (on : Int) := by omega
             by_cases hxk : x = (k : Int)
             · subst hxk
               go_wp2_with fail
               go_roundg (gk - 1)
               case measure => have := HJ.out; omega
               case rel => exact ⟨j + 1, by have := HJ.out; omega, by go_num, by rw [HX2.out, List.count_append, ← HT.out]; simp, rfl⟩
             · have e1 : (x == (k : Int)) = false := by simpa using hxk
               have HXK := Lib.hid hxk; clear hxk
               go_wp2_with fail
               go_roundg (gk - 1)
               case measure => have := HJ.out; omega
               case rel => exact ⟨j + 1, by have := HJ.out; omega, by go_num, by rw [HX2.out, List.count_append, ← HT.out, List.count_singleton]; simp [HXK.out], rfl⟩
           · obtain rfl : j = on := by have := HJ.out; omega
             have hl3 := HL.out.2.2
             have ht2 := HT.out
             rw [List.take_of_length_le (by omega)] at ht2
             have HT2 := Lib.hid ht2; clear ht2 hl3
             by_cases ht1 : t = 1
             · have e1 : ((t : Int) != 1) = false := by simp; omega
               have HT1 := Lib.hid ht1; clear ht1
               go_wp2_with fail
               go_roundg gO
               case measure => have := HK.out; have := HGO.out; omega
               case rel =>
                 refine ⟨k + 1, by have := HK.out; have := HGO.out; omega, by go_num, HBS'.out, fun i hi => ?_, HB.out⟩
                 by_cases e : i = k
                 · rw [e, ← HT2.out, HT1.out]
                 · exact HCS.out i (by omega)
             · have e1 : ((t : Int) != 1) = true := by simp; omega
               have hv : mv = false := HMN.out (fun h => ht1 (by rw [HT2.out]; exact h.2.2.2.2.2 k hlt))
               subst hv
               clear ht1
               go_wp2_with fail
               go_ret
               exact ⟨rfl, HBW.out.trans (HB.out.mono HBW.out.size)⟩
     · have p1 : decide (0 < (ln : Int)) = false := by simp; omega
       have hbs' : ∀ x, x ∈ m.bids.take (k + 1) → x = [] ∨ vcheck x rn = true := fun x hx => by
         rw [List.take_add_one, HBM.out.1] at hx
         simp only [Option.toList_some, List.mem_append, List.mem_singleton] at hx
         rcases hx with hx | rfl
         · exact HBS.out x hx
         · exact .inl (List.eq_nil_of_length_eq_zero (by have := HLL.out; omega))
       have HBS' := Lib.hid hbs'; clear hbs'
       go_wp2_with fail
       have HB2 := Lib.hid HB.out
       go_loopg [6, 7] on (fun g s6 s7 wr => ∃ j : Nat, j + g = on ∧ s7 = .int .i64 j ∧ s6 = .int .i64 (((m.ord.take j).count (k : Int) : Nat) : Int) ∧ wr = w2)
       case atStart => exact ⟨0, by omega, rfl, rfl, rfl⟩
       case round =>
         obtain ⟨j, hj, rfl, rfl, rfl⟩ := hrel
         have HJ := Lib.hid hj; clear hj
         have hcb : (m.ord.take j).count (k : Int) ≤ j := Nat.le_trans List.count_le_length (List.length_take_le _ _)
         obtain ⟨t, ht⟩ : ∃ t, t = (m.ord.take j).count (k : Int) := ⟨_, rfl⟩
         rw [← ht] at hcb ⊢
         have HT := Lib.hid ht; clear ht
         by_cases hjl : j < on
         · obtain ⟨x, hx, _⟩ := HM1.out.ord.get hjl
           obtain ⟨ob, oo, rfl⟩ := HM1.out.ord.addr (by omega)
           have hcx := cell_step00 HB2.out (HM1.out.ord.cell ob oo rfl j x hx)
           have hsn : m.ord.take (j + 1) = m.ord.take j ++ [x] := by rw [List.take_add_one, hx]; rfl
           have HX2 := Lib.hid hsn; clear hsn hx
           have i2 : (j : Int) < (on : Int) := by omega
           by_cases hxk : x = (k : Int)
           · subst hxk
             go_wp2_with fail
             go_roundg (gk - 1)
             case measure => have := HJ.out; omega
             case rel => exact ⟨j + 1, by have := HJ.out; omega, by go_num, by rw [HX2.out, List.count_append, ← HT.out]; simp, rfl⟩
           · have e1 : (x == (k : Int)) = false := by simpa using hxk
             have HXK := Lib.hid hxk; clear hxk
             go_wp2_with fail
             go_roundg (gk - 1)
             case measure => have := HJ.out; omega
             case rel => exact ⟨j + 1, by have := HJ.out; omega, by go_num, by rw [HX2.out, List.count_append, ← HT.out, List.count_singleton]; simp [HXK.out], rfl⟩
         · obtain rfl : j = on := by have := HJ.out; omega
           have hl3 := HL.out.2.2
           have ht2 := HT.out
           rw [List.take_of_length_le (by omega)] at ht2
           have HT2 := Lib.hid ht2; clear ht2 hl3
           by_cases ht1 : t = 1
           · have e1 : ((t : Int) != 1) = false := by simp; omega
             have HT1 := Lib.hid ht1; clear ht1
             go_wp2_with fail
             go_roundg gO
             case measure => have := HK.out; have := HGO.out; omega
             case rel =>
               refine ⟨k + 1, by have := HK.out; have := HGO.out; omega, by go_num, HBS'.out, fun i hi => ?_, HB.out⟩
               by_cases e : i = k
               · rw [e, ← HT2.out, HT1.out]
               · exact HCS.out i (by omega)
           · have e1 : ((t : Int) != 1) = true := by simp; omega
             have hv : mv = false := HMN.out (fun h => ht1 (by rw [HT2.out]; exact h.2.2.2.2.2 k hlt))
             subst hv
             clear ht1
             go_wp2_with fail
             go_ret
             exact ⟨rfl, HBW.out.trans (HB.out.mono HBW.out.size)⟩
   · obtain rfl : k = on := by have := HK.out; omega
     have hv : mv = true := HMI.out.2 ⟨trivial, by omega, by omega, trivial, fun b hb => HBS.out b (by have := HL.out.2.1; rw [List.take_of_length_le (by omega)]; exact hb), HCS.out⟩
     subst hv
     have HB := Lib.hid hB; clear hB
     go_wp2_with fail
     go_ret
     exact ⟨rfl, HBW.out.trans (HB.out.mono HBW.out.size)⟩
end Go.Proofs.YtkddkkcfpnndlaaGreatDoor
