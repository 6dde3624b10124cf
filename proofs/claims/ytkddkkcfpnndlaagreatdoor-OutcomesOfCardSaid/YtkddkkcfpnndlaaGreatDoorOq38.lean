/- The reference's firsts in plain words: what may still be had, bidder by bidder. Walks: the reference's First. -/
import Derived.Test.YtkddkkcfpnndlaaGreatDoorOq31
import Derived.Test.YtkddkkcfpnndlaaGreatDoorOq06
import Derived.Test.YtkddkkcfpnndlaaGreatDoorOq26
namespace Go.Proofs.YtkddkkcfpnndlaaGreatDoor
open Go.RowKit Sale

def leftG (gains : List (List Int)) (n : Nat) (ds : List Nat) (av : Nat → Bool) : List (List Int) :=
 (List.range gains.length).map fun i => (List.range n).map fun k => if ds.contains i = false ∧ av k = true then gi gains i k else -1
theorem leftG_length (gains : List (List Int)) (n : Nat) (ds : List Nat) (av : Nat → Bool) : (leftG gains n ds av).length = gains.length := by simp [leftG]
theorem leftG_get {gains : List (List Int)} {n : Nat} {ds : List Nat} {av : Nat → Bool} {i : Nat} (hi : i < gains.length) : (leftG gains n ds av)[i]? = some ((List.range n).map fun k => if ds.contains i = false ∧ av k = true then gi gains i k else -1) := by simp [leftG, hi]
theorem leftG_gi {gains : List (List Int)} {n : Nat} {ds : List Nat} {av : Nat → Bool} {i k : Nat} (hi : i < gains.length) (hk : k < n) : gi (leftG gains n ds av) i k = if ds.contains i = false ∧ av k = true then gi gains i k else -1 :=
 gi_at (leftG_get hi) (by simp [hk])
theorem gi_bd {gains : List (List Int)} (hbd : ∀ l, l ∈ gains → ∀ x, x ∈ l → -1000000 ≤ x ∧ x ≤ 1000000) (i k : Nat) : -1000000 ≤ gi gains i k ∧ gi gains i k ≤ 1000000 := by
 refine ⟨?_, gi_le hbd i k⟩
 unfold gi
 cases h : gains[i]? with
 | none => simp
 | some l =>
   simp only [Option.getD_some]
   cases h2 : l[k]? with
   | none => simp
   | some x => simpa using (hbd l (List.mem_of_getElem? h) x (List.mem_of_getElem? h2)).1
theorem leftG_check {gains : List (List Int)} {n : Nat} {ds : List Nat} {av : Nat → Bool} (h : wcheck gains n = true) : wcheck (leftG gains n ds av) n = true := by
 obtain ⟨h1, h2, h3, _, h5⟩ := wcheck_parts h
 refine wcheck_is.2 ⟨h1, h2, by rw [leftG_length]; exact h3, fun l hl => ?_⟩
 obtain ⟨i, _, rfl⟩ := List.mem_map.1 hl
 refine ⟨by simp, fun x hx => ?_⟩
 obtain ⟨k, _, rfl⟩ := List.mem_map.1 hx
 split
 · exact gi_bd h5 i k
 · omega
theorem leftG_start {gains : List (List Int)} {n : Nat} (h : ∀ l, l ∈ gains → l.length = n) : leftG gains n [] (fun _ => true) = gains := by
 apply List.ext_getElem?
 intro i
 by_cases hi : i < gains.length
 · rw [leftG_get hi]
   have hg : gains[i]? = some gains[i] := by simp [hi]
   rw [hg]
   congr 1
   have hl := h gains[i] (List.getElem_mem hi)
   apply List.ext_getElem?
   intro k
   by_cases hk : k < n
   · rw [List.getElem?_map, List.getElem?_range hk]
     have hx : gains[i][k]? = some (gains[i][k]'(by omega)) := List.getElem?_eq_getElem (by omega)
     rw [hx, Option.map_some, gi_at hg hx]; simp
   · rw [List.getElem?_eq_none (by simp; omega), List.getElem?_eq_none (by omega)]
 · rw [List.getElem?_eq_none (by rw [leftG_length]; omega), List.getElem?_eq_none (by omega)]
theorem leftG_put {gains : List (List Int)} {n : Nat} {ds : List Nat} {av : Nat → Bool} {l : Nat} : (leftG gains n ds av).set l (List.replicate n (-1)) = leftG gains n (ds ++ [l]) av := by
 apply List.ext_getElem?
 intro i
 by_cases hi : i < gains.length
 · rw [List.getElem?_set, leftG_length, leftG_get hi, leftG_get hi]
   by_cases e : l = i
   · subst e
     rw [if_pos rfl, if_pos hi]
     congr 1
     apply List.ext_getElem?
     intro k
     by_cases hk : k < n
     · rw [List.getElem?_replicate, if_pos hk, List.getElem?_map, List.getElem?_range hk]; simp
     · rw [List.getElem?_eq_none (by simp; omega), List.getElem?_eq_none (by simp; omega)]
   · rw [if_neg e]
     congr 1
     refine List.map_congr_left fun k _ => ?_
     have : (ds ++ [l]).contains i = ds.contains i := by simp [Ne.symm e]
     rw [this]
 · rw [List.getElem?_eq_none (by rw [List.length_set, leftG_length]; omega), List.getElem?_eq_none (by rw [leftG_length]; omega)]
theorem leftG_without {gains : List (List Int)} {n : Nat} {ds : List Nat} {av : Nat → Bool} {k : Nat} : withoutG (leftG gains n ds av) k = leftG gains n ds (less av k) := by
 unfold withoutG leftG
 rw [List.map_map]
 refine List.map_congr_left fun i _ => ?_
 show ((List.range n).map _).set k (-1) = _
 apply List.ext_getElem?
 intro j
 by_cases hj : j < n
 · rw [List.getElem?_set, List.getElem?_map, List.getElem?_map, List.getElem?_range hj]
   by_cases e : k = j
   · subst e; rw [if_pos rfl, if_pos (by simp; exact hj)]; simp [less]
   · rw [if_neg e]
     have : less av k j = av j := by simp [less, Ne.symm e]
     simp [this]
 · rw [List.getElem?_eq_none (by simp; omega), List.getElem?_eq_none (by simp; omega)]
theorem idle_front {g : Nat → Nat → Int} {n : Nat} : ∀ (ds ls : List Nat) (av : Nat → Bool), (∀ i, i ∈ ds → ∀ r, r < n → g i r < 0) → opt g n (ds ++ ls) av = opt g n ls av
 | [], ls, av, _ => rfl
 | d :: ds, ls, av, h => by
   have h1 := opt_idle (g := g) (n := n) (i := d) (h d (List.mem_cons_self ..)) [] (ds ++ ls) av
   rw [List.nil_append, List.nil_append] at h1
   rw [List.cons_append, h1]
   exact idle_front ds ls av fun i hi => h i (List.mem_cons_of_mem _ hi)
theorem leftG_best {gains : List (List Int)} {n d : Nat} {on : List Nat} {av : Nat → Bool} (hp : on.Perm (List.range gains.length)) : bestVal (leftG gains n (on.take d) av) n = opt (gi gains) n (on.drop d) av := by
 have hnd : on.Nodup := hp.nodup_iff.2 List.nodup_range
 have hlt : ∀ k, k ∈ on → k < gains.length := fun k hk => List.mem_range.1 (hp.mem_iff.1 hk)
 unfold bestVal
 rw [leftG_length, ← opt_perm hnd hp]
 have h1 : opt (gi (leftG gains n (on.take d) av)) n on (fun _ => true) = opt (gi (leftG gains n (on.take d) av)) n (on.drop d) (fun _ => true) := by
   obtain ⟨G, hG⟩ : ∃ G, G = gi (leftG gains n (on.take d) av) := ⟨_, rfl⟩
   have hneg : ∀ i, i ∈ on.take d → ∀ r, r < n → G i r < 0 := fun i hi r hr => by
     rw [hG, leftG_gi (hlt i (List.mem_of_mem_take hi)) hr, if_neg (by simp [hi])]; omega
   rw [← hG]
   have h2 := idle_front (on.take d) (on.drop d) (fun _ => true) hneg
   rw [List.take_append_drop] at h2
   exact h2
 rw [h1]
 refine opt_alike fun l hl r hr => ?_
 have hlo : l ∈ on := List.mem_of_mem_drop hl
 have hnt : (on.take d).contains l = false := by
   rw [List.contains_eq_mem, decide_eq_false_iff_not]
   intro hm
   have hn := hnd
   rw [← List.take_append_drop d on] at hn
   exact (List.nodup_append.1 hn).2.2 l hm l hl rfl
 rw [leftG_gi (hlt l hlo) hr, hnt]
 cases hav : av r with
 | true => simp
 | false => simp
def hasR (on : List Nat) (d : Nat) (ms : List (Option Nat)) (i : Nat) : Int := if (on.take d).contains i = true then hasF (on.take d) ms i else -1
theorem hasR_zero (on : List Nat) (ms : List (Option Nat)) (i : Nat) : hasR on 0 ms i = -1 := rfl
theorem hasR_next {on : List Nat} {d l : Nat} {ms : List (Option Nat)} {o : Option Nat} (hl : on[d]? = some l) (hn : on.Nodup) (hm : ms.length = d) (i : Nat) : hasR on (d + 1) (ms ++ [o]) i = if i = l then itemOf o else hasR on d ms i := by
 have hml : ms.length = (on.take d).length := by rw [List.length_take]; have := (List.getElem?_eq_some_iff.1 hl).1; omega
 unfold hasR
 rw [take_snoc2 hl, hasF_snoc hml (not_mem_take hn hl)]
 by_cases e : i = l
 · subst e; simp
 · have : (on.take d ++ [l]).contains i = (on.take d).contains i := by simp [e]
   rw [this, if_neg e, if_neg e]
theorem hasR_none {on : List Nat} {d l : Nat} {ms : List (Option Nat)} (hl : on[d]? = some l) (hn : on.Nodup) (hm : ms.length = d) (N : Nat) : tabN N (hasR on (d + 1) (ms ++ [none])) = tabN N (hasR on d ms) :=
 tabN_congr fun i _ => by
   rw [hasR_next hl hn hm]
   split
   · subst i
     unfold hasR
     have : (on.take d).contains l = false := by
       rw [List.contains_eq_mem, decide_eq_false_iff_not]; exact not_mem_take hn hl
     rw [this, if_neg (by decide)]; rfl
   · rfl
theorem hasR_some {on : List Nat} {d l r : Nat} {ms : List (Option Nat)} (hl : on[d]? = some l) (hn : on.Nodup) (hm : ms.length = d) (N : Nat) : (tabN N (hasR on d ms)).set l (r : Int) = tabN N (hasR on (d + 1) (ms ++ [some r])) := by
 rw [tabN_set]
 exact tabN_congr fun i _ => by
   rw [hasR_next hl hn hm]
   split <;> rfl
theorem hasR_all {on : List Nat} {ms : List (Option Nat)} {m : Nat} (hp : on.Perm (List.range m)) : tabN m (hasR on m ms) = tabN m (hasF on ms) :=
 tabN_congr fun i hi => by
   unfold hasR
   have hl : on.length = m := by have := hp.length_eq; simpa using this
   rw [List.take_of_length_le (by omega), if_pos (by simpa using hp.mem_iff.2 (List.mem_range.2 hi))]
def candA (g : Nat → Nat → Int) (n l : Nat) (ls : List Nat) (av : Nat → Bool) (r : Nat) : Bool := av r && decide (0 ≤ g l r) && (g l r + opt g n ls (less av r) == opt g n (l :: ls) av)
theorem chooseA {g : Nat → Nat → Int} {n l : Nat} {ls : List Nat} {av : Nat → Bool} : Sale.choose g n l ls av = (List.range n).find? (candA g n l ls av) := rfl
theorem candA_on {g : Nat → Nat → Int} {n l : Nat} {ls : List Nat} {av : Nat → Bool} {k : Nat} (h : (List.range k).find? (candA g n l ls av) = none) (hk : candA g n l ls av k = false) : (List.range (k + 1)).find? (candA g n l ls av) = none := by
 rw [List.range_succ, List.find?_append, h]; simp [hk]
theorem candA_at {g : Nat → Nat → Int} {n l : Nat} {ls : List Nat} {av : Nat → Bool} {k : Nat} (hkn : k < n) (h : (List.range k).find? (candA g n l ls av) = none) (hk : candA g n l ls av k = true) : Sale.choose g n l ls av = some k := by
 rw [chooseA, List.find?_range_eq_some]
 refine ⟨hk, List.mem_range.2 hkn, fun j hj => ?_⟩
 rw [List.find?_eq_none] at h
 simpa using h j (List.mem_range.2 hj)
end Go.Proofs.YtkddkkcfpnndlaaGreatDoor

namespace Go.Proofs.YtkddkkcfpnndlaaGreatDoor
open Go.RowKit Sale

set_option maxHeartbeats 4000000 in
set_option maxRecDepth 100000 in
theorem first11_yes (ga oa : Option Addr) (gn gc o_n oc : Nat) (gains : List (List Int)) (n : Nat) (on : List Nat) (w : World) (hg : Rows w ga gn gc gains) (ho : Ints w oa o_n oc (on.map fun k : Nat => (k : Int)))
   (hc : wcheck gains n = true) (hd : isOrd (on.map fun k : Nat => (k : Int)) gains.length = true) :
   Calls Tryz.prog 12 #[.slice ga gn gc, .int .i64 n, .slice oa o_n oc] w (RetRow 0 (firstOf gains n on) gn w) := by
 obtain ⟨h1, h2, h3, h4, h5⟩ := wcheck_parts hc
 have h1' : 1 ≤ n := by omega
 have h2' : n ≤ 8 := by omega
 have hgl := hg.len
 have hcnt := (isOrd_counts.1 hd).2
 have hperm := isOrd_parts hd
 have hol : on.length = gains.length := by have := hperm.length_eq; simpa using this
 have hool := ho.len
 have hon : o_n = gn := by rw [← hool, List.length_map, hol, hgl]
 have hnd : on.Nodup := hperm.nodup_iff.2 List.nodup_range
 have hlt : ∀ k, k ∈ on → k < gains.length := fun k hk => List.mem_range.1 (hperm.mem_iff.1 hk)
 subst hon
 have hgn8 : o_n ≤ 8 := by omega
 have HG := Lib.hid hg; clear hg
 have HO := Lib.hid ho; clear ho
 have HC := Lib.hid hc; clear hc hd
 have HH := Lib.hid (And.intro h4 h5); clear h4 h5 h1 h2 h3
 have HGL := Lib.hid hgl; clear hgl hol hool
 have HCNT := Lib.hid hcnt; clear hcnt
 have HPERM := Lib.hid hperm; clear hperm
 have HND := Lib.hid hnd; clear hnd
 have HLT := Lib.hid hlt; clear hlt
 go_enter Tryz.func12, Tryz.ntmps12
 go_wp2_with fail
 refine (check10_any ga o_n gc gains n w HG.out (by omega)).mono ?_
 rw [HC.out]
 rintro e w1 ⟨rfl, hb1⟩
 have HB1 := Lib.hid hb1; clear hb1
 go_wp2_with fail
 go_loopg [8, 9, 10] o_n (fun g s8 s9 s10 wr => ∃ k : Nat, k + g = o_n ∧ s8 = .int .i64 k ∧ w1 = wr)
 case atStart => exact ⟨0, by omega, rfl, rfl⟩
 case round =>
   obtain ⟨k, hk, rfl, rfl⟩ := hrel
   have HK := Lib.hid hk; clear hk
   by_cases hlt : k < o_n
   · obtain ⟨gO, hgO⟩ : ∃ n, n = gk - 1 := ⟨_, rfl⟩
     have HGO := Lib.hid hgO; clear hgO
     have hck := HCNT.out k (by rw [HGL.out]; exact hlt)
     have HCK := Lib.hid hck; clear hck
     have i1 : (k : Int) < (o_n : Int) := by omega
     go_wp2_with fail
     go_loopg [9, 10] o_n (fun g s9 s10 wr => ∃ j : Nat, j + g = o_n ∧ s10 = .int .i64 j ∧ s9 = .int .i64 ((((on.map fun k : Nat => (k : Int)).take j).count (k : Int) : Nat) : Int) ∧ w1 = wr)
     case atStart => exact ⟨0, by omega, rfl, rfl, rfl⟩
     case round =>
       obtain ⟨j, hj, rfl, rfl, rfl⟩ := hrel
       have HJ := Lib.hid hj; clear hj
       have hcb : ((on.map fun k : Nat => (k : Int)).take j).count (k : Int) ≤ j := Nat.le_trans List.count_le_length (List.length_take_le _ _)
       obtain ⟨t, ht⟩ : ∃ t, t = ((on.map fun k : Nat => (k : Int)).take j).count (k : Int) := ⟨_, rfl⟩
       rw [← ht] at hcb ⊢
       have HT := Lib.hid ht; clear ht
       by_cases hjl : j < o_n
       · obtain ⟨x, hx, _⟩ := HO.out.get hjl
         obtain ⟨ob, oo, rfl⟩ := HO.out.addr (by omega)
         have hcx := cell_st HB1.out (HO.out.cell ob oo rfl j x hx)
         have hsn : (on.map fun k : Nat => (k : Int)).take (j + 1) = (on.map fun k : Nat => (k : Int)).take j ++ [x] := by rw [List.take_add_one, hx]; rfl
         have HX2 := Lib.hid hsn; clear hsn hx
         have i2 : (j : Int) < (o_n : Int) := by omega
         by_cases hxk : x = (k : Int)
         · subst hxk
           go_wp2_with fail
           go_roundg (gk - 1)
           case measure => have := HJ.out; omega
           case rel => exact ⟨j + 1, by have := HJ.out; omega, by go_num, by rw [HX2.out, List.count_append, ← HT.out]; simp, rfl⟩
         · have e1 : (x == (k : Int)) = false := by simpa using hxk
           have HXK := Lib.hid hxk; clear hxk
           go_wp2_with fail
           go_roundg (gk - 1)
           case measure => have := HJ.out; omega
           case rel => exact ⟨j + 1, by have := HJ.out; omega, by go_num, by rw [HX2.out, List.count_append, ← HT.out, List.count_singleton]; simp [HXK.out], rfl⟩
       · obtain rfl : j = o_n := by have := HJ.out; omega
         have hl3 := HO.out.len
         have ht1 : t = 1 := by rw [HT.out, List.take_of_length_le (by omega)]; exact HCK.out
         subst ht1
         clear hl3
         go_wp2_with fail
         go_roundg gO
         case measure => have := HK.out; have := HGO.out; omega
         case rel => exact ⟨k + 1, by have := HK.out; have := HGO.out; omega, by go_num, rfl⟩
   · obtain rfl : k = o_n := by have := HK.out; omega
     have hmk := mkInts k (by omega)
     go_wp2_with fail
     refine (best10_yes ga k gc gains n w1 (HG.out.below HB1.out (Nat.le_refl _)) HC.out).mono ?_
     rintro e w2 ⟨rfl, hb2⟩
     have HB2 := Lib.hid (HB1.out.trans (hb2.mono HB1.out.size)); clear hb2
     have hz2 := HB2.out.size
     go_wp2_with fail
     clear hmk
     go_loopg [14] k (fun g s14 wr => ∃ j : Nat, j + g = k ∧ s14 = .int .i64 j ∧ Row wr w2.heap.size 3 (tabN k fun i => if i < j then -1 else 0) ∧ Below w2.heap.size w2 wr)
     case atStart =>
       refine ⟨0, by omega, rfl, ?_, (Below.refl _ _).alloc (Nat.le_refl _) _⟩
       rw [show (tabN k fun i => if i < 0 then (-1 : Int) else 0) = List.replicate k 0 from by
         apply List.ext_getElem?
         intro j
         by_cases hj : j < k
         · rw [tabN_get _ hj, List.getElem?_replicate, if_pos hj]; rfl
         · rw [List.getElem?_eq_none (by rw [tabN_length]; omega), List.getElem?_eq_none (by simp; omega)]]
       exact Row.new _ _ _
     case round =>
       obtain ⟨j, hj, rfl, hR, hB⟩ := hrel
       have HJ := Lib.hid hj; clear hj
       by_cases hjl : j < k
       · have hc0 := hR.cell (k := j) (tabN_get _ hjl)
         have hf0 := hR.frozen j
         have HR := Lib.hid hR; clear hR
         have HB := Lib.hid hB; clear hB
         rw [if_neg (by omega)] at hc0
         have i1 : (j : Int) < (k : Int) := by omega
         go_wp2_with fail
         go_roundg (gk - 1)
         case measure => have := HJ.out; omega
         case rel =>
           have hst := HR.out.set j (-1)
           rw [tabN_set] at hst
           refine ⟨j + 1, by have := HJ.out; omega, by go_num, ?_, HB.out.setCell (p := ⟨w2.heap.size, j, none⟩) (Nat.le_refl _) _⟩
           rw [show (tabN k fun i => if i < j + 1 then (-1 : Int) else 0) = tabN k (fun i => if i = j then -1 else if i < j then -1 else 0) from tabN_congr fun i _ => by
             by_cases e : i = j
             · subst e; rw [if_pos (by omega), if_pos rfl]
             · rw [if_neg e]
               by_cases h : i < j
               · rw [if_pos (by omega), if_pos h]
               · rw [if_neg (by omega), if_neg h]]
           exact hst
       · obtain rfl : j = k := by have := HJ.out; omega
         obtain ⟨w3, rfl⟩ : ∃ w3, w3 = wr := ⟨_, rfl⟩
         have hR3 : Row w3 w2.heap.size 3 (tabN j (hasR on 0 [])) := by
           rw [show tabN j (hasR on 0 []) = tabN j (fun i => if i < j then -1 else 0) from tabN_congr fun i hi => by rw [hasR_zero, if_pos hi]]
           exact hR
         have hz3 := Row.lt hR3
         have HR3 := Lib.hid hR3; clear hR3 hR
         have HB3 := Lib.hid (HB2.out.trans (hB.mono hz2)); clear hB
         have hz03 := HB3.out.size
         go_wp2_with fail
         go_loopg [15, 16] j (fun g s15 s16 wr => ∃ (q : Nat) (v5 : Value), q + g = j ∧ s16 = .int .i64 q ∧ s15 = v5 ∧ ORows wr w3.heap.size v5 (gains.take q) ∧ Below w3.heap.size w3 wr)
         case atStart => exact ⟨0, _, by omega, rfl, rfl, ORows.nil _ _, Below.refl _ _⟩
         case round =>
           obtain ⟨q, v5, hq, rfl, hv5, hO, hB⟩ := hrel
           replace hv5 := hv5.symm
           subst hv5
           obtain ⟨w4, rfl⟩ : ∃ w4, w4 = wr := ⟨_, rfl⟩
           have HQ := Lib.hid hq; clear hq
           have HOR := Lib.hid hO; clear hO
           have hbs := hB.size
           have HB := Lib.hid hB; clear hB
           by_cases hlq : q < j
           · obtain ⟨l, hl⟩ := HG.out.get hlq
             obtain ⟨b, o, rfl⟩ := HG.out.addr (by omega)
             obtain ⟨la, ln, lc, hcl, hli⟩ := (HG.out.below (HB3.out.trans (HB.out.mono hz03)) (Nat.le_refl _)).cell b o rfl q l hl
             obtain rfl : ln = n := by rw [← hli.len]; have := HH.out.1 l (List.mem_of_getElem? hl); omega
             have HLI := Lib.hid hli; clear hli
             have HLG := Lib.hid hl; clear hl
             have i1 : (q : Int) < (j : Int) := by omega
             go_wp2_with (at_builtin; refine appMany _ rfl _ _ rfl w4.heap.size (.slice none 0 0) [] rfl (by simp [Own, World.ownsRow]) la ln lc l rfl HLI.out (by omega) (by simp; omega) (Nat.le_refl _) ?_)
             intro v' w5 hO2 hgr2 hb2 _
             have hll := HLI.out.len
             obtain ⟨g2, c2, rfl, hg2, hc2⟩ : ∃ g2 c2, v' = .slice (some ⟨g2, 0, none⟩) ln c2 ∧ w4.heap.size ≤ g2 ∧ ln ≤ c2 := by
               rcases hO2.2 with ⟨_, e0⟩ | ⟨g2, cap, cur, e, hb, _, hle, _⟩
               · have e1 : l.length = 0 := e0
                 omega
               · have e' : v' = .slice (some ⟨g2, 0, none⟩) l.length cap := e
                 have hle' : l.length ≤ cap := hle
                 rw [hll] at e' hle'
                 exact ⟨g2, cap, e', hb, hle'⟩
             have hT2 : TabI w5 g2 l := hO2.tab.1
             have hlt2 := Tab.lt hT2
             have hap : v5.ownBlock ≠ some g2 := fun e => by have := (HOR.out.lt g2 e).2; omega
             have HAP := Lib.hid hap; clear hap
             have HLL := Lib.hid hll; clear hll
             have HT2 := Lib.hid hT2; clear hT2
             have hz5 := hb2.size
             have HB5 := Lib.hid hb2; clear hb2 hgr2 hO2
             have htk : (gains.take q).length = q := by rw [List.length_take]; have := HG.out.len; omega
             have HTK := Lib.hid htk; clear htk
             go_wp2_with (at_builtin; refine appOR _ rfl _ _ rfl w3.heap.size v5 (gains.take q) rfl ((HOR.out.below HB5.out (Nat.le_refl _)).below ((Below.refl _ w5).alloc (Nat.le_refl _) _) (Nat.le_refl _)) w5.heap.size g2 ln c2 l rfl (by simp [go_sem]) (Tab.below HT2.out ((Below.refl _ w5).alloc (Nat.le_refl _) _) hlt2) HLL.out hc2 HLI.out.bd (by omega) HAP.out (by rw [HTK.out]; omega) (by simp; omega) ?_)
             intro g' cap' w' hO' hb'
             have HO' := Lib.hid hO'; clear hO'
             have HB' := Lib.hid ((HB.out.trans (HB5.out.mono hbs)).trans ((((Below.refl _ w5).alloc (Nat.le_refl _) (.cells #[.slice (some ⟨g2, 0, none⟩) ln c2] 25)).mono (by omega)).trans hb')); clear hb'
             go_wp2_with fail
             go_roundg (gk - 1)
             case measure => have := HQ.out; omega
             case rel =>
               refine ⟨q + 1, _, by have := HQ.out; omega, by go_num, rfl, ?_, HB'.out⟩
               rw [List.take_add_one, HLG.out]
               exact HO'.out
           · obtain rfl : q = j := by have := HQ.out; omega
             have hO2 := HOR.out
             rw [List.take_of_length_le (by have := HG.out.len; omega), ← leftG_start (gains := gains) (n := n) (fun l hl => by have := HH.out.1 l hl; omega)] at hO2
             have HO2 := Lib.hid hO2; clear hO2
             have hwant : bestVal gains n = opt (gi gains) n (on.drop 0) (fun _ => true) := by
               rw [List.drop_zero, bestVal, ← opt_perm HND.out HPERM.out]
             have HWANT := Lib.hid hwant; clear hwant
             have HB03 := Lib.hid (HB3.out.trans (HB.out.mono hz03))
             have hR4 := Row.below HR3.out HB.out hz3
             have HR4 := Lib.hid hR4; clear hR4
             go_wp2_with fail
             go_loopg [11, 15, 17, 18, 19, 20, 21, 22, 23] q (fun g s11 s15 s17 s18 s19 s20 s21 s22 s23 wr => ∃ (d : Nat) (v : Value) (av : Nat → Bool) (ms : List (Option Nat)), d + g = q ∧ s17 = .int .i64 d ∧ s15 = v ∧ s11 = .int .i64 (opt (gi gains) n (on.drop d) av) ∧ ORows wr w3.heap.size v (leftG gains n (on.take d) av) ∧ ms.length = d ∧ ms ++ firsts (gi gains) n (on.drop d) av = firsts (gi gains) n on (fun _ => true) ∧ Row wr w2.heap.size 3 (tabN q (hasR on d ms)) ∧ Below w.heap.size w wr ∧ w3.heap.size ≤ wr.heap.size)
             case atStart => exact ⟨0, _, fun _ => true, [], by omega, rfl, rfl, by rw [HWANT.out], HO2.out, rfl, by rw [List.nil_append, List.drop_zero], HR4.out, HB03.out, hbs⟩
             case round =>
               clear HO2 HR4 HB03 HOR HB HWANT
               obtain ⟨d, v, av, ms, hd, rfl, hv, rfl, hO, hms, hfs, hR, hB, hz⟩ := hrel
               replace hv := hv.symm
               subst hv
               obtain ⟨w4, rfl⟩ : ∃ w4, w4 = wr := ⟨_, rfl⟩
               have HD := Lib.hid hd; clear hd
               have HFS := Lib.hid hfs; clear hfs
               by_cases hlt : d < q
               · obtain ⟨l, hl⟩ : ∃ l, on[d]? = some l := ⟨on[d]'(by have := HPERM.out.length_eq; have := HGL.out; simp at *; omega), by simp⟩
                 have hlg := HLT.out l (List.mem_of_getElem? hl)
                 obtain ⟨ob, oo, rfl⟩ := HO.out.addr (by omega)
                 have hco := (HO.out.below hB (Nat.le_refl _)).cell ob oo rfl d l (by simp [hl])
                 obtain ⟨g, c, e, hgb, hglt, hgc⟩ := hO.form (by rw [leftG_length, HGL.out]; omega)
                 subst e
                 rw [leftG_length, HGL.out] at hO hgc ⊢
                 obtain ⟨b', m', d', hcl, hfl, hT, hTl, hTc, hTbd, hTb, hTne⟩ := hO.cell (leftG_get (n := n) (ds := on.take d) (av := av) hlg)
                 rw [List.length_map, List.length_range] at hTl
                 subst hTl
                 rw [HGL.out] at hlg
                 have hlq : (l : Int) < (q : Int) := by omega
                 have hb'lt := Tab.lt hT
                 obtain ⟨want, hwant⟩ : ∃ want, want = opt (gi gains) n (on.drop d) av := ⟨_, rfl⟩
                 rw [← hwant]
                 have HW := Lib.hid hwant; clear hwant
                 have HL2 := Lib.hid hl; clear hl
                 have HOL := Lib.hid hO; clear hO
                 have HT := Lib.hid hT; clear hT
                 have HTB := Lib.hid hTbd; clear hTbd
                 have HR := Lib.hid hR; clear hR
                 have hbz := hB.size
                 have HB := Lib.hid hB; clear hB
                 have HMS := Lib.hid hms; clear hms
                 obtain ⟨gO, hgO⟩ : ∃ n, n = gk - 1 := ⟨_, rfl⟩
                 have HGO := Lib.hid hgO; clear hgO
                 have i1 : (d : Int) < (q : Int) := by omega
                 go_wp2_with fail
                 refine (nothing_any n h1' h2' w4).mono ?_
                 rintro e w6 ⟨gN, cN, rfl, hTN, hcN, hgN, hb6⟩
                 have hcl6 := cell_st hb6 hcl
                 have hfl6 : w6.frozen? ⟨g, l, none⟩ = false := (hb6.frozen (p := ⟨g, l, none⟩) hglt).trans hfl
                 obtain ⟨w7, hw7⟩ : ∃ w7, w7 = w6.setCell ⟨g, l, none⟩ (.slice (some ⟨gN, 0, none⟩) n cN) := ⟨_, rfl⟩
                 have hgNe : gN ≠ g := by omega
                 have hO7 : ORows w7 w3.heap.size (.slice (some ⟨g, 0, none⟩) q c) (leftG gains n (on.take (d + 1)) av) := by
                   have hput := (HOL.out.below hb6 (Nat.le_refl _)).put (k := l) hTN (by simp) hcN (fun x hx => by have := List.eq_of_mem_replicate hx; omega) (by omega) hgNe
                   rw [leftG_put, ← take_snoc2 HL2.out] at hput
                   rw [hw7]; exact hput
                 have hT7 : TabI w7 b' ((List.range n).map fun k => if (on.take d).contains l = false ∧ av k = true then gi gains l k else -1) := by
                   rw [hw7]; exact Tab.other (Tab.below HT.out hb6 hb'lt) hTne _
                 have hR7 : Row w7 w2.heap.size 3 (tabN q (hasR on d ms)) := by
                   rw [hw7]; exact (HR.out.below hb6 HR.out.lt).other (by simp; omega) _
                 have hB7 : Below w.heap.size w w7 := by
                   rw [hw7]; exact (HB.out.trans (hb6.mono hbz)).setCell (p := ⟨g, l, none⟩) (by simp; omega) _
                 have hz7 : w3.heap.size ≤ w7.heap.size := by rw [hw7]; have := hb6.size; simp; omega
                 have hrow : (on.take d).contains l = false := by
                   rw [List.contains_eq_mem, decide_eq_false_iff_not]; exact not_mem_take HND.out HL2.out
                 simp only [hrow, true_and] at hT7
                 have HO7 := Lib.hid hO7; clear hO7 HOL
                 have HT7 := Lib.hid hT7; clear hT7 HT
                 have HR7 := Lib.hid hR7; clear hR7 HR
                 have HB7 := Lib.hid hB7; clear hB7 HB hrow hTN
                 have hz4 := hb6.size
                 have hglt7 : g < w7.heap.size := by rw [hw7]; simp; omega
                 clear hb6
                 go_wp2_with fail
                 rw [← hw7]
                 clear hw7 hcl6 hfl6
                 go_loopg [11, 15, 20, 21, 22, 23] n (fun g' s11 s15 s20 s21 s22 s23 wr => ∃ k : Nat, k + g' = n ∧ s20 = .int .i64 k ∧ s11 = .int .i64 want ∧ s15 = .slice (some ⟨g, 0, none⟩) q c ∧ (List.range k).find? (candA (gi gains) n l (on.drop (d + 1)) av) = none ∧ Below w7.heap.size w7 wr)
                 case atStart => exact ⟨0, by omega, rfl, rfl, rfl, rfl, Below.refl _ _⟩
                 case round =>
                   obtain ⟨k, hk, rfl, rfl, rfl, hf, hB8⟩ := hrel
                   obtain ⟨w8, rfl⟩ : ∃ w8, w8 = wr := ⟨_, rfl⟩
                   have HK := Lib.hid hk; clear hk
                   have HF := Lib.hid hf; clear hf
                   have hz8 := hB8.size
                   by_cases hlk : k < n
                   · obtain ⟨x, hx⟩ : ∃ x, x = if av k = true then gi gains l k else -1 := ⟨_, rfl⟩
                     have cx := cell_st hB8 (Tab.cell HT7.out (k := k) (v := .int .i64 x) (by rw [List.getElem?_map, List.getElem?_map, List.getElem?_range hlk, hx]; rfl))
                     have hgb := gi_bd HH.out.2 l k
                     have HB8 := Lib.hid hB8; clear hB8
                     have hxb : x ≤ 1000000 := by rw [hx]; split <;> omega
                     have HX := Lib.hid hx; clear hx hgb
                     have ik : (k : Int) < (n : Int) := by omega
                     by_cases hx0 : x < 0
                     · have e1 : decide (x < 0) = true := by simpa using hx0
                       have hcd : candA (gi gains) n l (on.drop (d + 1)) av k = false := by
                         unfold candA
                         have h := HX.out
                         cases hav : av k with
                         | false => simp
                         | true =>
                           rw [hav, if_pos rfl] at h
                           rw [decide_eq_false (by omega)]; simp
                       have HCD := Lib.hid hcd; clear hcd
                       go_wp2_with fail
                       go_roundg (gk - 1)
                       case measure => have := HK.out; omega
                       case rel => exact ⟨k + 1, by have := HK.out; omega, by go_num, rfl, rfl, candA_on HF.out HCD.out, HB8.out⟩
                     · have e1 : decide (x < 0) = false := by simpa using hx0
                       have hav : av k = true := by
                         have h := HX.out
                         cases hav : av k with
                         | true => rfl
                         | false => rw [hav, if_neg (by decide)] at h; omega
                       have hxg : x = gi gains l k := by rw [HX.out, if_pos hav]
                       have HAV := Lib.hid hav; clear hav
                       have HXG := Lib.hid hxg; clear hxg
                       have hO8 := HO7.out.below HB8.out (Nat.le_refl _)
                       have hrl : ∀ xs, xs ∈ leftG gains n (on.take (d + 1)) av → xs.length = n := fun xs hxs => by
                         obtain ⟨i, _, rfl⟩ := List.mem_map.1 hxs; simp
                       obtain ⟨a8, c8, e8, hrows⟩ := (hO8.own (fun xs hxs => by have := hrl xs hxs; omega)).rows (by rw [leftG_length, HGL.out]; omega)
                       rw [leftG_length, HGL.out] at e8 hrows
                       cases e8
                       have HRW := Lib.hid hrows; clear hrows hO8
                       have HRL := Lib.hid hrl; clear hrl
                       go_wp2_with fail
                       refine (without_any (some ⟨g, 0, none⟩) q c (leftG gains n (on.take (d + 1)) av) n k w8 HRW.out HRL.out h1' h2' hgn8 hlk).mono ?_
                       rintro e w9 ⟨v9, rfl, hO9, hb9⟩
                       rw [leftG_without] at hO9
                       have hrl9 : ∀ xs, xs ∈ leftG gains n (on.take (d + 1)) (less av k) → xs.length = n := fun xs hxs => by
                         obtain ⟨i, _, rfl⟩ := List.mem_map.1 hxs; simp
                       obtain ⟨a9, c9, e9, hrows9⟩ := (hO9.own (fun xs hxs => by have := hrl9 xs hxs; omega)).rows (by rw [leftG_length, HGL.out]; omega)
                       rw [leftG_length, HGL.out] at e9 hrows9
                       subst e9
                       have HO9 := Lib.hid hO9; clear hO9 hrl9
                       have HRW9 := Lib.hid hrows9; clear hrows9
                       have HB9 := Lib.hid (HB8.out.trans (hb9.mono hz8))
                       have cx9 := cell_st hb9 cx
                       have hz9 := hb9.size
                       clear hb9 cx
                       go_wp2_with fail
                       refine (best10_yes a9 q c9 (leftG gains n (on.take (d + 1)) (less av k)) n w9 HRW9.out (leftG_check HC.out)).mono ?_
                       rw [leftG_best HPERM.out]
                       obtain ⟨y, hy⟩ : ∃ y, y = opt (gi gains) n (on.drop (d + 1)) (less av k) := ⟨_, rfl⟩
                       rw [← hy]
                       rintro e w10 ⟨rfl, hb10⟩
                       have hyb : 0 ≤ y ∧ y ≤ 8000000 := by
                         rw [hy]
                         refine ⟨opt_nonneg _ _ _ _, ?_⟩
                         have h := opt_le (g := gi gains) (n := n) (B := 1000000) (by omega) (on.drop (d + 1)) (less av k) fun l _ r _ => gi_le HH.out.2 l r
                         have h2 : (on.drop (d + 1)).length ≤ 8 := by have := HPERM.out.length_eq; have := HGL.out; simp at *; omega
                         omega
                       obtain ⟨hy1, hy2⟩ := hyb
                       have HY := Lib.hid hy; clear hy
                       have HB10 := Lib.hid (HB9.out.trans (hb10.mono (by omega)))
                       have cx10 := cell_st hb10 cx9
                       have hz10 := hb10.size
                       have HO10 := Lib.hid (HO9.out.below hb10 (Nat.le_refl _))
                       clear hb10 cx9 HO9 HRW9 HB9
                       have hR10 := HR7.out.below HB10.out HR7.out.lt
                       have hc10 := hR10.cell (k := l) (tabN_get _ hlg)
                       have hf10 := hR10.frozen l
                       have HR10 := Lib.hid hR10; clear hR10
                       by_cases hq : x + y = want
                       · have e2 : (x + y == want) = true := by simpa using hq
                         have hch : Sale.choose (gi gains) n l (on.drop (d + 1)) av = some k := candA_at hlk HF.out (by
                           unfold candA
                           rw [HAV.out, ← HXG.out, ← HY.out, ← drop_cons HL2.out, ← HW.out, e2, decide_eq_true (by omega)]; rfl)
                         have HCH := Lib.hid hch; clear hch hq
                         go_wp2_with fail
                         go_roundg gO
                         case measure => have := HD.out; have := HGO.out; omega
                         case rel =>
                           have hst := HR10.out.set l (k : Int)
                           rw [hasR_some HL2.out HND.out HMS.out] at hst
                           refine ⟨d + 1, _, less av k, ms ++ [some k], by have := HD.out; have := HGO.out; omega, by go_num, rfl, by rw [HY.out], (HO10.out.lower (by omega)).under (by show w2.heap.size < w3.heap.size; omega) _, by rw [List.length_append, HMS.out]; rfl, ?_, hst, (HB7.out.trans (HB10.out.mono (by have := HB7.out.size; omega))).setCell (p := ⟨w2.heap.size, l, none⟩) hz2 _, by simp; omega⟩
                           rw [← HFS.out, drop_cons HL2.out]
                           simp only [firsts, HCH.out]
                           rw [List.append_assoc]; rfl
                       · have e2 : (x + y == want) = false := by simpa using hq
                         have hcd : candA (gi gains) n l (on.drop (d + 1)) av k = false := by
                           unfold candA
                           rw [← HXG.out, ← HY.out, ← drop_cons HL2.out, ← HW.out, e2]; simp
                         have HCD := Lib.hid hcd; clear hcd hq
                         go_wp2_with fail
                         go_roundg (gk - 1)
                         case measure => have := HK.out; omega
                         case rel => exact ⟨k + 1, by have := HK.out; omega, by go_num, rfl, rfl, candA_on HF.out HCD.out, HB10.out⟩
                   · obtain rfl : k = n := by have := HK.out; omega
                     have hch : Sale.choose (gi gains) k l (on.drop (d + 1)) av = none := HF.out
                     have HCH := Lib.hid hch; clear hch
                     have HB8 := Lib.hid hB8; clear hB8
                     go_wp2_with fail
                     go_roundg gO
                     case measure => have := HD.out; have := HGO.out; omega
                     case rel =>
                       have hR8 := HR7.out.below HB8.out HR7.out.lt
                       rw [← hasR_none HL2.out HND.out HMS.out] at hR8
                       refine ⟨d + 1, _, av, ms ++ [none], by have := HD.out; have := HGO.out; omega, by go_num, rfl, by rw [HW.out, drop_cons HL2.out, choose_none HCH.out], HO7.out.below HB8.out (Nat.le_refl _), by rw [List.length_append, HMS.out]; rfl, ?_, hR8, HB7.out.trans (HB8.out.mono HB7.out.size), by omega⟩
                       rw [← HFS.out, drop_cons HL2.out]
                       simp only [firsts, HCH.out]
                       rw [List.append_assoc]; rfl
               · obtain rfl : d = q := by have := HD.out; omega
                 have hlo : on.length = d := by have := HPERM.out.length_eq; have := HGL.out; simp at *; omega
                 have e1 : ms = firsts (gi gains) n on (fun _ => true) := by
                   rw [← HFS.out, List.drop_of_length_le (by omega)]; simp [firsts]
                 have hp2 : on.Perm (List.range d) := by have := HPERM.out; rw [HGL.out] at this; exact this
                 rw [hasR_all hp2, e1] at hR
                 have hfo : firstOf gains n on = tabN d (hasF on (firsts (gi gains) n on fun _ => true)) := by unfold firstOf; rw [HGL.out]
                 rw [← hfo] at hR
                 have hbd : ∀ z, z ∈ firstOf gains n on → -9223372036854775808 ≤ z ∧ z ≤ 9223372036854775807 := fun z hz => by
                   rw [hfo] at hz
                   obtain ⟨j, _, rfl⟩ := List.mem_map.1 hz
                   exact hasF_bd HPERM.out.length_eq h2' j
                 have hlf : (firstOf gains n on).length = d := by rw [hfo, tabN_length]
                 have HRES := Lib.hid (And.intro hR (And.intro hbd hlf)); clear hR hbd hlf hfo hp2 e1 hlo hms hO
                 have HBF := Lib.hid hB; clear hB
                 go_wp2_with fail
                 go_ret2
                 exact ⟨HRES.out.2.2, _, rfl, HRES.out.1, hz2, HRES.out.2.1, HBF.out⟩
end Go.Proofs.YtkddkkcfpnndlaaGreatDoor
