/- Walks: the reference's weights: the most that can be gained, bidder by bidder, over all sets of items. Lists of lists that a call has made, each in a block of its own from base on; the reference's Best, nothing, without. -/
import Derived.Test.YtkddkkcfpnndlaaGreatDoorOq30
import Derived.Test.YtkddkkcfpnndlaaGreatDoorOq01
import Derived.Test.YtkddkkcfpnndlaaGreatDoorOq09
import Derived.StillTailTactics
namespace Go.Proofs.YtkddkkcfpnndlaaGreatDoor
open Go.RowKit Sale

theorem bit_xor (who i : Nat) (hw : who < 256) (hi : i < 8) (hb : who.testBit i = true) : bits BinOp.xor IntKind.i64 (who : Int) ((2 ^ i : Nat) : Int) = ((who - 2 ^ i : Nat) : Int) := by
 have h : ∀ who : Fin 256, ∀ i : Fin 8, who.val.testBit i.val = true → bits BinOp.xor IntKind.i64 (who.val : Int) ((2 ^ i.val : Nat) : Int) = ((who.val - 2 ^ i.val : Nat) : Int) := by decide +kernel
 exact h ⟨who, hw⟩ ⟨i, hi⟩ hb
def tb (gains : List (List Int)) (n i set : Nat) : Int := opt (gi gains) n (List.range i).reverse (bitsOf set)
def pt (gains : List (List Int)) (n i set k : Nat) : Int := foldMax (fun r => bitsOf set r && decide (0 ≤ gi gains i r)) (fun r => gi gains i r + opt (gi gains) n (List.range i).reverse (less (bitsOf set) r)) (tb gains n i set) (List.range k)
theorem pt_all (gains : List (List Int)) (n i set : Nat) : pt gains n i set n = tb gains n (i + 1) set := by
 unfold tb
 rw [List.range_succ, List.reverse_append, List.reverse_singleton, List.singleton_append]
 rfl
theorem pt_no {gains : List (List Int)} {n i set k : Nat} (h : set.testBit k = false ∨ gi gains i k < 0) : pt gains n i set (k + 1) = pt gains n i set k := by
 unfold pt
 rw [List.range_succ, foldMax_snoc, if_neg]
 simp only [bitsOf, Bool.and_eq_true, decide_eq_true_eq, not_and]
 rcases h with h | h
 · rw [h]; intro e; cases e
 · intro _; omega
theorem pt_yes {gains : List (List Int)} {n i set k : Nat} (hn : n ≤ 8) (hs : set < 256) (hk : k < n) (h : set.testBit k = true) (h0 : 0 ≤ gi gains i k) : pt gains n i set (k + 1) = max (pt gains n i set k) (gi gains i k + tb gains n i (set - 2 ^ k)) := by
 unfold pt
 rw [List.range_succ, foldMax_snoc, if_pos]
 · congr 2
   unfold tb
   exact opt_congr _ (fun _ _ _ _ => rfl) fun r hr => by
     unfold less bitsOf
     rw [bit_less_test set k r hs (by omega) (by omega) h]
 · simp [bitsOf, h, h0]
theorem tb_bd {gains : List (List Int)} (hbd : ∀ l, l ∈ gains → ∀ x, x ∈ l → -1000000 ≤ x ∧ x ≤ 1000000) (n i set : Nat) (hi : i ≤ 8) : 0 ≤ tb gains n i set ∧ tb gains n i set ≤ 8000000 := by
 unfold tb
 refine ⟨opt_nonneg _ _ _ _, ?_⟩
 have h := opt_le (g := gi gains) (n := n) (B := 1000000) (by omega) (List.range i).reverse (bitsOf set) fun l _ r _ => gi_le hbd l r
 have h2 : (List.range i).reverse.length = i := by simp
 rw [h2] at h
 omega
theorem pt_bd {gains : List (List Int)} (hbd : ∀ l, l ∈ gains → ∀ x, x ∈ l → -1000000 ≤ x ∧ x ≤ 1000000) (n i set : Nat) (hi : i ≤ 7) : ∀ k, 0 ≤ pt gains n i set k ∧ pt gains n i set k ≤ 9000000 := by
 intro k
 have h0 := tb_bd hbd n i set (by omega)
 unfold pt
 constructor
 · exact Int.le_trans h0.1 (foldMax_start _ _ _ _)
 · rcases foldMax_cases (fun r => bitsOf set r && decide (0 ≤ gi gains i r)) (fun r => gi gains i r + opt (gi gains) n (List.range i).reverse (less (bitsOf set) r)) (List.range k) (tb gains n i set) with h | ⟨r, _, _, h⟩
   · rw [h]; omega
   · rw [h]
     have h1 := gi_le hbd i r
     have h2 := opt_le (g := gi gains) (n := n) (B := 1000000) (by omega) (List.range i).reverse (less (bitsOf set) r) fun l _ r _ => gi_le hbd l r
     have h3 : (List.range i).reverse.length = i := by simp
     rw [h3] at h2
     omega
theorem tb_full {gains : List (List Int)} {n : Nat} : tb gains n gains.length (2 ^ n - 1) = bestVal gains n := by
 unfold tb bestVal
 rw [← opt_perm (List.nodup_range) (List.reverse_perm _).symm]
 refine opt_congr _ (fun _ _ _ _ => rfl) fun r hr => ?_
 unfold bitsOf
 rw [Nat.testBit_two_pow_sub_one]
 simpa using hr

def mixT (gains : List (List Int)) (n i set k s : Nat) : Int := if s < set then tb gains n (i + 1) s else if s = set then pt gains n i set k else tb gains n i s
theorem mix_start (gains : List (List Int)) (n i N : Nat) : tabN N (mixT gains n i 0 0) = tabN N (tb gains n i) :=
 tabN_congr fun j _ => by
   unfold mixT
   rw [if_neg (by omega)]
   split
   · subst j; rfl
   · rfl
theorem mix_next (gains : List (List Int)) (n i set N : Nat) : tabN N (mixT gains n i set n) = tabN N (mixT gains n i (set + 1) 0) :=
 tabN_congr fun j _ => by
   unfold mixT
   by_cases h : j < set
   · rw [if_pos h, if_pos (by omega)]
   · rw [if_neg h]
     by_cases e : j = set
     · subst e; rw [if_pos rfl, if_pos (by omega), pt_all]
     · rw [if_neg e, if_neg (by omega)]
       split
       · subst j; rfl
       · rfl
theorem mix_end (gains : List (List Int)) (n i N : Nat) : tabN N (mixT gains n i N 0) = tabN N (tb gains n (i + 1)) :=
 tabN_congr fun j hj => by unfold mixT; rw [if_pos hj]
theorem mix_put {gains : List (List Int)} {n i set k N : Nat} (v : Int) (hv : pt gains n i set (k + 1) = v) : (tabN N (mixT gains n i set k)).set set v = tabN N (mixT gains n i set (k + 1)) := by
 rw [tabN_set]
 refine tabN_congr fun j _ => ?_
 unfold mixT
 by_cases e : j = set
 · subst e; rw [if_pos rfl, if_neg (by omega), if_pos rfl, hv]
 · rw [if_neg e]
   by_cases h : j < set
   · rw [if_pos h, if_pos h]
   · rw [if_neg h, if_neg e, if_neg h, if_neg e]
theorem mix_same {gains : List (List Int)} {n i set k N : Nat} (h : pt gains n i set (k + 1) = pt gains n i set k) : tabN N (mixT gains n i set (k + 1)) = tabN N (mixT gains n i set k) :=
 tabN_congr fun j _ => by unfold mixT; rw [h]

set_option maxRecDepth 100000 in
set_option maxHeartbeats 4000000 in
theorem best10_in (ga : Option Addr) (gn gc : Nat) (gains : List (List Int)) (n : Nat) (w : World) (hg : Rows w ga gn gc gains) (hc : wcheck gains n = true) :
   Calls Tryz.prog 127 #[.slice ga gn gc, .int .i64 n] w fun e w' => e = .returned (.int .i64 (bestVal gains n)) ∧ Below w.heap.size w w' := by
 obtain ⟨h1, h2, h3, h4, h5⟩ := wcheck_parts hc
 have hgl := hg.len
 have h1' : 1 ≤ n := by omega
 have h2' : n ≤ 8 := by omega
 have h3' : gn ≤ 8 := by omega
 obtain ⟨N, hN⟩ : ∃ N : Nat, N = 2 ^ n := ⟨_, rfl⟩
 have hN8 : N ≤ 256 := by rw [hN]; exact Nat.pow_le_pow_right (n := 2) (by omega) h2'
 have hN2 : 2 ≤ N := by rw [hN]; exact Nat.le_trans (by decide) (Nat.pow_le_pow_right (n := 2) (by omega) h1')
 have hsh : wrap64 ((2 : Int) ^ n) = (N : Int) := by
   have e : ((2 : Int) ^ n) = ((2 ^ n : Nat) : Int) := by simp
   rw [e, ← hN]; unfold wrap64; omega
 have hsh2 : IntKind.i64.wrap ((2 : Int) ^ n) = (N : Int) := by
   have e : ((2 : Int) ^ n) = ((2 ^ n : Nat) : Int) := by simp
   rw [e, ← hN]; exact IntWalk.i64_in _ (by omega)
 have HN := Lib.hid hN; clear hN
 have HG := Lib.hid hg; clear hg
 have HH := Lib.hid (And.intro h4 h5); clear h4 h5 hc h1 h2
 have HGL := Lib.hid hgl; clear hgl
 have hmk := mkInts N (by omega)
 go_enter Tryz.func127, Tryz.ntmps127
 go_wp2_with fail
 clear hmk hsh hsh2
 go_loopg [5, 6, 7, 8, 9] gn (fun g' s5 s6 s7 s8 s9 wr => ∃ i g c : Nat, i + g' = gn ∧ s6 = .int .i64 i ∧ s5 = .slice (some ⟨g, 0, none⟩) N c ∧ N ≤ c ∧ TabI wr g (tabN N (tb gains n i)) ∧ w.heap.size ≤ g ∧ Below w.heap.size w wr)
 case atStart =>
   refine ⟨0, w.heap.size, N, by omega, rfl, rfl, Nat.le_refl _, ?_, Nat.le_refl _, (Below.refl _ _).alloc (Nat.le_refl _) _⟩
   have hr := Row.new w 3 (List.replicate N 0)
   rw [show tabN N (tb gains n 0) = List.replicate N 0 from by
     apply List.ext_getElem?
     intro j
     by_cases hj : j < N
     · rw [tabN_get _ hj, List.getElem?_replicate, if_pos hj]; rfl
     · rw [List.getElem?_eq_none (by rw [tabN_length]; omega), List.getElem?_eq_none (by simp; omega)]]
   exact ⟨_, hr, by simp [iarr_size], by simp [iarr]⟩
 case round =>
   obtain ⟨i, g, c, hi, rfl, rfl, hNc, hT, hgw, hB⟩ := hrel
   obtain ⟨w1, rfl⟩ : ∃ w1, w1 = wr := ⟨_, rfl⟩
   have HI := Lib.hid hi; clear hi
   have hglt := hT.lt
   have HT := Lib.hid hT; clear hT
   have hbs := hB.size
   have HB := Lib.hid hB; clear hB
   by_cases hlt : i < gn
   · have hbd := fun x (hx : x ∈ tabN N (tb gains n i)) => (show -9223372036854775808 ≤ x ∧ x ≤ 9223372036854775807 by
       obtain ⟨j, _, rfl⟩ := List.mem_map.1 hx
       have := tb_bd HH.out.2 n i j (by omega)
       omega)
     have hti := HT.out.ints (by rw [tabN_length]; exact hNc) (by rw [tabN_length]; omega) hbd
     rw [tabN_length] at hti
     have HTI := Lib.hid hti; clear hti hbd
     obtain ⟨gO, hgO⟩ : ∃ n, n = gk - 1 := ⟨_, rfl⟩
     have HGO := Lib.hid hgO; clear hgO
     obtain ⟨xs, hxs⟩ := HG.out.get hlt
     obtain ⟨bg, og, rfl⟩ := HG.out.addr (by omega)
     have hxl := HH.out.1 xs (List.mem_of_getElem? hxs)
     have HXS := Lib.hid hxs; clear hxs
     have i1 : (i : Int) < (gn : Int) := by omega
     go_wp2_with (at_builtin; refine appMany _ rfl _ _ rfl w1.heap.size (.slice none 0 0) [] rfl (by simp [Own, World.ownsRow]) (some ⟨g, 0, none⟩) N c (tabN N (tb gains n i)) rfl HTI.out (by omega) (by simp; omega) (Nat.le_refl _) ?_)
     intro v' w2 hO _ hb2 _
     obtain ⟨g2, c2, rfl, hg2⟩ : ∃ g2 c2, v' = .slice (some ⟨g2, 0, none⟩) N c2 ∧ w1.heap.size ≤ g2 := by
       rcases hO.2 with ⟨_, e0⟩ | ⟨g2, cap, cur, e, hb, _⟩
       · rw [tabN_length] at e0; omega
       · rw [tabN_length] at e; exact ⟨g2, cap, e, hb⟩
     have hT2 := hO.tab.1
     have hcap : N ≤ c2 := by
       rcases hO.2 with ⟨e, _⟩ | ⟨g2, cap, cur, e, hb, hh, hle, _⟩
       · cases e
       · obtain ⟨_, _, e3⟩ := Value.slice.inj e
         rw [tabN_length] at hle; omega
     have HT2 := Lib.hid hT2; clear hT2 hO
     have HB2 := Lib.hid hb2; clear hb2
     have hxl' : xs.length = n := by omega
     clear hxl
     have HXL := Lib.hid hxl'; clear hxl'
     go_wp2_with fail
     go_loopg [8, 9] N (fun g' s8 s9 wr => ∃ q : Nat, q + g' = N ∧ s8 = .int .i64 q ∧ TabI wr g2 (tabN N (mixT gains n i q 0)) ∧ Below w1.heap.size w1 wr)
     case atStart => exact ⟨0, by omega, rfl, by rw [mix_start]; exact HT2.out, HB2.out⟩
     case round =>
       clear HT2 HB2
       obtain ⟨q, hq, rfl, hP, hB3⟩ := hrel
       have HQ := Lib.hid hq; clear hq
       have HP := Lib.hid hP; clear hP
       have HB3 := Lib.hid hB3; clear hB3
       by_cases hlq : q < N
       · obtain ⟨gQ, hgQ⟩ : ∃ n, n = gk - 1 := ⟨_, rfl⟩
         have HGQ := Lib.hid hgQ; clear hgQ
         have hq8 : q < 256 := by omega
         have iq : (q : Int) < (N : Int) := by omega
         go_wp2_with fail
         go_loopg [9] n (fun g' s9 wr => ∃ k : Nat, k + g' = n ∧ s9 = .int .i64 k ∧ TabI wr g2 (tabN N (mixT gains n i q k)) ∧ Below w1.heap.size w1 wr)
         case atStart => exact ⟨0, by omega, rfl, HP.out, HB3.out⟩
         case round =>
           clear HP HB3
           obtain ⟨k, hk, rfl, hP, hB4⟩ := hrel
           have HK := Lib.hid hk; clear hk
           by_cases hlk : k < n
           · obtain ⟨la, ln, lc, hcl, hli⟩ := (HG.out.below (HB.out.trans (hB4.mono hbs)) (Nat.le_refl _)).cell bg og rfl i xs HXS.out
             have hll := hli.len
             obtain rfl : ln = n := by rw [← hll, HXL.out]
             obtain ⟨x, hx, _⟩ := hli.get hlk
             obtain ⟨lb, lo, rfl⟩ := hli.addr (by omega)
             have cx := hli.cell lb lo rfl k x hx
             have hgi : gi gains i k = x := gi_at HXS.out hx
             have hxb := HH.out.2 xs (List.mem_of_getElem? HXS.out) x (List.mem_of_getElem? hx)
             have hP0 := hP.cell (k := q) (v := .int .i64 (pt gains ln i q k)) (by rw [List.getElem?_map, tabN_get _ hlq]; unfold mixT; rw [if_neg (by omega), if_pos rfl]; rfl)
             have hfz := Tab.frozen hP q
             have hpb := pt_bd HH.out.2 ln i q (by omega) k
             have hk8 : k < 8 := by omega
             have hpw := bit_pow k hk8
             have hpw3 := bit_pow' k hk8
             have hba := bit_and q k hq8 hk8
             have HP := Lib.hid hP; clear hP
             have HB4 := Lib.hid hB4; clear hB4
             have HGI := Lib.hid hgi; clear hgi
             clear hx hli hll
             cases hbit : q.testBit k with
             | false =>
               rw [hbit, if_neg (by decide)] at hba
               have hs := pt_no (gains := gains) (n := ln) (i := i) (.inl hbit)
               have HS := Lib.hid (mix_same (N := N) hs); clear hs hbit
               go_wp2_with fail
               go_roundg (gk - 1)
               case measure => have := HK.out; omega
               case rel => exact ⟨k + 1, by have := HK.out; omega, by go_num, by rw [HS.out]; exact HP.out, HB4.out⟩
             | true =>
               rw [hbit, if_pos rfl] at hba
               by_cases hx0 : x < 0
               · have e1 : decide (0 ≤ x) = false := by simp; omega
                 have hs := pt_no (gains := gains) (n := ln) (i := i) (set := q) (.inr (by rw [HGI.out]; exact hx0))
                 have HS := Lib.hid (mix_same (N := N) hs); clear hs hbit
                 go_wp2_with fail
                 go_roundg (gk - 1)
                 case measure => have := HK.out; omega
                 case rel => exact ⟨k + 1, by have := HK.out; omega, by go_num, by rw [HS.out]; exact HP.out, HB4.out⟩
               · have e1 : decide (0 ≤ x) = true := by simp; omega
                 have hy := pt_yes (gains := gains) (i := i) h2' hq8 hlk hbit (by rw [HGI.out]; omega)
                 rw [HGI.out] at hy
                 have hxr := bit_xor q k hq8 hk8 hbit
                 have hqk : q - 2 ^ k < N := Nat.lt_of_le_of_lt (Nat.sub_le _ _) hlq
                 have hT1 := (Tab.below HT.out HB4.out hglt).cell (k := q - 2 ^ k) (v := .int .i64 (tb gains ln i (q - 2 ^ k))) (by rw [List.getElem?_map, tabN_get _ hqk]; rfl)
                 have htb := tb_bd HH.out.2 ln i (q - 2 ^ k) (by omega)
                 obtain ⟨pw, hpwd⟩ : ∃ pw, pw = 2 ^ k := ⟨_, rfl⟩
                 rw [← hpwd] at hpw hpw3 hxr hqk hT1 htb hy
                 obtain ⟨tv, htv⟩ : ∃ tv, tv = tb gains ln i (q - pw) := ⟨_, rfl⟩
                 obtain ⟨pv, hpv⟩ : ∃ pv, pv = pt gains ln i q k := ⟨_, rfl⟩
                 rw [← htv] at hT1 htb hy
                 rw [← hpv] at hP0 hpb hy
                 have hmx : max pv (tv + x) = pt gains ln i q (k + 1) := by rw [hy, Int.add_comm]
                 have HMX := Lib.hid hmx; clear hmx hy htv hpv hbit
                 obtain ⟨qp, hqp⟩ : ∃ qp, qp = q - pw := ⟨_, rfl⟩
                 rw [← hqp] at hxr hqk hT1
                 have HQP := Lib.hid (And.intro hqp hpwd); clear hqp hpwd
                 obtain ⟨htb1, htb2⟩ := htb
                 obtain ⟨hpb1, hpb2⟩ := hpb
                 obtain ⟨hxb1, hxb2⟩ := hxb
                 have e3 : IntKind.i64.wrap (tv + x) = tv + x := IntWalk.i64_in _ (by omega)
                 have iqp : (qp : Int) < (N : Int) := by omega
                 go_wp2_with fail
                 go_region
                 all_goals go_wp2_with fail
                 all_goals
                   go_roundg (gk - 1)
                   case measure => have := HK.out; omega
                   case rel =>
                     first
                       | (have hst := HP.out.set q (max pv (tv + x))
                          rw [mix_put _ HMX.out.symm] at hst
                          exact ⟨k + 1, by have := HK.out; omega, by go_num, hst, (HB4.out.setCell (p := ⟨g2, q, none⟩) hg2 _).drew⟩)
                       | (have hst := HP.out.set q (tv + x)
                          rw [mix_put (tv + x) (by rw [← HMX.out]; omega)] at hst
                          exact ⟨k + 1, by have := HK.out; omega, by go_num, hst, (HB4.out.setCell (p := ⟨g2, q, none⟩) hg2 _).drew⟩)
                       | (have hst := HP.out.set q pv
                          rw [mix_put pv (by rw [← HMX.out]; omega)] at hst
                          exact ⟨k + 1, by have := HK.out; omega, by go_num, hst, (HB4.out.setCell (p := ⟨g2, q, none⟩) hg2 _).drew⟩)
           · obtain rfl : k = n := by have := HK.out; omega
             have HP := Lib.hid hP; clear hP
             have HB4 := Lib.hid hB4; clear hB4
             go_wp2_with fail
             go_roundg gQ
             case measure => have := HQ.out; have := HGQ.out; omega
             case rel => exact ⟨q + 1, by have := HQ.out; have := HGQ.out; omega, by go_num, by rw [← mix_next]; exact HP.out, HB4.out⟩
       · obtain rfl : q = N := by have := HQ.out; omega
         go_wp2_with fail
         go_roundg gO
         case measure => have := HI.out; have := HGO.out; omega
         case rel => exact ⟨i + 1, g2, c2, by have := HI.out; have := HGO.out; omega, by go_num, rfl, hcap, by rw [← mix_end]; exact HP.out, by omega, HB.out.trans (HB3.out.mono hbs)⟩
   · obtain rfl : i = gn := by have := HI.out; omega
     have hfin := tb_full (gains := gains) (n := n)
     rw [HGL.out, ← HN.out] at hfin
     have hc1 := Tab.cell (HT.out) (k := N - 1) (v := .int .i64 (bestVal gains n)) (by rw [List.getElem?_map, tabN_get _ (by omega), hfin]; rfl)
     have hw1 : IntKind.i64.wrap ((N : Int) - 1) = ((N - 1 : Nat) : Int) := by rw [IntWalk.i64_in _ (by omega)]; omega
     have hw2 : (N : Int) - 1 = ((N - 1 : Nat) : Int) := by omega
     have HF := Lib.hid hfin; clear hfin
     go_wp2_with fail
     go_ret
     exact ⟨rfl, HB.out⟩
end Go.Proofs.YtkddkkcfpnndlaaGreatDoor

namespace Go.Proofs.YtkddkkcfpnndlaaGreatDoor
open Go.RowKit Sale

def ORows (w : World) (base : Nat) (v : Value) (xss : List (List Int)) : Prop :=
 ∃ vals : List Value, w.ownsRow base 25 1 v vals.length vals ∧ vals.length = xss.length ∧
   ∀ (i : Nat) (xs : List Int), xss[i]? = some xs → ∃ (b n c : Nat), vals[i]? = some (Value.slice (some ⟨b, 0, none⟩) n c) ∧ TabI w b xs ∧ xs.length = n ∧ n ≤ c ∧ (∀ x, x ∈ xs → -9223372036854775808 ≤ x ∧ x ≤ 9223372036854775807) ∧ base ≤ b ∧ v.ownBlock ≠ some b
theorem ORows.nil (w : World) (base : Nat) : ORows w base (.slice none 0 0) [] := ⟨[], World.ownsRow_nil _ _ _ _, rfl, fun i xs h => by simp at h⟩
theorem ORows.own {w : World} {base : Nat} {v : Value} {xss : List (List Int)} (h : ORows w base v xss) (hbig : ∀ xs, xs ∈ xss → xs.length ≤ 4611686018427387904) : OwnRows w base v xss := by
 obtain ⟨vals, h1, h2, h3⟩ := h
 refine ⟨vals, h1, h2, fun i xs hi => ?_⟩
 obtain ⟨b, n, c, e, ht, hl, hc, hbd, hb, hne⟩ := h3 i xs hi
 have := ht.ints (c := c) (by omega) (hbig xs (List.mem_of_getElem? hi)) hbd
 rw [hl] at this
 exact ⟨_, n, c, e, this, fun _ b' o' e' => by cases e'; exact hne⟩
theorem ORows.below {w w' : World} {base B : Nat} {v : Value} {xss : List (List Int)} (h : ORows w base v xss) (hb : Below B w w') (hB : w.heap.size ≤ B) : ORows w' base v xss := by
 obtain ⟨vals, ⟨h1, h2⟩, h3, h4⟩ := h
 refine ⟨vals, ⟨h1, ?_⟩, h3, fun i xs hi => ?_⟩
 · rcases h2 with h2 | ⟨g, cap, cur, hv, hg, hh, r⟩
   · exact .inl h2
   · exact .inr ⟨g, cap, cur, hv, hg, by rw [hb.block g (by have := (Array.getElem?_eq_some_iff.1 hh).1; omega)]; exact hh, r⟩
 · obtain ⟨b, n, c, e1, e2, r⟩ := h4 i xs hi
   exact ⟨b, n, c, e1, Tab.below e2 hb (by have := Tab.lt e2; omega), r⟩
theorem ORows.lt {w : World} {base : Nat} {v : Value} {xss : List (List Int)} (h : ORows w base v xss) : ∀ k, v.ownBlock = some k → base ≤ k ∧ k < w.heap.size := by
 obtain ⟨vals, h1, _⟩ := h
 exact World.ownsRow.lt h1
theorem ORows.under {w : World} {base : Nat} {v : Value} {xss : List (List Int)} (h : ORows w base v xss) {a : Addr} (ha : a.block < base) (u : Value) : ORows (w.setCell a u) base v xss := by
 obtain ⟨vals, ⟨h1, h2⟩, h3, h4⟩ := h
 refine ⟨vals, ⟨h1, ?_⟩, h3, fun i xs hi => ?_⟩
 · rcases h2 with h2 | ⟨g, cap, cur, hv, hg, hh, r⟩
   · exact .inl h2
   · exact .inr ⟨g, cap, cur, hv, hg, by rw [heap_setCell_other w a g u (by omega)]; exact hh, r⟩
 · obtain ⟨b, n, c, e1, e2, e3, e4, e5, e6, e7⟩ := h4 i xs hi
   exact ⟨b, n, c, e1, Tab.other e2 (by omega) _, e3, e4, e5, e6, e7⟩
theorem ORows.lower {w : World} {base base' : Nat} {v : Value} {xss : List (List Int)} (h : ORows w base v xss) (hb : base' ≤ base) : ORows w base' v xss := by
 obtain ⟨vals, ⟨h1, h2⟩, h3, h4⟩ := h
 refine ⟨vals, ⟨h1, ?_⟩, h3, fun i xs hi => ?_⟩
 · rcases h2 with h2 | ⟨g, cap, cur, hv, hg, r⟩
   · exact .inl h2
   · exact .inr ⟨g, cap, cur, hv, by omega, r⟩
 · obtain ⟨b, n, c, e1, e2, e3, e4, e5, e6, e7⟩ := h4 i xs hi
   exact ⟨b, n, c, e1, e2, e3, e4, e5, by omega, e7⟩
theorem ORows.form {w : World} {base : Nat} {v : Value} {xss : List (List Int)} (h : ORows w base v xss) (hl : 0 < xss.length) : ∃ g c, v = .slice (some ⟨g, 0, none⟩) xss.length c ∧ base ≤ g ∧ g < w.heap.size ∧ xss.length ≤ c := by
 obtain ⟨vals, ⟨h1, h2⟩, h3, _⟩ := h
 rcases h2 with ⟨_, h0⟩ | ⟨g, cap, cur, hv, hb, hg, hn, _⟩
 · omega
 · rw [h3] at hv; exact ⟨g, cap, hv, hb, (Array.getElem?_eq_some_iff.1 hg).1, by omega⟩
theorem ORows.cell {w : World} {base g n c : Nat} {xss : List (List Int)} (h : ORows w base (.slice (some ⟨g, 0, none⟩) n c) xss) {k : Nat} {xs : List Int} (hk : xss[k]? = some xs) : ∃ b m d, w.cell? ⟨g, k, none⟩ = some (.slice (some ⟨b, 0, none⟩) m d) ∧ w.frozen? ⟨g, k, none⟩ = false ∧ TabI w b xs ∧ xs.length = m ∧ m ≤ d ∧ (∀ x, x ∈ xs → -9223372036854775808 ≤ x ∧ x ≤ 9223372036854775807) ∧ base ≤ b ∧ b ≠ g := by
 obtain ⟨vals, h1, h2, h3⟩ := h
 obtain ⟨b, m, d, e1, e2, e3, e4, e5, e6, e7⟩ := h3 k xs hk
 have hn : n = vals.length := by
   rcases h1.2 with ⟨e, _⟩ | ⟨_, _, _, e, _⟩
   · cases e
   · exact (Value.slice.inj e).2.1
 subst hn
 have hkl := (List.getElem?_eq_some_iff.1 e1).1
 exact ⟨b, m, d, by rw [World.ownsRow.cellAt h1 k (by omega)]; exact e1, World.ownsRow.frozenAt h1 k, e2, e3, e4, e5, e6, fun e => e7 (by rw [e]; rfl)⟩
theorem ORows.put {w : World} {base g n c : Nat} {xss : List (List Int)} (h : ORows w base (.slice (some ⟨g, 0, none⟩) n c) xss) {k b m d : Nat} {ys : List Int} (ht : TabI w b ys) (hl : ys.length = m) (hc : m ≤ d) (hbd : ∀ x, x ∈ ys → -9223372036854775808 ≤ x ∧ x ≤ 9223372036854775807) (hb : base ≤ b) (hne : b ≠ g) :
   ORows (w.setCell ⟨g, k, none⟩ (.slice (some ⟨b, 0, none⟩) m d)) base (.slice (some ⟨g, 0, none⟩) n c) (xss.set k ys) := by
 obtain ⟨vals, h1, h2, h3⟩ := h
 have hn : n = vals.length := by
   rcases h1.2 with ⟨e, _⟩ | ⟨_, _, _, e, _⟩
   · cases e
   · exact (Value.slice.inj e).2.1
 subst hn
 have hst := (World.ownsRow.stored h1 k (.slice (some ⟨b, 0, none⟩) m d)).1
 refine ⟨vals.set k (.slice (some ⟨b, 0, none⟩) m d), by rw [List.length_set]; exact hst, by simp [h2], fun i xs hi => ?_⟩
 rw [List.getElem?_set] at hi
 by_cases e : k = i
 · subst e
   rw [if_pos rfl] at hi
   split at hi
   · cases hi
     exact ⟨b, m, d, by rw [List.getElem?_set, if_pos rfl, if_pos (by omega)], Tab.other ht hne _, hl, hc, hbd, hb, fun e => hne (by injection e with e; exact e.symm)⟩
   · cases hi
 · rw [if_neg e] at hi
   obtain ⟨b', m', d', e1, e2, e3, e4, e5, e6, e7⟩ := h3 i xs hi
   exact ⟨b', m', d', by rw [List.getElem?_set, if_neg e]; exact e1, Tab.other e2 (fun e => e7 (by rw [e]; rfl)) _, e3, e4, e5, e6, e7⟩
theorem appOR {ops : Array Oper} {rest : List Oper} {o : Oper} {a : Act} {Q : Exit → Act → World → Prop} (w : World) (hgd : o.guard = none) (s x : Operand)
   (ho : o.op = .call { callee := .builtin .append, args := #[s, x], argTypes := #[22, 22] })
   (base : Nat) (v : Value) (xss : List (List Int)) (hs : a.eval s = v) (hown : ORows w base v xss) (xb b ln lc : Nat) (ys : List Int) (hx : a.eval x = .slice (some ⟨xb, 0, none⟩) 1 1)
   (hc : w.cell? ⟨xb, 0, none⟩ = some (.slice (some ⟨b, 0, none⟩) ln lc)) (ht : TabI w b ys) (hyl : ys.length = ln) (hlc : ln ≤ lc) (hbd : ∀ x, x ∈ ys → -9223372036854775808 ≤ x ∧ x ≤ 9223372036854775807) (hb : base ≤ b) (hap : v.ownBlock ≠ some b) (hlen : xss.length < 1000000) (hbase : base ≤ w.heap.size)
   (h : ∀ g cap w', ORows w' base (.slice (some ⟨g, 0, none⟩) (xss.length + 1) cap) (xss ++ [ys]) → Below base w w' → wpList Tryz.prog ops Q rest (a.put o.dst (.slice (some ⟨g, 0, none⟩) (xss.length + 1) cap)) w') : wpList Tryz.prog ops Q (o :: rest) a w := by
 obtain ⟨i0, hi, hz0, hz1, hz2⟩ := info_parts infoInts
 obtain ⟨vals, h1, h3, h4⟩ := hown
 refine wpList_append_own_at w hgd s x _ ho base 25 i0 _ 1 24 Tryz.underlying22 hi hz0 hz1 hz2 rfl (by decide) v vals.length _ hs h1 ⟨xb, 0, none⟩ 1 1 [.slice (some ⟨b, 0, none⟩) ln lc] hx rfl ?_ ?_ ?_ ?_ hbase ?_
 · intro j u hu
   cases j with
   | zero => simp at hu; subst hu; simpa [Addr.add] using hc
   | succ j => simp at hu
 · intro u hu; simp at hu; subst hu; rfl
 · unfold maxLen; omega
 · omega
 · intro v' w' hown' hg hnil hat
   have hne : v' ≠ .slice none 0 0 := fun e => by have := (hnil.1 e).2; omega
   rcases hown'.2 with ⟨e, _⟩ | ⟨g, cap, cur, hv, r⟩
   · exact absurd e hne
   · subst hv
     have hfar : ∀ b', b' < w.heap.size → v.ownBlock ≠ some b' → (Value.slice (some ⟨g, 0, none⟩) (vals.length + 1) cap).ownBlock ≠ some b' := fun b' hb' hv' e => by
       rcases hat with e2 | e2
       · exact hv' (by rw [← e2]; exact e)
       · rw [e2] at e; injection e with e; omega
     rw [h3]
     refine h g cap w' ⟨vals ++ [.slice (some ⟨b, 0, none⟩) ln lc], by rw [List.length_append, ← h3]; exact hown', by simp [h3], fun i xs hi => ?_⟩ ((Below.refl base w).grown hg hbase fun k hk => (World.ownsRow.lt h1 k hk).1)
     by_cases hil : i < xss.length
     · rw [List.getElem?_append_left hil] at hi
       obtain ⟨b', m', d', e1, e2, e3, e4, e5, e6, e7⟩ := h4 i xs hi
       exact ⟨b', m', d', by rw [List.getElem?_append_left (by omega)]; exact e1, Tab.grown e2 hg e7, e3, e4, e5, e6, hfar b' (Tab.lt e2) e7⟩
     · have hil' : i = xss.length := by have := (List.getElem?_eq_some_iff.1 hi).1; simp at this; omega
       subst hil'
       rw [List.getElem?_append_right (Nat.le_refl _)] at hi
       simp at hi
       subst hi
       exact ⟨b, ln, lc, by rw [List.getElem?_append_right (by omega), h3]; simp, Tab.grown ht hg hap, hyl, hlc, hbd, hb, hfar b (Tab.lt ht) hap⟩

theorem best10_yes (ga : Option Addr) (gn gc : Nat) (gains : List (List Int)) (n : Nat) (w : World) (hg : Rows w ga gn gc gains) (hc : wcheck gains n = true) :
   Calls Tryz.prog 61 #[.slice ga gn gc, .int .i64 n] w fun e w' => e = .returned (.tuple #[.int .i64 (bestVal gains n), .int .i64 0]) ∧ Below w.heap.size w w' := by
 have hgn : gn ≤ 8 := by have := (wcheck_parts hc).2.2.1; have := hg.len; omega
 have HG := Lib.hid hg; clear hg
 have HC := Lib.hid hc; clear hc
 go_enter Tryz.func61, Tryz.ntmps61
 go_wp2_with fail
 refine (check10_any ga gn gc gains n w HG.out (by omega)).mono ?_
 rw [HC.out]
 rintro e w1 ⟨rfl, hb⟩
 have HB := Lib.hid hb; clear hb
 go_wp2_with fail
 refine (best10_in ga gn gc gains n w1 (HG.out.below HB.out (Nat.le_refl _)) HC.out).mono ?_
 rintro e w2 ⟨rfl, hb⟩
 have HB2 := Lib.hid (HB.out.trans (hb.mono HB.out.size)); clear hb
 go_wp2_with fail
 go_ret2
 exact ⟨rfl, HB2.out⟩

set_option maxHeartbeats 1000000 in
theorem nothing_any (n : Nat) (hn1 : 1 ≤ n) (hn : n ≤ 8) (w : World) :
   Calls Tryz.prog 62 #[.int .i64 n] w fun e w' => ∃ g c, e = .returned (.slice (some ⟨g, 0, none⟩) n c) ∧ TabI w' g (List.replicate n (-1)) ∧ n ≤ c ∧ w.heap.size ≤ g ∧ Below w.heap.size w w' := by
 go_enter Tryz.func62, Tryz.ntmps62
 go_wp2_with fail
 go_loopg [3, 4] n (fun g' s3 s4 wr => ∃ (k : Nat) (v3 : Value), k + g' = n ∧ s4 = .int .i64 k ∧ s3 = v3 ∧ Own wr w.heap.size v3 (List.replicate k (-1)) ∧ Below w.heap.size w wr)
 case atStart => exact ⟨0, _, by omega, rfl, rfl, by simp [Own, World.ownsRow], Below.refl _ _⟩
 case round =>
   obtain ⟨k, v3, hk, rfl, hv3, hO, hB⟩ := hrel
   replace hv3 := hv3.symm
   subst hv3
   have HK := Lib.hid hk; clear hk
   have HO := Lib.hid hO; clear hO
   have hbs := hB.size
   have HB := Lib.hid hB; clear hB
   by_cases hlt : k < n
   · obtain ⟨zs, hzs⟩ : ∃ zs, zs = List.replicate k (-1 : Int) := ⟨_, rfl⟩
     have hzl : zs.length = k := by rw [hzs]; simp
     rw [← hzs] at HO
     have HZ := Lib.hid hzs; clear hzs
     have HZL := Lib.hid hzl; clear hzl
     go_wp2_with (at_builtin; refine app1 _ rfl _ _ rfl w.heap.size _ zs rfl (HO.out.alloc _) wr.heap.size 0 1 (-1) rfl (by simp [go_sem]) (by rw [HZL.out]; omega) (by simp; omega) ?_)
     intro g' cap' w' hown' hgr' hb'
     have HO3 := Lib.hid hown'; clear hown'
     have HB3 := Lib.hid ((HB.out.alloc HB.out.size (.cells #[.int .i64 (-1)] 3)).trans hb'); clear hb' hgr'
     go_wp2_with fail
     go_roundg (gk - 1)
     case measure => have := HK.out; omega
     case rel => exact ⟨k + 1, _, by have := HK.out; omega, by go_num, rfl, by rw [List.replicate_succ', ← HZ.out]; exact HO3.out, HB3.out⟩
   · obtain rfl : k = n := by have := HK.out; omega
     obtain ⟨g, c, hv, hg, hc⟩ : ∃ g c, v3 = .slice (some ⟨g, 0, none⟩) k c ∧ w.heap.size ≤ g ∧ k ≤ c := by
       rcases HO.out.2 with ⟨_, e0⟩ | ⟨g2, cap, cur, e, hb, hh, hle, _⟩
       · simp at e0; omega
       · rw [List.length_replicate] at e hle; exact ⟨g2, cap, e, hb, hle⟩
     subst hv
     have HT := Lib.hid HO.out.tab.1
     go_wp2_with fail
     go_ret
     exact ⟨g, c, rfl, HT.out, hc, hg, HB.out⟩

def withoutG (gains : List (List Int)) (item : Nat) : List (List Int) := gains.map fun l => l.set item (-1)
set_option maxHeartbeats 2000000 in
set_option maxRecDepth 100000 in
theorem without_any (ga : Option Addr) (gn gc : Nat) (gains : List (List Int)) (n item : Nat) (w : World) (hg : Rows w ga gn gc gains) (hl : ∀ l, l ∈ gains → l.length = n) (hn1 : 1 ≤ n) (hn : n ≤ 8) (hgn : gn ≤ 8) (hit : item < n) :
   Calls Tryz.prog 63 #[.slice ga gn gc, .int .i64 item] w fun e w' => ∃ v, e = .returned v ∧ ORows w' w.heap.size v (withoutG gains item) ∧ Below w.heap.size w w' := by
 have HG := Lib.hid hg; clear hg
 have HL := Lib.hid hl; clear hl
 go_enter Tryz.func63, Tryz.ntmps63
 go_wp2_with fail
 go_loopg [5, 6, 7] gn (fun g' s5 s6 s7 wr => ∃ (k : Nat) (v5 : Value), k + g' = gn ∧ s6 = .int .i64 k ∧ s5 = v5 ∧ ORows wr w.heap.size v5 (withoutG (gains.take k) item) ∧ Below w.heap.size w wr)
 case atStart => exact ⟨0, _, by omega, rfl, rfl, ORows.nil _ _, Below.refl _ _⟩
 case round =>
   obtain ⟨k, v5, hk, rfl, hv5, hO, hB⟩ := hrel
   replace hv5 := hv5.symm
   subst hv5
   obtain ⟨w1, rfl⟩ : ∃ w1, w1 = wr := ⟨_, rfl⟩
   have HK := Lib.hid hk; clear hk
   have HO := Lib.hid hO; clear hO
   have hbs := hB.size
   by_cases hlt : k < gn
   · obtain ⟨l, hl⟩ := HG.out.get hlt
     obtain ⟨b, o, rfl⟩ := HG.out.addr (by omega)
     obtain ⟨la, ln, lc, hcl, hli⟩ := (HG.out.below hB (Nat.le_refl _)).cell b o rfl k l hl
     obtain rfl : ln = n := by rw [← hli.len]; exact HL.out l (List.mem_of_getElem? hl)
     have HB := Lib.hid hB; clear hB
     have HLI := Lib.hid hli; clear hli
     have HLG := Lib.hid hl; clear hl
     have i1 : (k : Int) < (gn : Int) := by omega
     go_wp2_with (at_builtin; refine appMany _ rfl _ _ rfl w1.heap.size (.slice none 0 0) [] rfl (by simp [Own, World.ownsRow]) la ln lc l rfl HLI.out (by omega) (by simp; omega) (Nat.le_refl _) ?_)
     intro v' w2 hO2 hgr2 hb2 _
     obtain ⟨g2, c2, rfl, hg2, hc2⟩ : ∃ g2 c2, v' = .slice (some ⟨g2, 0, none⟩) ln c2 ∧ w1.heap.size ≤ g2 ∧ ln ≤ c2 := by
       have hll := HLI.out.len
       rcases hO2.2 with ⟨_, e0⟩ | ⟨g2, cap, cur, e, hb, _, hle, _⟩
       · have e1 : l.length = 0 := e0
         omega
       · have e' : v' = .slice (some ⟨g2, 0, none⟩) l.length cap := e
         have hle' : l.length ≤ cap := hle
         rw [hll] at e' hle'
         exact ⟨g2, cap, e', hb, hle'⟩
     have hT2 : TabI w2 g2 l := hO2.tab.1
     have hlt2 := Tab.lt hT2
     obtain ⟨x0, hx0, _⟩ := HLI.out.get hit
     have cx := Tab.cell hT2 (k := item) (v := .int .i64 x0) (by rw [List.getElem?_map, hx0]; rfl)
     have cf := Tab.frozen hT2 item
     have HT3 := Lib.hid (TabI.set hT2 item (-1))
     have HB2 := Lib.hid hb2; clear hb2 hgr2 hO2 hT2 hx0
     have ii : (item : Int) < (ln : Int) := by omega
     obtain ⟨w3, hw3⟩ : ∃ w3, w3 = w2.setCell ⟨g2, item, none⟩ (.int .i64 (-1)) := ⟨_, rfl⟩
     have hb3 : Below w1.heap.size w1 w3 := by rw [hw3]; exact HB2.out.setCell (p := ⟨g2, item, none⟩) hg2 _
     have hT4 : TabI w3 g2 (l.set item (-1)) := by rw [hw3]; exact HT3.out
     have hlt4 := Tab.lt hT4
     have hap : v5.ownBlock ≠ some g2 := fun e => by have := (HO.out.lt g2 e).2; omega
     have HAP := Lib.hid hap; clear hap
     have HB3 := Lib.hid hb3; clear hb3
     have HT4 := Lib.hid hT4; clear hT4 HT3 HB2
     have hw3' := hw3.symm
     clear hw3
     have hsz3 := HB3.out.size
     have hbd : ∀ x, x ∈ l.set item (-1) → -9223372036854775808 ≤ x ∧ x ≤ 9223372036854775807 := fun x hx => by
       rcases List.mem_or_eq_of_mem_set hx with h | h
       · exact HLI.out.bd x h
       · omega
     have HBD := Lib.hid hbd; clear hbd
     have hll : (l.set item (-1)).length = ln := by rw [List.length_set]; exact HLI.out.len
     have HLL := Lib.hid hll; clear hll
     have htk : (withoutG (gains.take k) item).length = k := by unfold withoutG; rw [List.length_map, List.length_take]; have := HG.out.len; omega
     have HTK := Lib.hid htk; clear htk
     go_wp2_with (at_builtin; (try rw [hw3']); refine appOR _ rfl _ _ rfl w.heap.size v5 (withoutG (gains.take k) item) rfl ((HO.out.below HB3.out (Nat.le_refl _)).below ((Below.refl _ w3).alloc (Nat.le_refl _) _) (Nat.le_refl _)) w3.heap.size g2 ln c2 (l.set item (-1)) rfl (by simp [go_sem]) (Tab.below HT4.out ((Below.refl _ w3).alloc (Nat.le_refl _) _) hlt4) HLL.out hc2 HBD.out (by omega) HAP.out (by rw [HTK.out]; omega) (by simp; omega) ?_)
     intro g' cap' w' hO' hb'
     have HO' := Lib.hid hO'; clear hO'
     have HB' := Lib.hid ((HB.out.trans (HB3.out.mono hbs)).trans ((((Below.refl _ w3).alloc (Nat.le_refl _) (.cells #[.slice (some ⟨g2, 0, none⟩) ln c2] 25)).mono (by omega)).trans hb')); clear hb'
     go_wp2_with fail
     go_roundg (gk - 1)
     case measure => have := HK.out; omega
     case rel =>
       refine ⟨k + 1, _, by have := HK.out; omega, by go_num, rfl, ?_, HB'.out⟩
       rw [show withoutG (gains.take (k + 1)) item = withoutG (gains.take k) item ++ [l.set item (-1)] from by unfold withoutG; rw [List.take_add_one, HLG.out]; simp]
       exact HO'.out
   · obtain rfl : k = gn := by have := HK.out; omega
     have hO2 := HO.out
     rw [List.take_of_length_le (by have := HG.out.len; omega)] at hO2
     have HO2 := Lib.hid hO2; clear hO2
     have HB := Lib.hid hB; clear hB
     go_wp2_with fail
     go_ret
     exact ⟨v5, rfl, HO2.out, HB.out⟩
end Go.Proofs.YtkddkkcfpnndlaaGreatDoor
