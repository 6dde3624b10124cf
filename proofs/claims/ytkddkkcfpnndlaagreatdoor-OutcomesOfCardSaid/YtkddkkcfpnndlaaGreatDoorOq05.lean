/- Walks: weights.Best; what its table tells is the most. Walks: firsts.table.fill. -/
import Derived.Test.YtkddkkcfpnndlaaGreatDoorOq03
import Derived.Test.YtkddkkcfpnndlaaGreatDoorOq02
import Derived.BigRegion
namespace Go.Proofs.YtkddkkcfpnndlaaGreatDoor
open Go.RowKit Sale

def bestVal (gains : List (List Int)) (n : Nat) : Int := opt (gi gains) n (List.range gains.length) (fun _ => true)

theorem mostOf_ge (l : List Int) : ∀ x : Int, x ≤ mostOf x l ∧ ∀ y, y ∈ l → y ≤ mostOf x l := by
 induction l with
 | nil => intro x; simp [mostOf]
 | cons z l ih =>
   intro x
   have h := ih (max x z)
   simp only [mostOf, List.foldl_cons] at h ⊢
   refine ⟨by omega, fun y hy => ?_⟩
   rcases List.mem_cons.1 hy with rfl | hy
   · omega
   · exact h.2 y hy
theorem mostOf_cases (l : List Int) : ∀ x : Int, mostOf x l = x ∨ mostOf x l ∈ l := by
 induction l with
 | nil => intro x; simp [mostOf]
 | cons z l ih =>
   intro x
   have h := ih (max x z)
   simp only [mostOf, List.foldl_cons] at h ⊢
   rcases h with h | h
   · rcases Int.le_total x z with h1 | h1
     · right; rw [h, Int.max_eq_right h1]; exact List.mem_cons_self
     · left; rw [h, Int.max_eq_left h1]
   · right; exact List.mem_cons_of_mem _ h

theorem best_val {gains : List (List Int)} (hm : gains.length ≤ 8) (n : Nat) : mostOf 0 (tab (tabOf gains (List.range n).reverse)) = bestVal gains n := by
 have hnd : (List.range n).reverse.Nodup := (List.reverse_perm _).nodup_iff.2 List.nodup_range
 have hfull : ∀ r, r < gains.length → (2 ^ gains.length - 1).testBit r = true := by
   intro r hr; rw [Nat.testBit_two_pow_sub_one]; simpa using hr
 have e : bestVal gains n = opt (Sale.flip (gi gains)) gains.length (List.range n).reverse (bitsOf (2 ^ gains.length - 1)) :=
   opt_flip List.nodup_range hnd (fun i => by simp [bitsOf]) (fun k => by simp)
 have hp : 0 < 2 ^ gains.length := Nat.pow_pos (by omega)
 apply Int.le_antisymm
 · rcases mostOf_cases (tab (tabOf gains (List.range n).reverse)) 0 with h | h
   · rw [h, e]; exact opt_nonneg _ _ _ _
   · obtain ⟨j, _, hj⟩ := List.mem_map.1 h
     rw [← hj, e]
     unfold tabOf
     split
     · exact opt_mono hnd (fun _ h => h) fun r hr _ => hfull r hr
     · exact opt_nonneg _ _ _ _
 · refine (mostOf_ge _ 0).2 _ (List.mem_map.2 ⟨2 ^ gains.length - 1, ?_, ?_⟩)
   · have : 2 ^ gains.length ≤ 256 := Nat.pow_le_pow_right (n := 2) (by omega) hm
     exact List.mem_range.2 (by omega)
   · rw [tabOf, if_pos (by omega), e]

theorem wcheck_parts {gains : List (List Int)} {items : Int} (h : wcheck gains items = true) :
   1 ≤ items ∧ items ≤ 8 ∧ gains.length ≤ 8 ∧ (∀ l, l ∈ gains → (l.length : Int) = items) ∧ (∀ l, l ∈ gains → ∀ x, x ∈ l → -1000000 ≤ x ∧ x ≤ 1000000) := by
 simp only [wcheck, Bool.and_eq_true, decide_eq_true_eq, Bool.not_eq_true', List.any_eq_false, badGains, badGain, Bool.or_eq_true, decide_eq_false_iff_not, List.any_eq_true, not_or] at h
 obtain ⟨⟨⟨h1, h2⟩, h3⟩, h4⟩ := h
 refine ⟨h1, h2, h3, fun l hl => ?_, fun l hl x hx => ?_⟩
 · have := (h4 l hl).1; simpa using this
 · have := (h4 l hl).2
   have h5 : ¬ (x < -1000000 ∨ 1000000 < x) := fun hh => this ⟨x, hx, hh⟩
   omega

set_option maxHeartbeats 400000 in
theorem Best_any (ga : Option Addr) (gn gc : Nat) (gains : List (List Int)) (items : Int) (w : World) (hg : Rows w ga gn gc gains) :
   Calls Tryz.prog 56 #[.slice ga gn gc, .int .i64 items] w fun e w' =>
     e = .returned (.tuple #[.int .i64 (if wcheck gains items = true then bestVal gains items.toNat else 0), .int .i64 (if wcheck gains items = true then 0 else 1)]) ∧ Below w.heap.size w w' := by
 have HG := Lib.hid hg; clear hg
 cases hc : wcheck gains items with
 | false =>
   have HC := Lib.hid hc; clear hc
   go_enter Tryz.func56, Tryz.ntmps56
   go_wp2_with fail
   refine (wcheck_any ga gn gc gains items w HG.out).mono ?_
   rw [HC.out]
   rintro e w1 ⟨rfl, hb⟩
   have HB := Lib.hid hb; clear hb
   go_wp2_with fail
   go_ret2
   exact ⟨rfl, HB.out⟩
 | true =>
   obtain ⟨h1, h2, h3, h4, h5⟩ := wcheck_parts hc
   obtain ⟨n, rfl⟩ : ∃ n : Nat, items = n := ⟨items.toNat, by omega⟩
   have HC := Lib.hid hc; clear hc
   have HH := Lib.hid (And.intro h4 h5); clear h4 h5
   have HL := Lib.hid h3; clear h3
   go_enter Tryz.func56, Tryz.ntmps56
   go_wp2_with fail
   refine (wcheck_any ga gn gc gains n w HG.out).mono ?_
   rw [HC.out]
   rintro e w1 ⟨rfl, hb⟩
   have HB := Lib.hid hb; clear hb
   go_wp2_with fail
   refine (each_any n w1 (by omega)).mono ?_
   rintro e w2 ⟨a2, c2, rfl, hi2, hb2⟩
   have HI2 := Lib.hid hi2; clear hi2
   have HB2 := Lib.hid (HB.out.trans (hb2.mono HB.out.size)); clear hb2
   go_wp2_with fail
   have hm := HG.out.len
   refine (best_any ga a2 gn gc n c2 gains (List.range n) n w2 (HG.out.below HB2.out (Nat.le_refl _)) HI2.out (by have := HL.out; omega) (fun l hl => by have := HH.out.1 l hl; omega) (fun k hk => List.mem_range.1 hk) HH.out.2 (by omega)).mono ?_
   rw [best_val HL.out]
   rintro e w3 ⟨rfl, hb3⟩
   have HB3 := Lib.hid (HB2.out.trans (hb3.mono HB2.out.size)); clear hb3
   go_wp2_with fail
   go_ret2
   exact ⟨rfl, HB3.out⟩
end Go.Proofs.YtkddkkcfpnndlaaGreatDoor

namespace Go.Proofs.YtkddkkcfpnndlaaGreatDoor
open Go.RowKit Sale

def openOf (tk : Nat) : Nat → Bool := fun k => !tk.testBit k
def tblOf (gains : List (List Int)) (n : Nat) (on : List Nat) (dn tk : Nat) : Int := if tk < 2 ^ n then opt (gi gains) n (on.drop dn) (openOf tk) else 0
def rowsOf (gains : List (List Int)) (n : Nat) (on : List Nat) (d pos : Nat) : Int := if d ≤ pos / 256 then tblOf gains n on (pos / 256) (pos % 256) else 0
def rowOf (gains : List (List Int)) (n : Nat) (on : List Nat) (d tk pos : Nat) : Int := if pos / 256 = d ∧ pos % 256 < tk then tblOf gains n on d (pos % 256) else rowsOf gains n on (d + 1) pos
def somOf (gains : List (List Int)) (n : Nat) (on : List Nat) (d tk l k : Nat) : Int :=
 foldMax (fun r => openOf tk r && decide (0 ≤ gi gains l r)) (fun r => gi gains l r + opt (gi gains) n (on.drop (d + 1)) (less (openOf tk) r)) (opt (gi gains) n (on.drop (d + 1)) (openOf tk)) (List.range k)
def innOf2 (gains : List (List Int)) (n : Nat) (on : List Nat) (d tk l k pos : Nat) : Int := if pos = d * 256 + tk then somOf gains n on d tk l k else rowOf gains n on d tk pos

theorem rowsOf_ge {gains : List (List Int)} {n : Nat} {on : List Nat} {d pos : Nat} (h : d ≤ pos / 256) : rowsOf gains n on d pos = tblOf gains n on (pos / 256) (pos % 256) := if_pos h
theorem rowsOf_lt {gains : List (List Int)} {n : Nat} {on : List Nat} {d pos : Nat} (h : pos / 256 < d) : rowsOf gains n on d pos = 0 := if_neg (by omega)
theorem rowOf_in {gains : List (List Int)} {n : Nat} {on : List Nat} {d tk pos : Nat} (h : pos / 256 = d) (h2 : pos % 256 < tk) : rowOf gains n on d tk pos = tblOf gains n on d (pos % 256) := if_pos ⟨h, h2⟩
theorem rowOf_out {gains : List (List Int)} {n : Nat} {on : List Nat} {d tk pos : Nat} (h : ¬ (pos / 256 = d ∧ pos % 256 < tk)) : rowOf gains n on d tk pos = rowsOf gains n on (d + 1) pos := if_neg h
theorem som_no {gains : List (List Int)} {n : Nat} {on : List Nat} {d tk l k : Nat} (h : tk.testBit k = true ∨ gi gains l k < 0) : somOf gains n on d tk l (k + 1) = somOf gains n on d tk l k := by
 unfold somOf
 rw [List.range_succ, foldMax_snoc, if_neg]
 simp only [openOf, Bool.and_eq_true, decide_eq_true_eq, not_and, Bool.not_eq_true']
 rcases h with h | h
 · rw [h]; intro e; cases e
 · intro _; omega
theorem som_yes {gains : List (List Int)} {n : Nat} {on : List Nat} {d tk l k : Nat} (h : tk.testBit k = false) (h0 : 0 ≤ gi gains l k) :
   somOf gains n on d tk l (k + 1) = max (somOf gains n on d tk l k) (gi gains l k + opt (gi gains) n (on.drop (d + 1)) (less (openOf tk) k)) := by
 unfold somOf
 rw [List.range_succ, foldMax_snoc, if_pos]
 simp [openOf, h, h0]
theorem som_full {gains : List (List Int)} {n : Nat} {on : List Nat} {d tk l : Nat} (h : on[d]? = some l) : somOf gains n on d tk l n = opt (gi gains) n (on.drop d) (openOf tk) := by
 have hd : d < on.length := (List.getElem?_eq_some_iff.1 h).1
 have hx : on[d] = l := (List.getElem?_eq_some_iff.1 h).2
 rw [List.drop_eq_getElem_cons hd, hx]; rfl
theorem tblOf_bd {gains : List (List Int)} (hbd : ∀ l, l ∈ gains → ∀ x, x ∈ l → -1000000 ≤ x ∧ x ≤ 1000000) (n : Nat) (on : List Nat) (hon : on.length ≤ 8) (d tk : Nat) : 0 ≤ tblOf gains n on d tk ∧ tblOf gains n on d tk ≤ 8000000 := by
 unfold tblOf
 split
 · refine ⟨opt_nonneg _ _ _ _, ?_⟩
   have h := opt_le (g := gi gains) (n := n) (B := 1000000) (by omega) (on.drop d) (openOf tk) fun l _ r _ => gi_le hbd l r
   have h2 : (on.drop d).length ≤ 8 := by simp; omega
   omega
 · omega
theorem tbl_less {gains : List (List Int)} {n : Nat} {on : List Nat} {d tk k : Nat} (ht : tk < 2 ^ n) (hk : k < n) : tblOf gains n on d (tk ||| 2 ^ k) = opt (gi gains) n (on.drop d) (less (openOf tk) k) := by
 unfold tblOf
 rw [if_pos (Nat.or_lt_two_pow ht (Nat.pow_lt_pow_right (by omega) hk))]
 refine opt_congr _ (fun _ _ _ _ => rfl) fun r _ => ?_
 simp only [openOf, less, Nat.testBit_or, Nat.testBit_two_pow]
 by_cases e : k = r
 · subst e; simp
 · simp [e, Ne.symm e]

set_option maxHeartbeats 1000000 in
set_option maxRecDepth 100000 in
theorem fill_any (Bt T : Nat) (ga oa : Option Addr) (gn gc o_n oc : Nat) (gains : List (List Int)) (on : List Nat) (n : Nat) (w0 w : World) (hg : Rows w0 ga gn gc gains) (ho : Ints w0 oa o_n oc (on.map fun k : Nat => (k : Int)))
   (hb0 : Below Bt w0 w) (hz0 : w0.heap.size ≤ Bt) (ht : Row w Bt T (tabN 2304 fun _ => 0))
   (hm : gn ≤ 8) (hon : o_n ≤ 8) (hn1 : 1 ≤ n) (hn : n ≤ 8) (hlen : ∀ l, l ∈ gains → l.length = n) (hk : ∀ k, k ∈ on → k < gn) (hbd : ∀ l, l ∈ gains → ∀ x, x ∈ l → -1000000 ≤ x ∧ x ≤ 1000000) :
   Calls Tryz.prog 58 #[.pointer (some ⟨Bt, 0, none⟩), .slice ga gn gc, .slice oa o_n oc] w fun e w' => e = .returned (.tuple #[]) ∧ Below Bt w w' ∧ Row w' Bt T (tabN 2304 (rowsOf gains n on 0)) := by
 obtain ⟨N, hN⟩ : ∃ N : Nat, N = 2 ^ n := ⟨_, rfl⟩
 have hN8 : N ≤ 256 := by rw [hN]; exact Nat.pow_le_pow_right (n := 2) (by omega) hn
 have hsh : wrap64 ((2 : Int) ^ n) = (N : Int) := by
   have e : ((2 : Int) ^ n) = ((2 ^ n : Nat) : Int) := by simp
   rw [e, ← hN]; unfold wrap64; omega
 have hsh2 : IntKind.i64.wrap ((2 : Int) ^ n) = (N : Int) := by
   have e : ((2 : Int) ^ n) = ((2 ^ n : Nat) : Int) := by simp
   rw [e, ← hN]; exact IntWalk.i64_in _ (by omega)
 have HN := Lib.hid hN; clear hN
 have hol := ho.len
 have HOL := Lib.hid (show on.length = o_n by simpa using hol); clear hol
 go_enter Tryz.func58, Tryz.ntmps58
 go_wp2_with fail
 go_loopg [6] o_n (fun g s6 wr => ∃ z : Int, s6 = .int .i64 z ∧ z = (g : Int) - 1 ∧ g ≤ o_n ∧ Row wr Bt T (tabN 2304 (rowsOf gains n on g)) ∧ Below Bt w wr)
 case atStart =>
   refine ⟨_, rfl, rfl, Nat.le_refl _, ?_, Below.refl _ _⟩
   rw [show tabN 2304 (rowsOf gains n on o_n) = tabN 2304 (fun _ => 0) from tabN_congr fun j _ => ?_]
   · exact ht
   · unfold rowsOf
     split
     · unfold tblOf
       split
       · rw [List.drop_of_length_le (by rw [HOL.out]; assumption)]; rfl
       · rfl
     · rfl
 case round =>
   obtain ⟨z, rfl, hz, hgo, hR, hB⟩ := hrel
   cases gk with
   | zero =>
     obtain rfl : z = -1 := by simpa using hz
     have HR := Lib.hid hR; clear hR
     have HB := Lib.hid hB; clear hB
     clear hz
     go_wp2_with fail
     refine bodyPost_end (results_none rfl _ _ _) rfl ?_
     exact ⟨rfl, HB.out, HR.out⟩
   | succ e =>
     obtain rfl : z = (e : Int) := by omega
     clear hz
     obtain ⟨l, hl⟩ : ∃ l, on[e]? = some l := ⟨on[e]'(by rw [HOL.out]; omega), by simp⟩
     have hlg := hk l (List.mem_of_getElem? hl)
     obtain ⟨b, o, rfl⟩ := ho.addr (by omega)
     have hc := (ho.below (hb0.trans hB) hz0).cell b o rfl e l (by simp [hl])
     obtain ⟨xs, hxs⟩ := hg.get hlg
     obtain ⟨bg, og, rfl⟩ := hg.addr (by omega)
     obtain ⟨la, ln, lc, hcl, hli⟩ := (hg.below (hb0.trans hB) hz0).cell bg og rfl l xs hxs
     have hg' := hg.cell bg og rfl l xs hxs
     obtain rfl : ln = n := by rw [← hli.len]; exact hlen xs (List.mem_of_getElem? hxs)
     have hli0 : Ints w0 la ln lc xs := by
       obtain ⟨la', ln', lc', hcl', hli'⟩ := hg'
       have hbl := block_lt_of_cell hcl'
       rw [(hb0.trans hB).cell (p := ⟨bg, og + l, none⟩) (by simp at hbl ⊢; omega), hcl'] at hcl
       cases hcl; exact hli'
     have HLI := Lib.hid hli0; clear hli0 hli hg'
     have HG := Lib.hid hg; clear hg
     have HO := Lib.hid ho; clear ho
     have HL := Lib.hid hl; clear hl
     have HXS := Lib.hid hxs; clear hxs
     have HR := Lib.hid hR; clear hR
     have HB := Lib.hid hB; clear hB
     have HB0 := Lib.hid hb0; clear hb0
     have HLEN := Lib.hid hlen; clear hlen
     have HKK := Lib.hid hk; clear hk
     have HBD := Lib.hid hbd; clear hbd
     go_wp2_with fail
     obtain ⟨w1, rfl⟩ : ∃ w1 : World, w1 = wr := ⟨_, rfl⟩
     go_loopg [28] N (fun g s28 wr => ∃ tk : Nat, tk + g = N ∧ s28 = .int .i64 tk ∧ Row wr Bt T (tabN 2304 (rowOf gains ln on e tk)) ∧ Below Bt w wr)
     case atStart =>
       refine ⟨0, by omega, rfl, ?_, HB.out⟩
       rw [show rowOf gains ln on e 0 = rowsOf gains ln on (e + 1) from funext fun j => by simp [rowOf]]
       exact HR.out
     case round =>
       obtain ⟨tk, htk, rfl, hR1, hB1⟩ := hrel
       by_cases hlw : tk < N
       · have hc1 := hR1.cell (k := (e + 1) * 256 + tk) (tabN_get _ (by omega))
         rw [show rowOf gains ln on e tk ((e + 1) * 256 + tk) = tblOf gains ln on (e + 1) tk from ?_] at hc1
         · have hc2 := hR1.cell (k := e * 256 + tk) (tabN_get _ (by omega))
           have hf1 := hR1.frozen (e * 256 + tk)
           have HW := Lib.hid htk; clear htk
           have HR1 := Lib.hid hR1; clear hR1
           have HB1 := Lib.hid hB1; clear hB1
           have i1 : (tk : Int) < 256 := by omega
           have i2 : (e : Int) + 1 < 9 := by omega
           go_wp2_with fail
           go_region
           go_wp2_with fail
           obtain ⟨w2, rfl⟩ : ∃ w2 : World, w2 = wr := ⟨_, rfl⟩
           obtain ⟨gw, rfl⟩ : ∃ gw : Nat, gw = gk := ⟨_, rfl⟩
           go_loopg [47] ln (fun g s47 wr => ∃ k : Nat, k + g = ln ∧ s47 = .int .i64 k ∧ Row wr Bt T (tabN 2304 (innOf2 gains ln on e tk l k)) ∧ Below Bt w wr)
           case atStart =>
             refine ⟨0, by omega, rfl, ?_, (HB1.out.setCell (by simp) _).drew⟩
             have hset := HR1.out.set (e * 256 + tk) (tblOf gains ln on (e + 1) tk)
             rw [tabN_set] at hset
             rw [show tabN 2304 (innOf2 gains ln on e tk l 0) = tabN 2304 (fun j => if j = e * 256 + tk then tblOf gains ln on (e + 1) tk else rowOf gains ln on e tk j) from tabN_congr fun j _ => ?_]
             · exact hset
             · unfold innOf2
               split
               · rw [tblOf, if_pos (by rw [← HN.out]; exact hlw)]; rfl
               · rfl
           case round =>
             obtain ⟨k, hk2, rfl, hR3, hB3⟩ := hrel
             by_cases hlk : k < ln
             · obtain ⟨x, hx, _⟩ := HLI.out.get hlk
               obtain ⟨lb, lo, rfl⟩ := HLI.out.addr (by omega)
               have hcx := (HLI.out.below (HB0.out.trans hB3) hz0).cell lb lo rfl k x hx
               have hlb : lb < Bt := by
                 have := block_lt_of_cell (HLI.out.cell lb lo rfl k x hx); simp at this; omega
               have HX := Lib.hid hx; clear hx
               have HK2 := Lib.hid hk2; clear hk2
               have HR3 := Lib.hid hR3; clear hR3
               have HB3 := Lib.hid hB3; clear hB3
               have hk8 : k < 8 := by omega
               have ht8 : tk < 256 := by omega
               have hpw := bit_pow k hk8
               have hpw3 := bit_pow' k hk8
               have hba := bit_and tk k ht8 hk8
               by_cases hx0 : x < 0
               · clear hba
                 go_wp2_with fail
                 go_roundg (gk - 1)
                 case measure => have := HK2.out; omega
                 case rel =>
                   refine ⟨k + 1, by have := HK2.out; omega, by go_num, ?_, HB3.out⟩
                   rw [show innOf2 gains ln on e tk l (k + 1) = innOf2 gains ln on e tk l k from funext fun j => by unfold innOf2; rw [som_no (.inr (by rw [gi_at HXS.out HX.out]; exact hx0))]]
                   exact HR3.out
               · cases hbit : tk.testBit k with
                 | true =>
                   rw [hbit, if_pos rfl] at hba
                   have HBIT := Lib.hid hbit; clear hbit
                   go_wp2_with fail
                   go_roundg (gk - 1)
                   case measure => have := HK2.out; omega
                   case rel =>
                     refine ⟨k + 1, by have := HK2.out; omega, by go_num, ?_, HB3.out⟩
                     rw [show innOf2 gains ln on e tk l (k + 1) = innOf2 gains ln on e tk l k from funext fun j => by unfold innOf2; rw [som_no (.inl HBIT.out)]]
                     exact HR3.out
                 | false =>
                   rw [hbit, if_neg (by decide)] at hba
                   obtain ⟨pw, hpw2⟩ : ∃ pw : Nat, pw = 2 ^ k := ⟨_, rfl⟩
                   have hor := bit_or tk k ht8 hk8
                   rw [← hpw2] at hor hpw hpw3
                   obtain ⟨q, hq⟩ : ∃ q, q = tk ||| pw := ⟨_, rfl⟩
                   rw [← hq] at hor
                   have hq8 : q < 256 := by rw [hq, hpw2]; exact Nat.or_lt_two_pow (n := 8) ht8 (Nat.pow_lt_pow_right (by omega) hk8)
                   obtain ⟨p, hp⟩ : ∃ p, p = somOf gains ln on e tk l k := ⟨_, rfl⟩
                   obtain ⟨y, hy⟩ : ∃ y, y = tblOf gains ln on (e + 1) q := ⟨_, rfl⟩
                   have hc1 := HR3.out.cell (k := e * 256 + tk) (tabN_get _ (by omega))
                   rw [show innOf2 gains ln on e tk l k (e * 256 + tk) = p by rw [hp]; simp [innOf2]] at hc1
                   have hc2 := HR3.out.cell (k := (e + 1) * 256 + q) (tabN_get _ (by omega))
                   rw [show innOf2 gains ln on e tk l k ((e + 1) * 256 + q) = y from ?_] at hc2
                   · have hf1 := HR3.out.frozen (e * 256 + tk)
                     have hyb : 0 ≤ y ∧ y ≤ 8000000 := by rw [hy]; exact tblOf_bd HBD.out _ _ (by rw [HOL.out]; exact hon) _ _
                     have hxb : x ≤ 1000000 := (HBD.out xs (List.mem_of_getElem? HXS.out) x (List.mem_of_getElem? HX.out)).2
                     have hxy : IntKind.i64.wrap (x + y) = x + y := IntWalk.i64_in _ (by omega)
                     have HP := Lib.hid hp; clear hp
                     have HY := Lib.hid hy; clear hy
                     have HQ := Lib.hid hq; clear hq
                     have HPW := Lib.hid hpw2; clear hpw2
                     have HBIT := Lib.hid hbit; clear hbit
                     have i3 : (q : Int) < 256 := by omega
                     have i4 : (k : Int) < (ln : Int) := by omega
                     go_wp2_with fail
                     go_region
                     all_goals (go_wp2_with fail)
                     all_goals (go_roundg (gk - 1))
                     all_goals first | (have := HK2.out; omega) | skip
                     all_goals
                       refine ⟨k + 1, by have := HK2.out; omega, by go_num, ?_, (HB3.out.setCell (by simp) _).drew⟩
                       have hset := HR3.out.set (e * 256 + tk) (max p (x + y))
                       rw [tabN_set] at hset
                       rw [show tabN 2304 (innOf2 gains ln on e tk l (k + 1)) = tabN 2304 (fun j => if j = e * 256 + tk then max p (x + y) else innOf2 gains ln on e tk l k j) from tabN_congr fun j _ => ?_]
                       · first | exact hset | (rw [Int.max_eq_right (by omega)] at hset ⊢; exact hset) | (rw [Int.max_eq_left (by omega)] at hset ⊢; exact hset)
                       · unfold innOf2
                         split
                         · rw [som_yes HBIT.out (by rw [gi_at HXS.out HX.out]; omega), gi_at HXS.out HX.out, ← tbl_less (by rw [← HN.out]; exact hlw) hlk, ← HPW.out, ← HQ.out, ← HY.out, ← HP.out]
                         · rfl
                   · rw [hy]
                     unfold innOf2
                     rw [if_neg (by omega), rowOf, if_neg (by omega), rowsOf, if_pos (by omega), show ((e + 1) * 256 + q) / 256 = e + 1 by omega, show ((e + 1) * 256 + q) % 256 = q by omega]
             · obtain rfl : k = ln := by omega
               have HR3 := Lib.hid hR3; clear hR3
               have HB3 := Lib.hid hB3; clear hB3
               go_wp2_with fail
               go_roundg (gw - 1)
               case measure => have := HW.out; omega
               case rel =>
                 refine ⟨tk + 1, by have := HW.out; omega, by go_num, ?_, HB3.out⟩
                 rw [show tabN 2304 (rowOf gains k on e (tk + 1)) = tabN 2304 (innOf2 gains k on e tk l k) from tabN_congr fun j hj => ?_]
                 · exact HR3.out
                 · unfold innOf2
                   split
                   · rename_i ej; subst ej
                     rw [rowOf, if_pos ⟨by omega, by omega⟩, som_full HL.out, tblOf, show (e * 256 + tk) % 256 = tk by omega, if_pos (by rw [← HN.out]; exact hlw)]
                   · rename_i ej
                     unfold rowOf
                     by_cases h1 : j / 256 = e ∧ j % 256 < tk
                     · rw [if_pos ⟨h1.1, by omega⟩, if_pos h1]
                     · rw [if_neg (fun hh => by omega), if_neg h1]
         · rw [rowOf, if_neg (by omega), rowsOf, if_pos (by omega), show ((e + 1) * 256 + tk) / 256 = e + 1 by omega, show ((e + 1) * 256 + tk) % 256 = tk by omega]
       · obtain rfl : tk = N := by omega
         have HR1 := Lib.hid hR1; clear hR1
         have HB1 := Lib.hid hB1; clear hB1
         go_wp2_with fail
         go_roundg e
         case measure => omega
         case rel =>
           refine ⟨(e : Int) - 1, rfl, rfl, by omega, ?_, HB1.out⟩
           rw [show tabN 2304 (rowsOf gains ln on e) = tabN 2304 (rowOf gains ln on e tk) from tabN_congr fun j hj => ?_]
           · exact HR1.out
           · by_cases h1 : j / 256 = e
             · by_cases h2 : j % 256 < tk
               · rw [rowsOf_ge (by omega), rowOf_in h1 h2, h1]
               · rw [rowsOf_ge (by omega), rowOf_out (by omega), rowsOf_lt (by omega), tblOf, if_neg (by rw [← HN.out]; exact h2)]
             · rw [rowOf_out (by omega)]
               by_cases h3 : e ≤ j / 256
               · rw [rowsOf_ge h3, rowsOf_ge (by omega)]
               · rw [rowsOf_lt (by omega), rowsOf_lt (by omega)]
end Go.Proofs.YtkddkkcfpnndlaaGreatDoor
