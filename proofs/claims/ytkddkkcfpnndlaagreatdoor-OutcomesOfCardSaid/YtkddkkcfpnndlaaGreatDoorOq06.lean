/- Walks: firsts.each. Walks: firsts.First. -/
import Derived.Test.YtkddkkcfpnndlaaGreatDoorOq05
import Derived.Test.YtkddkkcfpnndlaaGreatDoorOq04
import Derived.Test.YtkddkkcfpnndlaaGreatDoorOq03
namespace Go.Proofs.YtkddkkcfpnndlaaGreatDoor
open Go.RowKit
def isOrd (order : List Int) (m : Nat) : Bool := order.isPerm (upTo m)

theorem upTo_get {m k : Nat} (h : k < m) : (upTo m)[k]? = some (k : Int) := by simp [upTo, h]
theorem upTo_sorted (m : Nat) : (upTo m).Pairwise (· ≤ ·) := by
 unfold upTo
 rw [List.pairwise_map]
 exact List.pairwise_lt_range.imp fun h => by omega
theorem isOrd_sorted (order : List Int) (m : Nat) : isOrd order m = decide (sorted order = upTo m) := by
 rw [Bool.eq_iff_iff, decide_eq_true_eq]
 unfold isOrd
 rw [List.isPerm_iff]
 constructor
 · intro h
   exact ((sorted_perm order).trans h).eq_of_pairwise (fun a b _ _ h1 h2 => Int.le_antisymm h1 h2) (sorted_pair order) (upTo_sorted m)
 · intro h
   exact (sorted_perm order).symm.trans (h ▸ List.Perm.refl _)

set_option maxHeartbeats 400000 in
theorem eachOrd_any (oa : Option Addr) (o_n oc : Nat) (order : List Int) (m : Nat) (w : World) (ho : Ints w oa o_n oc order) (hsz : o_n < 17592186044000) :
   Calls Tryz.prog 57 #[.slice oa o_n oc, .int .i64 m] w fun e w' => e = .returned (.bool (isOrd order m)) ∧ Below w.heap.size w w' := by
 rw [isOrd_sorted]
 have HB0 := Lib.hid ho.bd
 have HL := Lib.hid ho.len
 have HO := Lib.hid ho; clear ho
 go_enter Tryz.func57, Tryz.ntmps57
 go_wp2_with fail
 refine (values_any oa o_n oc w).mono ?_
 rintro e w1 ⟨rfl, rfl⟩
 go_wp2_with fail
 refine (sorted_any w.heap.size oa o_n oc order _ w (by simp) (by simp [go_sem]) HO.out (by simp) ((Below.refl _ _).alloc (by simp) _) hsz).mono ?_
 rintro e w2 ⟨v, rfl, ho2, hb2⟩
 have hb3 : Below w.heap.size (w.alloc (.cells #[.slice oa o_n oc] 25)) w2 := hb2.mono (by simp)
 have HB2 := Lib.hid (((Below.refl w.heap.size w).alloc (Nat.le_refl _) _).trans hb3); clear hb2 hb3
 obtain ⟨a2, c2, rfl, hi2⟩ := ho2.ints (by rw [sorted_length, HL.out]; omega) (fun x hx => HB0.out x ((sorted_perm order).mem_iff.1 hx))
 clear ho2
 rw [sorted_length, HL.out] at hi2 ⊢
 go_wp2_with fail
 go_loopg [13] o_n (fun g s13 wr => ∃ k : Nat, k + g = o_n ∧ s13 = .int .i64 k ∧ wr = w2 ∧ (sorted order).take k = upTo k)
 case atStart => exact ⟨0, by omega, rfl, rfl, rfl⟩
 case round =>
   obtain ⟨k, hk, rfl, rfl, ht⟩ := hrel
   by_cases hlt : k < o_n
   · obtain ⟨x, hx, _⟩ := hi2.get hlt
     obtain ⟨b, o, rfl⟩ := hi2.addr (by omega)
     have hc := hi2.cell b o rfl k x hx
     have HX := Lib.hid hx; clear hx
     have HK := Lib.hid hk; clear hk
     have HT := Lib.hid ht; clear ht
     have HI := Lib.hid hi2; clear hi2
     by_cases hxk : x = (k : Int)
     · subst hxk
       go_wp2_with fail
       go_roundg (gk - 1)
       case measure => have := HK.out; omega
       case rel => exact ⟨k + 1, by have := HK.out; omega, by go_num, rfl, by rw [List.take_add_one, HX.out, HT.out, upTo_succ]; rfl⟩
     · have e1 : (x != (k : Int)) = true := by simp [hxk]
       have HXK := Lib.hid hxk; clear hxk
       go_wp2_with fail
       go_ret
       refine ⟨ret_bool ?_, HB2.out⟩
       symm
       rw [decide_eq_false_iff_not]
       intro h
       have := HX.out
       rw [h] at this
       by_cases hkm : k < m
       · rw [upTo_get hkm] at this; cases this; exact HXK.out rfl
       · rw [List.getElem?_eq_none (by rw [upTo_length]; omega)] at this; cases this
   · obtain rfl : k = o_n := by omega
     have HT := Lib.hid ht; clear ht
     have HI := Lib.hid hi2; clear hi2
     go_wp2_with fail
     go_ret
     refine ⟨ret_bool ?_, HB2.out⟩
     have h1 := HT.out
     rw [List.take_of_length_le (by rw [sorted_length, HL.out]; exact Nat.le_refl _)] at h1
     rw [h1, Bool.eq_iff_iff]
     simp only [beq_iff_eq, decide_eq_true_eq]
     constructor
     · intro h; rw [show k = m by omega]
     · intro h
       have := congrArg List.length h
       rw [upTo_length, upTo_length] at this
       omega
end Go.Proofs.YtkddkkcfpnndlaaGreatDoor

namespace Go.Proofs.YtkddkkcfpnndlaaGreatDoor
open Go.RowKit Sale

theorem behind_any (Bt d tk : Nat) (v : Int) (w : World) (hc : w.cell? ⟨Bt, d * 256 + tk, none⟩ = some (.int .i64 v)) (hd : d < 9) (ht : tk < 256) :
   Calls Tryz.prog 59 #[.pointer (some ⟨Bt, 0, none⟩), .int .i64 d, .int .i64 tk] w fun e w' => e = .returned (.int .i64 v) ∧ w = w' := by
 go_enter Tryz.func59, Tryz.ntmps59
 go_wp2_with fail
 go_ret
 exact ⟨rfl, rfl⟩

def firstOf (gains : List (List Int)) (n : Nat) (on : List Nat) : List Int := tabN gains.length (hasF on (firsts (gi gains) n on (fun _ => true)))

theorem isOrd_parts {on : List Nat} {m : Nat} (h : isOrd (on.map fun k : Nat => (k : Int)) m = true) : on.Perm (List.range m) := by
 have h1 : (on.map fun k : Nat => (k : Int)).Perm (upTo m) := List.isPerm_iff.1 h
 have h2 := h1.map Int.toNat
 simpa [upTo, List.map_map, Function.comp_def] using h2

theorem take_snoc2 {on : List Nat} {d l : Nat} (h : on[d]? = some l) : on.take (d + 1) = on.take d ++ [l] := by rw [List.take_add_one, h]; rfl
theorem drop_cons {on : List Nat} {d l : Nat} (h : on[d]? = some l) : on.drop d = l :: on.drop (d + 1) := by
 have hd : d < on.length := (List.getElem?_eq_some_iff.1 h).1
 have hx : on[d] = l := (List.getElem?_eq_some_iff.1 h).2
 rw [List.drop_eq_getElem_cons hd, hx]
theorem not_mem_take {on : List Nat} {d l : Nat} (hn : on.Nodup) (h : on[d]? = some l) : l ∉ on.take d := by
 rw [← List.take_append_drop d on, drop_cons h] at hn
 have := (List.nodup_append.1 hn).2.2
 intro hm
 exact this l hm l List.mem_cons_self rfl
theorem firsts_lt {g : Nat → Nat → Int} {n : Nat} : ∀ (ls : List Nat) (av : Nat → Bool) (o : Option Nat), o ∈ firsts g n ls av → ∀ r, o = some r → r < n
 | [], _, o, h, _, _ => by simp [firsts] at h
 | l :: ls, av, o, h, r, e => by
   subst e
   unfold firsts at h
   cases hc : Sale.choose g n l ls av with
   | none => rw [hc] at h; simp at h; exact firsts_lt ls av _ h r rfl
   | some r' =>
     rw [hc] at h
     rcases List.mem_cons.1 h with h | h
     · cases h; exact (choose_some hc).1
     · exact firsts_lt ls _ _ h r rfl
theorem hasF_bd {gains : List (List Int)} {n : Nat} {on : List Nat} (_hl : on.length = (List.range gains.length).length) (hn : n ≤ 8) (j : Nat) :
   -9223372036854775808 ≤ hasF on (firsts (gi gains) n on (fun _ => true)) j ∧ hasF on (firsts (gi gains) n on (fun _ => true)) j ≤ 9223372036854775807 := by
 unfold hasF
 cases h : (on.zip (firsts (gi gains) n on (fun _ => true))).lookup j with
 | none => simp
 | some o =>
   cases o with
   | none => simp [itemOf]
   | some r =>
     obtain ⟨l1, l2, hm', _⟩ := List.lookup_eq_some_iff.1 h
     have hm : (j, some r) ∈ on.zip (firsts (gi gains) n on (fun _ => true)) := by rw [hm']; simp
     have := firsts_lt on _ _ (List.of_mem_zip hm).2 r rfl
     simp [itemOf]; omega
def cand (gains : List (List Int)) (n l : Nat) (ls : List Nat) (tk r : Nat) : Bool :=
 openOf tk r && decide (0 ≤ gi gains l r) && (gi gains l r + opt (gi gains) n ls (less (openOf tk) r) == opt (gi gains) n (l :: ls) (openOf tk))
theorem choose_cand (gains : List (List Int)) (n l : Nat) (ls : List Nat) (tk : Nat) : Sale.choose (gi gains) n l ls (openOf tk) = (List.range n).find? (cand gains n l ls tk) := rfl
theorem cand_on {gains : List (List Int)} {n l : Nat} {ls : List Nat} {tk k : Nat} (h : (List.range k).find? (cand gains n l ls tk) = none) (hk : cand gains n l ls tk k = false) : (List.range (k + 1)).find? (cand gains n l ls tk) = none := by
 rw [List.range_succ, List.find?_append, h]; simp [hk]
theorem cand_at {gains : List (List Int)} {n l : Nat} {ls : List Nat} {tk k : Nat} (hkn : k < n) (h : (List.range k).find? (cand gains n l ls tk) = none) (hk : cand gains n l ls tk k = true) : Sale.choose (gi gains) n l ls (openOf tk) = some k := by
 rw [choose_cand, List.find?_range_eq_some]
 refine ⟨hk, List.mem_range.2 hkn, fun j hj => ?_⟩
 rw [List.find?_eq_none] at h
 simpa using h j (List.mem_range.2 hj)
theorem open_or (tk k r : Nat) : openOf (tk ||| 2 ^ k) r = less (openOf tk) k r := by
 simp only [openOf, less, Nat.testBit_or, Nat.testBit_two_pow]
 by_cases e : k = r
 · subst e; simp
 · simp [e, Ne.symm e]

def RetRow (err : Int) (xs : List Int) (n : Nat) (w : World) (e : Ending) (w' : World) : Prop := xs.length = n ∧ ∃ B, e = .returned (.tuple #[.slice (some ⟨B, 0, none⟩) n n, .int .i64 err]) ∧ Row w' B 3 xs ∧ w.heap.size ≤ B ∧ (∀ x, x ∈ xs → -9223372036854775808 ≤ x ∧ x ≤ 9223372036854775807) ∧ Below w.heap.size w w'
set_option maxHeartbeats 1000000 in
set_option maxRecDepth 100000 in
theorem First_row (ga oa : Option Addr) (gn gc o_n oc : Nat) (gains : List (List Int)) (n : Nat) (on : List Nat) (w : World) (hg : Rows w ga gn gc gains) (ho : Ints w oa o_n oc (on.map fun k : Nat => (k : Int)))
   (hc : wcheck gains n = true) (hd : isOrd (on.map fun k : Nat => (k : Int)) gains.length = true) :
   Calls Tryz.prog 11 #[.slice ga gn gc, .int .i64 n, .slice oa o_n oc] w (RetRow 0 (firstOf gains n on) gains.length w) := by
 obtain ⟨h1, h2, h3, h4, h5⟩ := wcheck_parts hc
 have h1' : 1 ≤ n := by omega
 have h2' : n ≤ 8 := by omega
 have HL := Lib.hid hg.len
 have HG := Lib.hid hg; clear hg
 have HO := Lib.hid ho; clear ho
 have HC := Lib.hid hc; clear hc
 have HD := Lib.hid hd; clear hd
 have HH := Lib.hid (And.intro h4 h5); clear h4 h5
 have HM := Lib.hid h3; clear h3
 obtain rfl : gains.length = gn := HL.out
 have hperm := isOrd_parts HD.out
 have hnd : on.Nodup := hperm.nodup_iff.2 List.nodup_range
 have hlt : ∀ k, k ∈ on → k < gains.length := fun k hk => List.mem_range.1 (hperm.mem_iff.1 hk)
 obtain rfl : o_n = gains.length := by have := HO.out.len; have := hperm.length_eq; simp at *; omega
 have hz : Tryz.zeroCells102 = iarr (tabN 2304 fun _ => 0) := by kernel_rfl
 have hM8 := HM.out
 have hmk := mkInts gains.length (by have := HM.out; omega)
 have HPERM := Lib.hid hperm; clear hperm
 have HND := Lib.hid hnd; clear hnd
 have HLT := Lib.hid hlt; clear hlt
 go_enter Tryz.func11, Tryz.ntmps11
 go_wp2_with fail
 refine (Best_any ga _ gc gains n w HG.out).mono ?_
 rw [HC.out]
 rintro e w1 ⟨rfl, hb⟩
 have HB := Lib.hid hb; clear hb
 go_wp2_with fail
 refine (eachOrd_any oa _ oc _ gains.length w1 (HO.out.below HB.out (Nat.le_refl _)) (by have := HM.out; omega)).mono ?_
 rw [HD.out]
 rintro e w2 ⟨rfl, hb⟩
 have HB2 := Lib.hid (HB.out.trans (hb.mono HB.out.size)); clear hb
 go_wp2_with fail
 refine (fill_any w2.heap.size 102 ga oa _ gc _ oc gains on n w2 _ (HG.out.below HB2.out (Nat.le_refl _)) (HO.out.below HB2.out (Nat.le_refl _)) ((Below.refl _ _).alloc (Nat.le_refl _) _) (Nat.le_refl _) (Row.new _ _ _) HM.out HM.out h1' h2' (fun l hl => by have := HH.out.1 l hl; omega) HLT.out HH.out.2).mono ?_
 rintro e w3 ⟨rfl, hb3, ht3⟩
 have HB3 := Lib.hid (((Below.refl _ _).alloc (Nat.le_refl _) _).trans hb3); clear hb3
 have HT3 := Lib.hid ht3; clear ht3
 clear hz
 go_wp2_with fail
 go_region
 go_wp2_with fail
 have hopt : bestVal gains n = opt (gi gains) n on (openOf 0) := by
   rw [bestVal, ← opt_perm HND.out HPERM.out]
   exact opt_congr _ (fun _ _ _ _ => rfl) fun r _ => by simp [openOf]
 have HOPT := Lib.hid hopt; clear hopt
 have hz1 : w2.heap.size < w3.heap.size := HT3.out.lt
 go_loopg [8, 12, 45] gains.length (fun g s8 s12 s45 wr => ∃ (d tk : Nat) (ms : List (Option Nat)), d + g = gains.length ∧ s45 = .int .i64 d ∧ s12 = .int .i64 tk ∧ s8 = .int .i64 (opt (gi gains) n (on.drop d) (openOf tk)) ∧ tk < 2 ^ n ∧ ms.length = d ∧
   ms ++ firsts (gi gains) n (on.drop d) (openOf tk) = firsts (gi gains) n on (fun _ => true) ∧ Row wr w3.heap.size 3 (tabN gains.length (hasF (on.take d) ms)) ∧ Row wr w2.heap.size 102 (tabN 2304 (rowsOf gains n on 0)) ∧ Below w2.heap.size w2 wr ∧ w3.heap.size < wr.heap.size)
 case atStart =>
   refine ⟨0, 0, [], by omega, rfl, rfl, by rw [HOPT.out]; rfl, Nat.pow_pos (by omega), rfl, ?_, ?_, (HT3.out.alloc _).drew, ?_, by simp⟩
   · rw [List.nil_append, List.drop_zero]
     exact firsts_congr _ (fun _ _ _ _ => rfl) fun r _ => by simp [openOf]
   · rw [show tabN gains.length (hasF (on.take 0) []) = List.replicate gains.length 0 from ?_]
     · exact (Row.new _ _ _).drew
     · apply List.ext_getElem?
       intro j
       by_cases hj : j < gains.length
       · rw [tabN_get _ hj, List.getElem?_replicate, if_pos hj]; rfl
       · rw [List.getElem?_eq_none (by rw [tabN_length]; omega), List.getElem?_eq_none (by simp; omega)]
   · exact (HB3.out.alloc HB3.out.size _).drew
 case round =>
   obtain ⟨d, tk, ms, hd2, rfl, rfl, rfl, htk, hms, hfs, hR, hT, hB4, hz4⟩ := hrel
   have hbB : Below w.heap.size w wr := HB2.out.trans (hB4.mono HB2.out.size)
   by_cases hlt2 : d < gains.length
   · obtain ⟨l, hl⟩ : ∃ l, on[d]? = some l := ⟨on[d]'(by have := HPERM.out.length_eq; simp at this; omega), by simp⟩
     have hlg := HLT.out l (List.mem_of_getElem? hl)
     obtain ⟨b, o, rfl⟩ := HO.out.addr (by omega)
     have hc := (HO.out.below hbB (Nat.le_refl _)).cell b o rfl d l (by simp [hl])
     obtain ⟨xs, hxs⟩ := HG.out.get hlg
     obtain ⟨bg, og, rfl⟩ := HG.out.addr (by omega)
     obtain ⟨la, ln, lc, hcl, hli⟩ := HG.out.row hbB (Nat.le_refl _) rfl hxs
     obtain rfl : ln = n := by rw [← hli.len]; have := HH.out.1 xs (List.mem_of_getElem? hxs); omega
     have hblt : bg < w.heap.size := by
       obtain ⟨_, _, _, hh, _⟩ := HG.out.cell bg og rfl l xs hxs
       have := block_lt_of_cell hh; simpa using this
     have hsz2 : w.heap.size ≤ w2.heap.size := HB2.out.size
     have hfr := hR.frozen l
     have hx0 := hR.cell (k := l) (tabN_get _ hlg)
     obtain ⟨want, hwant⟩ : ∃ want, want = opt (gi gains) ln (on.drop d) (openOf tk) := ⟨_, rfl⟩
     rw [← hwant]
     have HLI := Lib.hid hli; clear hli
     have HL2 := Lib.hid hl; clear hl
     have HXS := Lib.hid hxs; clear hxs
     have HR := Lib.hid hR; clear hR
     have HT := Lib.hid hT; clear hT
     have HB4 := Lib.hid hB4; clear hB4
     have HBB := Lib.hid hbB; clear hbB
     have HFS := Lib.hid hfs; clear hfs
     have HMS := Lib.hid hms; clear hms
     have HD2 := Lib.hid hd2; clear hd2
     have HTK := Lib.hid htk; clear htk
     have HW := Lib.hid hwant; clear hwant
     go_wp2_with fail
     obtain ⟨w4, rfl⟩ : ∃ w4 : World, w4 = wr := ⟨_, rfl⟩
     obtain ⟨gd, rfl⟩ : ∃ gd : Nat, gd = gk := ⟨_, rfl⟩
     go_loopg [8, 12, 58] ln (fun g s8 s12 s58 wr => ∃ k : Nat, k + g = ln ∧ s58 = .int .i64 k ∧ s8 = .int .i64 want ∧ s12 = .int .i64 tk ∧ (List.range k).find? (cand gains ln l (on.drop (d + 1)) tk) = none ∧
       Row wr w3.heap.size 3 (tabN gains.length (hasF (on.take (d + 1)) (ms ++ [none]))) ∧ Row wr w2.heap.size 102 (tabN 2304 (rowsOf gains ln on 0)) ∧ Below w2.heap.size w2 wr ∧ w3.heap.size < wr.heap.size)
     case atStart =>
       refine ⟨0, by omega, rfl, rfl, rfl, rfl, ?_, HT.out.other (by show w2.heap.size ≠ w3.heap.size; omega) _, HB4.out.setCell (by show w2.heap.size ≤ w3.heap.size; omega) _, by simp; assumption⟩
       have hset := HR.out.set l (-1)
       rw [tabN_set] at hset
       rw [show tabN gains.length (hasF (on.take (d + 1)) (ms ++ [none])) = tabN gains.length (fun j => if j = l then -1 else hasF (on.take d) ms j) from tabN_congr fun j _ => ?_]
       · exact hset
       · rw [take_snoc2 HL2.out, hasF_snoc (by rw [HMS.out, List.length_take]; have := HPERM.out.length_eq; simp at this; omega) (not_mem_take HND.out HL2.out)]
         rfl
     case round =>
       obtain ⟨k, hk, rfl, rfl, rfl, hfind, hR5, hT5, hB5, hz5⟩ := hrel
       by_cases hlk : k < ln
       · obtain ⟨x, hx, _⟩ := HLI.out.get hlk
         obtain ⟨lb, lo, rfl⟩ := HLI.out.addr (by omega)
         have hcx := (HLI.out.below (HB2.out.trans (hB5.mono HB2.out.size)) (Nat.le_refl _)).cell lb lo rfl k x hx
         have hgx := gi_at HXS.out hx
         have HX := Lib.hid hx; clear hx
         have HK := Lib.hid hk; clear hk
         have HF := Lib.hid hfind; clear hfind
         have HR5 := Lib.hid hR5; clear hR5
         have HT5 := Lib.hid hT5; clear hT5
         have HB5 := Lib.hid hB5; clear hB5
         have HGX := Lib.hid hgx; clear hgx
         have hk8 : k < 8 := by omega
         have ht8 : tk < 256 := Nat.lt_of_lt_of_le HTK.out (Nat.pow_le_pow_right (n := 2) (by omega) h2')
         have hpw := bit_pow k hk8
         have hpw3 := bit_pow' k hk8
         have hba := bit_and tk k ht8 hk8
         by_cases hx0 : x < 0
         · clear hba hpw hpw3
           go_wp2_with fail
           go_roundg (gk - 1)
           case measure => have := HK.out; omega
           case rel => exact ⟨k + 1, by have := HK.out; omega, by go_num, rfl, rfl, cand_on HF.out (by simp [cand, HGX.out]; omega), HR5.out, HT5.out, HB5.out, hz5⟩
         · cases hbit : tk.testBit k with
           | true =>
             rw [hbit, if_pos rfl] at hba
             have HBIT := Lib.hid hbit; clear hbit
             clear hpw hpw3
             go_wp2_with fail
             go_roundg (gk - 1)
             case measure => have := HK.out; omega
             case rel => exact ⟨k + 1, by have := HK.out; omega, by go_num, rfl, rfl, cand_on HF.out (by simp [cand, openOf, HBIT.out]), HR5.out, HT5.out, HB5.out, hz5⟩
           | false =>
             rw [hbit, if_neg (by decide)] at hba
             obtain ⟨pw, hpw2⟩ : ∃ pw : Nat, pw = 2 ^ k := ⟨_, rfl⟩
             have hor := bit_or tk k ht8 hk8
             rw [← hpw2] at hor hpw hpw3
             obtain ⟨q, hq⟩ : ∃ q, q = tk ||| pw := ⟨_, rfl⟩
             rw [← hq] at hor
             have hq8 : q < 256 := by rw [hq, hpw2]; exact Nat.or_lt_two_pow (n := 8) ht8 (Nat.pow_lt_pow_right (by omega) hk8)
             obtain ⟨y, hy⟩ : ∃ y, y = tblOf gains ln on (d + 1) q := ⟨_, rfl⟩
             have hc2 := HT5.out.cell (k := (d + 1) * 256 + q) (tabN_get _ (by have := HM.out; omega))
             rw [rowsOf_ge (by omega), show ((d + 1) * 256 + q) / 256 = d + 1 by omega, show ((d + 1) * 256 + q) % 256 = q by omega, ← hy] at hc2
             have hyb : 0 ≤ y ∧ y ≤ 8000000 := by rw [hy]; exact tblOf_bd HH.out.2 _ _ (by have := HPERM.out.length_eq; have := HM.out; simp at *; omega) _ _
             have hxb : x ≤ 1000000 := (HH.out.2 xs (List.mem_of_getElem? HXS.out) x (List.mem_of_getElem? HX.out)).2
             have hxy : IntKind.i64.wrap (x + y) = x + y := IntWalk.i64_in _ (by omega)
             have hyv : y = opt (gi gains) ln (on.drop (d + 1)) (less (openOf tk) k) := by rw [hy, hq, hpw2]; exact tbl_less HTK.out hlk
             have HY := Lib.hid hyv; clear hy hyv
             have HQ := Lib.hid (show q = tk ||| 2 ^ k by rw [hq, hpw2]); clear hq hpw2
             have HBIT := Lib.hid hbit; clear hbit
             have hd9 : d + 1 < 9 := by have := HM.out; omega
             by_cases heq : x + y = want
             · have e1 : (x + y == want) = true := by simp [heq]
               have HE := Lib.hid heq; clear heq
               go_wp2_with fail
               refine (behind_any w2.heap.size (d + 1) q y wr hc2 hd9 hq8).mono ?_
               rintro e w5 ⟨rfl, rfl⟩
               go_wp2_with fail
               have hsub : IntKind.i64.wrap (want - x) = want - x := IntWalk.i64_in _ (by have := HE.out; omega)
               have hsub2 : wrap64 (want - x) = want - x := IntWalk.wrap64_in _ ⟨by have := HE.out; omega, by have := HE.out; omega⟩
               have hf5 := HR5.out.frozen l
               have hx5 := HR5.out.cell (k := l) (tabN_get _ hlg)
               go_region
               go_wp2_with fail
               go_roundg (gd - 1)
               case measure => have := HD2.out; omega
               case rel =>
                 have hch : Sale.choose (gi gains) ln l (on.drop (d + 1)) (openOf tk) = some k := cand_at hlk HF.out (by
                   simp only [cand, HGX.out, ← HY.out]
                   rw [← drop_cons HL2.out, ← HW.out, e1]; simp [openOf, HBIT.out]; omega)
                 have hoq : ∀ r, openOf q r = less (openOf tk) k r := fun r => by rw [HQ.out]; exact open_or tk k r
                 refine ⟨d + 1, q, ms ++ [some k], by have := HD2.out; omega, by go_num, rfl, ?_, ?_, by rw [List.length_append, HMS.out]; rfl, ?_, ?_, (HT5.out.other (by show w2.heap.size ≠ w3.heap.size; omega) _).drew, (HB5.out.setCell (by show w2.heap.size ≤ w3.heap.size; omega) _).drew, by simp; assumption⟩
                 · rw [opt_congr (g' := gi gains) _ (fun _ _ _ _ => rfl) fun r _ => hoq r, ← HY.out, show want - x = y by have := HE.out; omega]
                 · rw [HQ.out]; exact Nat.or_lt_two_pow HTK.out (Nat.pow_lt_pow_right (by omega) hlk)
                 · rw [← HFS.out, drop_cons HL2.out]
                   simp only [firsts, hch]
                   rw [firsts_congr (g' := gi gains) _ (fun _ _ _ _ => rfl) fun r _ => hoq r, List.append_assoc]; rfl
                 · have hset := HR5.out.set l (k : Int)
                   rw [tabN_set] at hset
                   rw [show tabN gains.length (hasF (on.take (d + 1)) (ms ++ [some k])) = tabN gains.length (fun j => if j = l then (k : Int) else hasF (on.take (d + 1)) (ms ++ [none]) j) from tabN_congr fun j _ => ?_]
                   · exact hset
                   · have hml : ms.length = (on.take d).length := by rw [HMS.out, List.length_take]; have := HPERM.out.length_eq; simp at this; omega
                     rw [take_snoc2 HL2.out, hasF_snoc hml (not_mem_take HND.out HL2.out), hasF_snoc hml (not_mem_take HND.out HL2.out)]
                     split <;> rfl
             · have e1 : (x + y == want) = false := by simp [heq]
               have HE := Lib.hid heq; clear heq
               go_wp2_with fail
               refine (behind_any w2.heap.size (d + 1) q y wr hc2 hd9 hq8).mono ?_
               rintro e w5 ⟨rfl, rfl⟩
               go_wp2_with fail
               go_roundg (gk - 1)
               case measure => have := HK.out; omega
               case rel =>
                 refine ⟨k + 1, by have := HK.out; omega, by go_num, rfl, rfl, cand_on HF.out ?_, HR5.out, HT5.out, HB5.out, hz5⟩
                 simp only [cand, HGX.out, ← HY.out]
                 rw [← drop_cons HL2.out, ← HW.out, e1]; simp
       · obtain rfl : k = ln := by omega
         have HF := Lib.hid hfind; clear hfind
         have HR5 := Lib.hid hR5; clear hR5
         have HT5 := Lib.hid hT5; clear hT5
         have HB5 := Lib.hid hB5; clear hB5
         go_wp2_with fail
         go_roundg (gd - 1)
         case measure => have := HD2.out; omega
         case rel =>
           have hch : Sale.choose (gi gains) k l (on.drop (d + 1)) (openOf tk) = none := HF.out
           refine ⟨d + 1, tk, ms ++ [none], by have := HD2.out; omega, by go_num, rfl, ?_, HTK.out, by rw [List.length_append, HMS.out]; rfl, ?_, HR5.out, HT5.out, HB5.out, hz5⟩
           · rw [HW.out, drop_cons HL2.out, choose_none hch]
           · rw [← HFS.out, drop_cons HL2.out]
             simp only [firsts, hch]
             rw [List.append_assoc]; rfl
   · obtain rfl : d = gains.length := by omega
     have hol : on.length = gains.length := by have := HPERM.out.length_eq; simpa using this
     have e1 : ms = firsts (gi gains) n on (fun _ => true) := by
       rw [← hfs, List.drop_of_length_le (by omega)]; simp [firsts]
     rw [List.take_of_length_le (by omega), e1] at hR
     have hbd := fun z (hz : z ∈ tabN gains.length (hasF on (firsts (gi gains) n on fun _ => true))) => (show -9223372036854775808 ≤ z ∧ z ≤ 9223372036854775807 by
       obtain ⟨j, _, rfl⟩ := List.mem_map.1 hz
       exact hasF_bd HPERM.out.length_eq h2' j)
     have HINTS := Lib.hid (And.intro hR hbd); clear hbd
     have hz2 : w.heap.size ≤ w3.heap.size := Nat.le_trans HB2.out.size (Nat.le_of_lt hz1)
     have HBB := Lib.hid hbB; clear hbB
     clear hR hfs hms hT hB4 e1
     go_wp2_with fail
     go_ret2
     exact ⟨tabN_length _ _, _, rfl, HINTS.out.1, hz2, HINTS.out.2, HBB.out⟩
theorem First_yes (ga oa : Option Addr) (gn gc o_n oc : Nat) (gains : List (List Int)) (n : Nat) (on : List Nat) (w : World) (hg : Rows w ga gn gc gains) (ho : Ints w oa o_n oc (on.map fun k : Nat => (k : Int)))
   (hc : wcheck gains n = true) (hd : isOrd (on.map fun k : Nat => (k : Int)) gains.length = true) :
   Calls Tryz.prog 11 #[.slice ga gn gc, .int .i64 n, .slice oa o_n oc] w (RetList 0 (firstOf gains n on) w) :=
 (First_row ga oa gn gc o_n oc gains n on w hg ho hc hd).mono fun e w' ⟨h1, B, h2, h3, _, h5, h6⟩ => by
   have hl := hg.len
   have hbig := hg.big
   have hi := h3.ints (by omega) h5
   rw [h1] at hi
   exact ⟨_, _, _, h2, hi, h6⟩
end Go.Proofs.YtkddkkcfpnndlaaGreatDoor
