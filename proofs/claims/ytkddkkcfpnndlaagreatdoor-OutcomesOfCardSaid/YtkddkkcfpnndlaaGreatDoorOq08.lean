/- Walks: markets.Check. Between what First answers and the plain mathematics: a list of who has what as a function; the first of the best. What First answers: refused, or the first of the best. A market in plain words: what each gains, and without one. -/
import Derived.Test.YtkddkkcfpnndlaaGreatDoorOq01
import Derived.Test.YtkddkkcfpnndlaaGreatDoorOq06
import Derived.Test.YtkddkkcfpnndlaaGreatDoorOq02
import Derived.Test.YtkddkkcfpnndlaaGreatDoorOq07
import Derived.Deep.QuietTactic
namespace Go.Proofs.YtkddkkcfpnndlaaGreatDoor
open Go.RowKit

structure Mkt where
 res : List Int
 bids : List (List Int)
 ord : List Int

def badBid (items : Nat) (b : List Int) : Bool := !b.isEmpty && !vcheck b items
def mcheck (m : Mkt) : Bool := vcheck m.res m.res.length && decide (1 ≤ m.bids.length) && decide (m.bids.length ≤ 8) && orderOk m.ord m.bids.length && !(m.bids.any (badBid m.res.length))

theorem enters66 : Enters 154 := fun args w => by
 simp [callFunc, Tryz.func154]
 kernel_rfl

set_option maxHeartbeats 400000 in
theorem badBid_any (a : Option Addr) (n c : Nat) (xs : List Int) (items B : Nat) (w : World) (h : Ints w a n c xs) (hB : w.cell? ⟨B, 0, none⟩ = some (.int .i64 items)) (hi : items ≤ 4611686018427387904) :
   Calls Tryz.prog 154 #[.slice a n c, .pointer (some ⟨B, 0, none⟩)] w fun e w' => e = .returned (.bool (badBid items xs)) ∧ Below w.heap.size w w' := by
 by_cases h0 : 0 < n
 · have hd : decide (0 < n) = true := by simp [h0]
   have hne : xs.isEmpty = false := by have := h.len; cases xs <;> simp_all
   have HN := Lib.hid hne; clear hne
   have H := Lib.hid h; clear h
   go_enter Tryz.func154, Tryz.ntmps154
   go_wp2_with fail
   refine (vcheck_any a n c xs items w H.out (by omega)).mono ?_
   rintro e w1 ⟨rfl, hb1⟩
   have HB1 := Lib.hid hb1; clear hb1
   go_wp2_with fail
   go_ret
   refine ⟨ret_bool ?_, HB1.out⟩
   rw [badBid, HN.out]; rfl
 · obtain rfl : n = 0 := by omega
   have hne : xs.isEmpty = true := by have := h.len; cases xs <;> simp_all
   have HN := Lib.hid hne; clear hne
   have H := Lib.hid h; clear h
   go_enter Tryz.func154, Tryz.ntmps154
   go_wp2_with fail
   go_ret
   refine ⟨ret_bool ?_, Below.refl _ _⟩
   rw [badBid, HN.out]; rfl

set_option maxHeartbeats 400000 in
theorem mcheck_any (ra ba oa : Option Addr) (rn rc bn bc on oc : Nat) (m : Mkt) (w : World) (hr : Ints w ra rn rc m.res) (hb : Rows w ba bn bc m.bids) (ho : Ints w oa on oc m.ord) :
   Calls Tryz.prog 100 #[.agg #[.slice ra rn rc, .slice ba bn bc, .slice oa on oc]] w fun e w' => e = .returned (.bool (mcheck m)) ∧ Below w.heap.size w w' := by
 have hl1 := hr.len
 have hl2 := hb.len
 have hbig1 := hr.big
 have hbig2 := hb.big
 have HR := Lib.hid hr; clear hr
 have HB := Lib.hid hb; clear hb
 have HO := Lib.hid ho; clear ho
 have HL1 := Lib.hid hl1; clear hl1
 have HL2 := Lib.hid hl2; clear hl2
 go_enter Tryz.func100, Tryz.ntmps100
 go_wp2_with fail
 go_region
 go_wp2_with fail
 have hW : Below w.heap.size w ((w.alloc (.cells #[.slice ra rn rc, .slice ba bn bc, .slice oa on oc] 57)).alloc (.cells #[.int .i64 (rn : Int)] 3)).drew := (((Below.refl _ _).alloc (Nat.le_refl _) _).alloc (by simp) _).drew
 refine (vcheck_any ra rn rc m.res rn _ (HR.out.below hW (Nat.le_refl _)) (by omega)).mono ?_
 rintro e w1 ⟨rfl, hb1⟩
 have hW1 := Lib.hid (hW.trans (hb1.mono hW.size))
 obtain ⟨hc1, _⟩ := bcell hb1
 have hz1 : w.heap.size + 1 < w1.heap.size := by have := hb1.size; simp at this; omega
 clear hW hb1
 cases hv1 : vcheck m.res rn with
 | false =>
   have HV1 := Lib.hid hv1; clear hv1
   go_wp2_with fail
   go_ret
   refine ⟨ret_bool ?_, hW1.out⟩
   rw [mcheck, HL1.out, HV1.out]; rfl
 | true =>
   have HV1 := Lib.hid hv1; clear hv1
   by_cases h1 : 1 ≤ bn
   · by_cases h8 : bn ≤ 8
     · go_wp2_with fail
       refine (ordered_any oa on oc m.ord bn w1 (HO.out.below hW1.out (Nat.le_refl _)) h8).mono ?_
       rintro e w2 ⟨rfl, hb2⟩
       have hW2 := Lib.hid (hW1.out.trans (hb2.mono hW1.out.size))
       have hz2 : w.heap.size + 1 < w2.heap.size := by have := hb2.size; omega
       have hcell : w2.cell? ⟨w.heap.size + 1, 0, none⟩ = some (.int .i64 rn) := by
         rw [hb2.cell (p := ⟨w.heap.size + 1, 0, none⟩) (by simp; omega), hc1 _ _ (by simp)]
         simp [go_sem]
       have hcell0 : w2.cell? ⟨w.heap.size, 1, none⟩ = some (.slice ba bn bc) := by
         rw [hb2.cell (p := ⟨w.heap.size, 1, none⟩) (by simp; omega), hc1 _ _ (by simp; omega)]
         simp [go_sem]
       clear hc1 hb2
       cases hv2 : orderOk m.ord bn with
       | false =>
         have HV2 := Lib.hid hv2; clear hv2
         go_wp2_with fail
         go_ret
         refine ⟨ret_bool ?_, hW2.out⟩
         rw [mcheck, HL2.out, HV2.out]; simp
       | true =>
         have HV2 := Lib.hid hv2; clear hv2
         have HC := Lib.hid hcell; clear hcell
         go_wp2_with fail
         refine (containsRows_any ba bn bc m.bids 154 (.pointer (some ⟨w.heap.size + 1, 0, none⟩)) (badBid rn) w2 (HB.out.below hW2.out (Nat.le_refl _)) enters66 ?_).mono ?_
         · intro w' a n c xs hb3 h3
           exact badBid_any a n c xs rn (w.heap.size + 1) w' h3 (by rw [hb3.cell (p := ⟨w.heap.size + 1, 0, none⟩) (by simp; omega)]; exact HC.out) (by omega)
         · rintro e w3 ⟨rfl, hb3⟩
           have hW3 := Lib.hid (hW2.out.trans (hb3.mono hW2.out.size))
           clear hb3
           go_wp2_with fail
           go_ret
           refine ⟨ret_bool ?_, hW3.out⟩
           rw [mcheck, HL1.out, HL2.out, HV1.out, HV2.out]; simp [h1, h8]
     · go_wp2_with fail
       go_ret
       refine ⟨ret_bool ?_, hW1.out⟩
       rw [mcheck, HL2.out]; simp [h8]
   · go_wp2_with fail
     go_ret
     refine ⟨ret_bool ?_, hW1.out⟩
     rw [mcheck, HL2.out]; simp [h1]
end Go.Proofs.YtkddkkcfpnndlaaGreatDoor

namespace Go.Proofs.YtkddkkcfpnndlaaGreatDoor
open Go.RowKit Sale

theorem firstOf_length (gains : List (List Int)) (n : Nat) (on : List Nat) : (firstOf gains n on).length = gains.length := tabN_length _ _

theorem wcheck_of {gains : List (List Int)} {n : Nat} (h1 : 1 ≤ n) (h2 : n ≤ 8) (h3 : gains.length ≤ 8) (h4 : ∀ l, l ∈ gains → (l.length : Int) = n) (h5 : ∀ l, l ∈ gains → ∀ x, x ∈ l → -1000000 ≤ x ∧ x ≤ 1000000) : wcheck gains n = true := by
 simp only [wcheck, Bool.and_eq_true, decide_eq_true_eq, Bool.not_eq_true', List.any_eq_false, badGains, badGain, Bool.or_eq_true, decide_eq_false_iff_not, List.any_eq_true, not_or]
 refine ⟨⟨⟨by omega, by omega⟩, h3⟩, fun l hl => ⟨by simp [h4 l hl], fun ⟨x, hx, hh⟩ => ?_⟩⟩
 have := h5 l hl x hx
 omega
end Go.Proofs.YtkddkkcfpnndlaaGreatDoor

namespace Go.Proofs.YtkddkkcfpnndlaaGreatDoor
open Go.RowKit Sale

theorem order_nat {order : List Int} {m : Nat} (h : isOrd order m = true) : ∃ on : List Nat, order = on.map fun k : Nat => (k : Int) := by
 refine ⟨order.map Int.toNat, ?_⟩
 rw [List.map_map]
 have hp : order.Perm (upTo m) := List.isPerm_iff.1 h
 have : ∀ x, x ∈ order → 0 ≤ x := by
   intro x hx
   have := hp.mem_iff.1 hx
   unfold upTo at this
   obtain ⟨j, _, rfl⟩ := List.mem_map.1 this
   omega
 conv => lhs; rw [← List.map_id order]
 refine List.map_congr_left fun x hx => ?_
 have := this x hx
 simp; omega

end Go.Proofs.YtkddkkcfpnndlaaGreatDoor

namespace Go.Proofs.YtkddkkcfpnndlaaGreatDoor
open Go.RowKit Sale

def gainRow (res bid : List Int) : List Int := (List.range res.length).map fun k => if bid = [] then -1 else bid.getD k 0 - res.getD k 0
def gainsM (m : Mkt) : List (List Int) := m.bids.map (gainRow m.res)
theorem gainRow_length (res bid : List Int) : (gainRow res bid).length = res.length := by simp [gainRow]
theorem gainsM_length (m : Mkt) : (gainsM m).length = m.bids.length := by simp [gainsM]
theorem gainRow_get {res bid : List Int} {k : Nat} (hk : k < res.length) : (gainRow res bid)[k]? = some (if bid = [] then -1 else bid.getD k 0 - res.getD k 0) := by simp [gainRow, hk]

structure MOk (m : Mkt) : Prop where
 n1 : 1 ≤ m.res.length
 n8 : m.res.length ≤ 8
 m1 : 1 ≤ m.bids.length
 m8 : m.bids.length ≤ 8
 res : ∀ x, x ∈ m.res → 0 ≤ x ∧ x ≤ 1000000
 bid : ∀ b, b ∈ m.bids → b = [] ∨ (b.length = m.res.length ∧ ∀ x, x ∈ b → 0 ≤ x ∧ x ≤ 1000000)
 ord : isOrd m.ord m.bids.length = true

theorem vcheck_parts {xs : List Int} {n : Int} (h : vcheck xs n = true) : 1 ≤ n ∧ n ≤ 8 ∧ (xs.length : Int) = n ∧ ∀ x, x ∈ xs → 0 ≤ x ∧ x ≤ 1000000 := by
 simp only [vcheck, Bool.and_eq_true, decide_eq_true_eq, within, List.all_eq_true] at h
 exact ⟨h.1.1.1, h.1.1.2, h.1.2, h.2⟩
theorem vcheck_of {xs : List Int} {n : Int} (h1 : 1 ≤ n) (h2 : n ≤ 8) (h3 : (xs.length : Int) = n) (h4 : ∀ x, x ∈ xs → 0 ≤ x ∧ x ≤ 1000000) : vcheck xs n = true := by
 simp only [vcheck, Bool.and_eq_true, decide_eq_true_eq, within, List.all_eq_true]
 exact ⟨⟨⟨h1, h2⟩, h3⟩, h4⟩

theorem count_one {l : List Int} (hn : l.Nodup) {x : Int} (h : x ∈ l) : l.count x = 1 := by
 have h1 := List.nodup_iff_count.1 hn x
 have h2 := List.count_pos_iff.2 h
 omega
theorem orderOk_iff {l : List Int} {m : Nat} (hm : m ≤ 8) : orderOk l m = true ↔ isOrd l m = true := by
 unfold isOrd
 rw [List.isPerm_iff]
 constructor
 · intro h
   simp only [orderOk, Bool.and_eq_true, List.all_eq_true, decide_eq_true_eq, beq_iff_eq] at h
   obtain ⟨h1, h2⟩ := h
   rw [List.perm_iff_count]
   intro x
   have hup : ∀ y : Int, (upTo m).count y = if 0 ≤ y ∧ y < m then 1 else 0 := fun y => by
     have hn : (upTo m).Nodup := by
       unfold upTo
       rw [List.nodup_iff_pairwise_ne, List.pairwise_map]
       exact (List.nodup_range (n := m)).imp fun h e => h (by omega)
     split
     · rename_i hy
       exact count_one hn (by unfold upTo; exact List.mem_map.2 ⟨y.toNat, List.mem_range.2 (by omega), by omega⟩)
     · rename_i hy
       refine List.count_eq_zero_of_not_mem fun hc => hy ?_
       unfold upTo at hc
       obtain ⟨j, hj, rfl⟩ := List.mem_map.1 hc
       have := List.mem_range.1 hj
       omega
   rw [hup]
   by_cases hx : 0 ≤ x ∧ x < m
   · rw [if_pos hx]
     obtain ⟨k, rfl⟩ : ∃ k : Nat, x = k := ⟨x.toNat, by omega⟩
     have hk8 : k < 8 := by omega
     have e1 := timesOf_get l hk8
     rw [h2, onceTo_get hk8, if_pos (by omega)] at e1
     have := Option.some.inj e1
     omega
   · rw [if_neg hx]
     exact List.count_eq_zero_of_not_mem fun hc => hx (h1 x hc)
 · intro h
   simp only [orderOk, Bool.and_eq_true, List.all_eq_true, decide_eq_true_eq, beq_iff_eq]
   refine ⟨fun x hx => ?_, ?_⟩
   · have := h.mem_iff.1 hx
     unfold upTo at this
     obtain ⟨j, hj, rfl⟩ := List.mem_map.1 this
     have := List.mem_range.1 hj
     omega
   · unfold timesOf onceTo
     refine List.map_congr_left fun j hj => ?_
     rw [h.count_eq]
     have hn : (upTo m).Nodup := by
       unfold upTo
       rw [List.nodup_iff_pairwise_ne, List.pairwise_map]
       exact (List.nodup_range (n := m)).imp fun h e => h (by omega)
     split
     · rename_i hjm
       rw [count_one hn (by unfold upTo; exact List.mem_map.2 ⟨j, List.mem_range.2 hjm, rfl⟩)]; rfl
     · rename_i hjm
       rw [List.count_eq_zero_of_not_mem (fun hc => ?_)]; rfl
       unfold upTo at hc
       obtain ⟨i, hi, e⟩ := List.mem_map.1 hc
       have := List.mem_range.1 hi
       omega

theorem mcheck_ok {m : Mkt} (h : mcheck m = true) : MOk m := by
 simp only [mcheck, Bool.and_eq_true, decide_eq_true_eq, Bool.not_eq_true', List.any_eq_false] at h
 obtain ⟨⟨⟨⟨h1, h2⟩, h3⟩, h4⟩, h5⟩ := h
 obtain ⟨v1, v2, _, v4⟩ := vcheck_parts h1
 refine ⟨by omega, by omega, h2, h3, v4, fun b hb => ?_, (orderOk_iff h3).1 h4⟩
 have := h5 b hb
 unfold badBid at this
 by_cases e : b = []
 · exact .inl e
 · right
   have he : b.isEmpty = false := by cases b <;> simp_all
   rw [he] at this
   simp only [Bool.not_false, Bool.true_and, Bool.not_eq_true', Bool.not_eq_false] at this
   obtain ⟨_, _, w3, w4⟩ := vcheck_parts this
   exact ⟨by omega, w4⟩
theorem mcheck_of {m : Mkt} (h : MOk m) : mcheck m = true := by
 simp only [mcheck, Bool.and_eq_true, decide_eq_true_eq, Bool.not_eq_true', List.any_eq_false]
 have := h.n1
 have := h.n8
 refine ⟨⟨⟨⟨vcheck_of (by omega) (by omega) rfl h.res, h.m1⟩, h.m8⟩, (orderOk_iff h.m8).2 h.ord⟩, fun b hb => ?_⟩
 unfold badBid
 rcases h.bid b hb with rfl | ⟨h1, h2⟩
 · simp
 · rw [vcheck_of (by omega) (by omega) (by omega) h2]; simp

theorem gi_bid {m : Mkt} {i k : Nat} (hi : i < m.bids.length) (hk : k < m.res.length) : gi (gainsM m) i k = if m.bids[i] = [] then -1 else m.bids[i].getD k 0 - m.res.getD k 0 :=
 gi_at (l := gainRow m.res m.bids[i]) (by simp [gainsM, hi]) (gainRow_get hk)

theorem MOk.rows {m : Mkt} (h : MOk m) : (∀ l, l ∈ gainsM m → (l.length : Int) = m.res.length) ∧ ∀ l, l ∈ gainsM m → ∀ x, x ∈ l → -1000000 ≤ x ∧ x ≤ 1000000 := by
 constructor
 · intro l hl
   obtain ⟨b, _, rfl⟩ := List.mem_map.1 hl
   rw [gainRow_length]
 · intro l hl x hx
   obtain ⟨b, hb, rfl⟩ := List.mem_map.1 hl
   obtain ⟨k, hk, rfl⟩ := List.mem_map.1 hx
   have hkn := List.mem_range.1 hk
   split
   · omega
   · rename_i hne
     rcases h.bid b hb with e | ⟨h1, h2⟩
     · exact absurd e hne
     · have e1 := h2 b[k] (List.getElem_mem (by omega))
       have e2 := h.res m.res[k] (List.getElem_mem hkn)
       rw [List.getD_eq_getElem?_getD, List.getD_eq_getElem?_getD, List.getElem?_eq_getElem (by omega), List.getElem?_eq_getElem hkn, Option.getD_some, Option.getD_some]
       omega

theorem MOk.wcheck {m : Mkt} (h : MOk m) : wcheck (gainsM m) m.res.length = true :=
 wcheck_of h.n1 h.n8 (by rw [gainsM_length]; exact h.m8) h.rows.1 h.rows.2
theorem MOk.order {m : Mkt} (h : MOk m) : ∃ on : List Nat, m.ord = on.map (fun k : Nat => (k : Int)) ∧ on.Perm (List.range m.bids.length) := by
 obtain ⟨on, e⟩ := order_nat h.ord
 refine ⟨on, e, ?_⟩
 have := h.ord
 rw [e] at this
 exact isOrd_parts this
theorem MOk.bd {m : Mkt} (h : MOk m) (i k : Nat) : -1000000 ≤ gi (gainsM m) i k ∧ gi (gainsM m) i k ≤ 1000000 := by
 unfold gi
 cases hl : (gainsM m)[i]? with
 | none => simp
 | some l =>
   cases hx : l[k]? with
   | none => simp [hx]
   | some x =>
     simp only [Option.getD_some, hx]
     exact h.rows.2 l (List.mem_of_getElem? hl) x (List.mem_of_getElem? hx)

end Go.Proofs.YtkddkkcfpnndlaaGreatDoor
