/- Walks: payments.Lost, Of. Walks: payments.Of. -/
import Derived.Test.YtbnjeegicbffeaaGreatG23
import Derived.Test.YtbnjeegicbffeaaGreatG05
import Derived.Deep.RegionHeld3
/- Walks: payments.Lost, Of. -/
namespace Go.Proofs.YtbnjeegicbffeaaGreat
open Go.RowKit Sale

theorem lostM_bd {m : Mkt} (hm : MOk m) (i0 : Nat) : -8000000 ≤ lostM m i0 ∧ lostM m i0 ≤ 16000000 := by
  unfold lostM
  have h1 := oTo_bd hm i0 m.bids.length
  have h2 := bestVal_bd (hm.without i0)
  have h3 := hm.m8
  rw [show (withoutM m i0).res.length = m.res.length from rfl] at h2
  omega

theorem Lost_no (ra ba oa : Option Addr) (rn rc bn bc on oc : Nat) (m : Mkt) (i0 : Int) (w : World) (hm : MktAt w ra ba oa rn rc bn bc on oc m) (h : mcheck m = false ∨ i0 < 0 ∨ (bn : Int) ≤ i0) :
    Calls Tryz.prog 58 #[.agg #[.slice ra rn rc, .slice ba bn bc, .slice oa on oc], .int .i64 i0] w fun e w' => e = .returned (.tuple #[.int .i64 0, .int .i64 1]) ∧ Below w.heap.size w w' := by
  have HB0 := Lib.hid (mw_start w ra ba oa rn rc bn bc on oc)
  have hm1 := hm.below (mw_kept HB0.out).2.2.2.2 (Nat.le_refl _)
  have HK := Lib.hid (mcheck_any ra ba oa rn rc bn bc on oc m (mw w ra ba oa rn rc bn bc on oc) hm1.res hm1.bids hm1.ord)
  clear hm1 hm
  cases hc : mcheck m with
  | false =>
    rw [hc] at HK
    clear hc h
    go_enter Tryz.func58, Tryz.ntmps58
    go_wp2_with fail
    refine HK.out.mono ?_
    rintro e w1 ⟨rfl, hb⟩
    have HB1 := Lib.hid (mw_below' HB0.out hb); clear hb HK
    go_wp2_with fail
    go_ret2
    exact ⟨rfl, (mw_kept HB1.out).2.2.2.2⟩
  | true =>
    rw [hc] at HK h
    clear hc
    have h := h.resolve_left (by decide)
    by_cases hneg : i0 < 0
    · have e1 : decide (i0 < 0) = true := by simpa using hneg
      go_enter Tryz.func58, Tryz.ntmps58
      go_wp2_with fail
      refine HK.out.mono ?_
      rintro e w1 ⟨rfl, hb⟩
      have HB1 := Lib.hid (mw_below' HB0.out hb); clear hb HK
      go_wp2_with fail
      go_ret2
      exact ⟨rfl, (mw_kept HB1.out).2.2.2.2⟩
    · have e1 : decide (i0 < 0) = false := by simpa using hneg
      have e2 : decide ((bn : Int) ≤ i0) = true := by
        rw [decide_eq_true_eq]; exact h.resolve_left hneg
      have H := Lib.hid h; clear h
      have HN := Lib.hid hneg; clear hneg
      go_enter Tryz.func58, Tryz.ntmps58
      go_wp2_with fail
      refine HK.out.mono ?_
      rintro e w1 ⟨rfl, hb⟩
      have HB1 := Lib.hid (mw_below' HB0.out hb); clear hb HK
      obtain ⟨c0, c1, _, hs1, _⟩ := mw_kept HB1.out
      go_wp2_with fail
      go_ret2
      exact ⟨rfl, (mw_kept HB1.out).2.2.2.2⟩

set_option maxHeartbeats 1000000 in
theorem Lost_yes (ra ba oa : Option Addr) (rn rc bn bc on oc i0 : Nat) (m : Mkt) (w : World) (hm : MktAt w ra ba oa rn rc bn bc on oc m) (hc : mcheck m = true) (hi : i0 < bn) :
    Calls Tryz.prog 58 #[.agg #[.slice ra rn rc, .slice ba bn bc, .slice oa on oc], .int .i64 i0] w fun e w' => e = .returned (.tuple #[.int .i64 (lostM m i0), .int .i64 0]) ∧ Below w.heap.size w w' := by
  have HB0 := Lib.hid (mw_start w ra ba oa rn rc bn bc on oc)
  have hm1 := hm.below (mw_kept HB0.out).2.2.2.2 (Nat.le_refl _)
  have HK := Lib.hid (mcheck_any ra ba oa rn rc bn bc on oc m (mw w ra ba oa rn rc bn bc on oc) hm1.res hm1.bids hm1.ord)
  clear hm1
  have HM := Lib.hid hm; clear hm
  have HC := Lib.hid hc; clear hc
  have e1 : decide ((i0 : Int) < 0) = false := by simp
  have e2 : decide ((bn : Int) ≤ (i0 : Int)) = false := by simp; omega
  have e3 : decide (bn ≤ i0) = false := by simp; omega
  go_enter Tryz.func58, Tryz.ntmps58
  go_wp2_with fail
  refine HK.out.mono ?_
  rw [HC.out]
  rintro e w1 ⟨rfl, hb⟩
  have HB1 := Lib.hid (mw_below' HB0.out hb); clear hb HK
  obtain ⟨c0, c1, c2, hs1, hbw⟩ := mw_kept HB1.out
  have HN := Lib.hid (newBook_any ra ba oa rn rc bn bc on oc m w1 (HM.out.below hbw (Nat.le_refl _)) HC.out)
  have HBW := Lib.hid hbw; clear hbw
  go_wp2_with fail
  refine HN.out.mono ?_
  rintro e w2 ⟨Bk, ga, ha, hc, rfl, hbk, hb2⟩
  have HBK := Lib.hid hbk; clear hbk
  have HB2 := Lib.hid (HBW.out.trans (hb2.mono HBW.out.size)); clear hb2 HN c0 c1 c2
  go_wp2_with fail
  refine (lost_any Bk i0 ra ba oa ga ha rn rc bn bc on oc bn hc m w2 HBK.out HC.out hi).mono ?_
  rintro e w3 ⟨rfl, hb3⟩
  have HB3 := Lib.hid (HB2.out.trans (hb3.mono HB2.out.size)); clear hb3
  go_wp2_with fail
  go_ret2
  exact ⟨rfl, HB3.out⟩

/-- what each pays -/
def payAt (m : Mkt) (has : List Int) (i : Nat) : Int := if 0 ≤ has.getD i (-1) then m.res.getD (has.getD i (-1)).toNat 0 + lostM m i else 0
def payL (m : Mkt) (has : List Int) : List Int := tabN has.length (payAt m has)
theorem payAt_bd {m : Mkt} (hm : MOk m) (has : List Int) (i : Nat) : -16000000 ≤ payAt m has i ∧ payAt m has i ≤ 32000000 := by
  unfold payAt
  have h1 := lostM_bd hm i
  split
  · have h2 : 0 ≤ m.res.getD (has.getD i (-1)).toNat 0 ∧ m.res.getD (has.getD i (-1)).toNat 0 ≤ 1000000 := by
      rw [List.getD_eq_getElem?_getD]
      cases h : m.res[(has.getD i (-1)).toNat]? with
      | none => simp
      | some x => exact hm.res x (List.mem_of_getElem? h)
    omega
  · omega

set_option maxRecDepth 100000 in
set_option maxHeartbeats 2000000 in
theorem of_any (Bk : Nat) (ra ba oa ga ha la : Option Addr) (rn rc bn bc on oc gc hc lc : Nat) (m : Mkt) (has : List Int) (w : World) (hb : BookAt w Bk ra ba oa ga ha rn rc bn bc on oc gc hc m) (hc' : mcheck m = true)
    (hl : Ints w la bn lc has) (hit : ∀ x, x ∈ has → x < m.res.length) :
    Calls Tryz.prog 64 #[.pointer (some ⟨Bk, 0, none⟩), .slice la bn lc, .func (.func 65) #[.pointer (some ⟨Bk, 0, none⟩)] #[]] w fun e w' => ∃ g, e = .returned (.slice (some ⟨g, 0, none⟩) bn bn) ∧ Row w' g 3 (payL m has) ∧ w.heap.size ≤ g ∧ Below w.heap.size w w' := by
  have hok := mcheck_ok hc'
  have hbl := hb.mkt.bids.len
  have hrl := hb.mkt.res.len
  have hm8 := hok.m8
  rw [hbl] at hm8
  have hll := hl.len
  have HB := Lib.hid hb; clear hb
  have HOK := Lib.hid hok; clear hok
  have HBL := Lib.hid hbl; clear hbl
  have HRL := Lib.hid hrl; clear hrl
  have HC := Lib.hid hc'; clear hc'
  have HL := Lib.hid hl; clear hl
  have HLL := Lib.hid hll; clear hll
  have HIT := Lib.hid hit; clear hit
  have hmk := mkInts bn (by omega)
  go_enter Tryz.func64, Tryz.ntmps64
  go_wp2_with fail
  have hrow0 := Row.new w 3 (List.replicate bn 0)
  have HROW0 := Lib.hid hrow0; clear hrow0
  have HBA := Lib.hid (show Below w.heap.size w (w.alloc (.cells (iarr (List.replicate bn 0)) 3)) from (Below.refl _ _).alloc (Nat.le_refl _) _)
  go_loopg [15] bn (fun g' s15 wr => ∃ k : Nat, k + g' = bn ∧ s15 = .int .i64 k ∧ Row wr w.heap.size 3 (tabN bn fun j => if j < k then payAt m has j else 0) ∧ Below w.heap.size w wr)
  case atStart =>
    refine ⟨0, by omega, rfl, ?_, HBA.out⟩
    have e : tabN bn (fun j => if j < 0 then payAt m has j else 0) = List.replicate bn (0 : Int) := by
      unfold tabN; apply List.ext_getElem?; intro j; by_cases hj : j < bn <;> simp [hj]
    rw [e]
    exact HROW0.out
  case round =>
    obtain ⟨k, hk, rfl, hR, hB⟩ := hrel
    have HK := Lib.hid hk; clear hk
    by_cases hlt : k < bn
    · obtain ⟨x, hx, _⟩ := HL.out.get hlt
      obtain ⟨lb, lo, rfl⟩ := HL.out.addr (by omega)
      have cx := (HL.out.below hB (Nat.le_refl _)).cell lb lo rfl k x hx
      have hgd : has.getD k (-1) = x := by rw [List.getD_eq_getElem?_getD, hx]; rfl
      by_cases h0 : 0 ≤ x
      · have e1 : decide (0 ≤ x) = true := by simpa using h0
        obtain ⟨j, rfl⟩ := Int.eq_ofNat_of_zero_le h0
        have hj := HIT.out _ (List.mem_of_getElem? hx)
        have hjr : j < rn := by rw [← HRL.out]; omega
        have hbk := HB.out.step hB
        have c0 := hbk.row.cell (k := 0) rfl
        obtain ⟨y, hy, _⟩ := HB.out.mkt.res.get hjr
        obtain ⟨rb, ro, rfl⟩ := HB.out.mkt.res.addr (by omega)
        have cy := hbk.mkt.res.cell rb ro rfl j y hy
        have hy6 := HOK.out.res y (List.mem_of_getElem? hy)
        have hlb := lostM_bd HOK.out k
        have hco := hR.cell (k := k) (x := 0) (by rw [tabN_get _ hlt, if_neg (by omega)])
        have hfo := hR.frozen k
        have hwlt := hR.lt
        have hlost := fun W (hW : Below wr.heap.size wr W) => lost_any Bk k _ ba oa ga ha rn rc bn bc on oc gc hc m W (hbk.step hW) HC.out hlt
        have HLOST := Lib.hid hlost; clear hlost
        have hpay : payAt m has k = y + lostM m k := by
          unfold payAt
          rw [hgd, if_pos (by omega), Int.toNat_natCast, List.getD_eq_getElem?_getD, hy]; rfl
        obtain ⟨lk, hlk⟩ : ∃ lk, lk = lostM m k := ⟨_, rfl⟩
        rw [← hlk] at HLOST hlb hpay
        have HPAY := Lib.hid hpay; clear hpay
        have HLK := Lib.hid hlk; clear hlk
        have HR := Lib.hid hR; clear hR
        have HBB := Lib.hid hB; clear hB
        have HBK := Lib.hid hbk; clear hbk
        have HX := Lib.hid hx; clear hx
        have HY := Lib.hid hy; clear hy
        have HGD := Lib.hid hgd; clear hgd
        obtain ⟨hb1, hb2⟩ := hlb
        obtain ⟨hy1, hy2⟩ := hy6
        have i1 : (j : Int) < (rn : Int) := by omega
        have i0 : (k : Int) < (bn : Int) := by omega
        have e3 : IntKind.i64.wrap (y + lk) = y + lk := IntWalk.i64_in _ (by omega)
        clear hj h0
        go_wp2_with fail
        go_region_held3 (fun w' => w'.cell? ⟨Bk, 0, none⟩ = some (.slice (some ⟨rb, ro, none⟩) rn rc) ∧ w'.cell? ⟨rb, ro + j, none⟩ = some (.int .i64 y))
          (first | (go_split_ands; refine ⟨?_, ?_⟩ <;> first | assumption | go_keep) | go_keep)
          ((go_at_call 65; refine (HLOST.out _ (Below.refl _ _).drew).mono ?_; rintro e w3 ⟨rfl, hb3⟩; have q0 := cell_step (v := .slice (some ⟨rb, ro, none⟩) rn rc) (b := Bk) (o := 0) hb3 c0; have q1 := cell_step (v := .int .i64 y) (b := rb) (o := ro + j) hb3 cy; have q3 := cell_step (v := .int .i64 0) (b := w.heap.size) (o := k) hb3 hco; have q4 : w3.frozen? ⟨w.heap.size, k, none⟩ = false := (hb3.frozen (p := ⟨w.heap.size, k, none⟩) hwlt).trans hfo; have q5 := (Row.below HR.out ((Below.refl wr.heap.size wr).drew.trans hb3) hwlt); have q6 : (w3.setCell ⟨w.heap.size, k, none⟩ (.int .i64 (y + lk))).cell? ⟨Bk, 0, none⟩ = some (.slice (some ⟨rb, ro, none⟩) rn rc) := (((VRow.step HBK.out.row ((Below.refl wr.heap.size wr).drew.trans hb3))).cell (k := 0) rfl ▸ World.cell?_setCell_far _ _ _ _ (by have := HB.out.row.lt; simp; omega)); have q7 : (w3.setCell ⟨w.heap.size, k, none⟩ (.int .i64 (y + lk))).cell? ⟨rb, ro + j, none⟩ = some (.int .i64 y) := (World.cell?_setCell_far _ _ _ _ (by have := block_lt_of_cell (HB.out.mkt.res.cell rb ro rfl j y HY.out); simp at this ⊢; omega)).trans q1))
        go_wp2_with fail
        go_roundg (gk - 1)
        case measure => have := HK.out; omega
        case rel =>
          refine ⟨k + 1, by have := HK.out; omega, by go_num, ?_, (HBB.out.trans ((Below.refl wr.heap.size wr).drew.trans hb3 |>.mono HBB.out.size)).setCell (by simp) _⟩
          have h2 := q5.set k (y + lk)
          rw [tabN_set] at h2
          rw [show (tabN bn fun j => if j < k + 1 then payAt m has j else 0) = tabN bn (fun j => if j = k then y + lk else if j < k then payAt m has j else 0) from tabN_congr fun j hj => by
            by_cases e : j = k
            · subst e; rw [if_pos (by omega), if_pos rfl, HPAY.out]
            · rw [if_neg e]
              by_cases h : j < k
              · rw [if_pos (by omega), if_pos h]
              · rw [if_neg (by omega), if_neg h]]
          exact h2
      · have e1 : decide (0 ≤ x) = false := by simpa using h0
        have hpay : payAt m has k = 0 := by unfold payAt; rw [hgd, if_neg h0]
        have HPAY := Lib.hid hpay; clear hpay
        have HR := Lib.hid hR; clear hR
        have HBB := Lib.hid hB; clear hB
        have HX := Lib.hid hx; clear hx
        have HGD := Lib.hid hgd; clear hgd
        have H0 := Lib.hid h0; clear h0
        go_wp2_with fail
        go_roundg (gk - 1)
        case measure => have := HK.out; omega
        case rel =>
          refine ⟨k + 1, by have := HK.out; omega, by go_num, ?_, HBB.out⟩
          rw [show (tabN bn fun j => if j < k + 1 then payAt m has j else 0) = tabN bn (fun j => if j < k then payAt m has j else 0) from tabN_congr fun j hj => by
            by_cases e : j = k
            · subst e; rw [if_pos (by omega), if_neg (by omega), HPAY.out]
            · by_cases h : j < k
              · rw [if_pos (by omega), if_pos h]
              · rw [if_neg (by omega), if_neg h]]
          exact HR.out
    · obtain rfl : k = bn := by have := HK.out; omega
      have HR := Lib.hid hR; clear hR
      have HBB := Lib.hid hB; clear hB
      go_wp2_with fail
      go_ret
      refine ⟨_, rfl, ?_, Nat.le_refl _, HBB.out⟩
      have := HR.out
      rw [show tabN k (fun j => if j < k then payAt m has j else 0) = payL m has from by
        unfold payL; rw [HLL.out]; exact tabN_congr fun j hj => by rw [if_pos hj]] at this
      exact this

end Go.Proofs.YtbnjeegicbffeaaGreat

/- Walks: payments.Of. -/
namespace Go.Proofs.YtbnjeegicbffeaaGreat
open Go.RowKit Sale

/-- may items be had so? -/
def okMay (m : Mkt) (has : List Int) (i : Nat) (x : Int) : Bool := decide (x = -1) || (decide (0 ≤ x) && decide (x < m.res.length) && decide (0 ≤ gi (gainsM m) i x.toNat) && !(has.take i).contains x)
def mayTo (m : Mkt) (has : List Int) (k : Nat) : Bool := (List.range k).all fun i => okMay m has i (has.getD i (-1))
def mayB (m : Mkt) (has : List Int) : Bool := decide (has.length = m.bids.length) && mayTo m has has.length
theorem mayTo_succ {m : Mkt} {has : List Int} {k : Nat} {x : Int} (hx : has[k]? = some x) : mayTo m has (k + 1) = (mayTo m has k && okMay m has k x) := by
  simp [mayTo, List.range_succ, List.all_append, hx]
theorem mayTo_no {m : Mkt} {has : List Int} {k n : Nat} {x : Int} (hx : has[k]? = some x) (hk : k < n) (ho : okMay m has k x = false) : mayTo m has n = false := by
  unfold mayTo
  rw [List.all_eq_false]
  exact ⟨k, List.mem_range.2 hk, by rw [List.getD_eq_getElem?_getD, hx, Option.getD_some, ho]; simp⟩
theorem Ints.take {w : World} {a : Option Addr} {n c : Nat} {xs : List Int} (h : Ints w a n c xs) {k : Nat} (hk : k ≤ n) : Ints w a k c (xs.take k) :=
  ⟨by rw [List.length_take, h.len]; omega, Nat.le_trans hk h.cap, by have := h.big; omega, fun h0 => h.addr (by omega), fun b o e j x hx => by
    have hj : j < k := by have := (List.getElem?_eq_some_iff.1 hx).1; simp at this; omega
    rw [List.getElem?_take_of_lt hj] at hx
    exact h.cell b o e j x hx, fun x hx => h.bd x (List.mem_of_mem_take hx), fun e => by have := h.nil e; omega⟩

set_option maxRecDepth 100000 in
set_option maxHeartbeats 4000000 in
theorem may_any (Bk : Nat) (ra ba oa ga ha la : Option Addr) (rn rc bn bc on oc gc hc ln lc : Nat) (m : Mkt) (has : List Int) (w : World) (hb : BookAt w Bk ra ba oa ga ha rn rc bn bc on oc gc hc m) (hok : MOk m)
    (hl : Ints w la ln lc has) :
    Calls Tryz.prog 63 #[.pointer (some ⟨Bk, 0, none⟩), .slice la ln lc] w fun e w' => e = .returned (.bool (mayB m has)) ∧ w = w' := by
  have hbl := hb.mkt.bids.len
  have hrl := hb.mkt.res.len
  have hm8 := hok.m8
  rw [hbl] at hm8
  have hll := hl.len
  have hlb := hl.big
  have c0 := hb.row.cell (k := 0) rfl
  have c1 := hb.row.cell (k := 1) rfl
  have c3 := hb.row.cell (k := 3) rfl
  have HB := Lib.hid hb; clear hb
  have HOK := Lib.hid hok; clear hok
  have HBL := Lib.hid hbl; clear hbl
  have HRL := Lib.hid hrl; clear hrl
  have HL := Lib.hid hl; clear hl
  have HLL := Lib.hid hll; clear hll
  by_cases hlen : ln = bn
  · subst hlen
    go_enter Tryz.func63, Tryz.ntmps63
    go_wp2_with fail
    go_loopg [18] ln (fun g' s18 wr => ∃ k : Nat, k + g' = ln ∧ s18 = .int .i64 k ∧ mayTo m has k = true ∧ wr = w)
    case atStart => exact ⟨0, by omega, rfl, rfl, rfl⟩
    case round =>
      obtain ⟨k, hk, rfl, hM, rfl⟩ := hrel
      have HK := Lib.hid hk; clear hk
      have HM := Lib.hid hM; clear hM
      by_cases hlt : k < ln
      · obtain ⟨x, hx, _⟩ := HL.out.get hlt
        obtain ⟨lb, lo, rfl⟩ := HL.out.addr (by omega)
        have cx := HL.out.cell lb lo rfl k x hx
        have hsu := mayTo_succ (m := m) hx
        have hno := fun h => (show mayB m has = false by unfold mayB; rw [mayTo_no hx (n := has.length) (by rw [HLL.out]; exact hlt) h, Bool.and_false])
        have HNO := Lib.hid hno; clear hno
        have HSU := Lib.hid hsu; clear hsu
        have HX := Lib.hid hx; clear hx
        by_cases h1 : x = -1
        · have e1 : (x != -1) = false := by simp [h1]
          have hok1 : okMay m has k x = true := by simp [okMay, h1]
          have HO := Lib.hid hok1; clear hok1
          have H1 := Lib.hid h1; clear h1
          go_wp2_with fail
          go_roundg (gk - 1)
          case measure => have := HK.out; omega
          case rel => exact ⟨k + 1, by have := HK.out; omega, by go_num, by rw [HSU.out, HM.out, HO.out]; rfl, rfl⟩
        · have e1 : (x != -1) = true := by simp [h1]
          by_cases hneg : x < 0
          · have e2 : decide (x < 0) = true := by simpa using hneg
            have hok1 : okMay m has k x = false := by simp [okMay, h1]; omega
            have HO := Lib.hid hok1; clear hok1
            have H1 := Lib.hid h1; clear h1
            have HN := Lib.hid hneg; clear hneg
            go_wp2_with fail
            go_ret
            exact ⟨ret_bool (HNO.out HO.out).symm, rfl⟩
          · obtain ⟨j, rfl⟩ := Int.eq_ofNat_of_zero_le (show 0 ≤ x by omega)
            have e2 : decide ((j : Int) < 0) = false := by simp
            have H1 := Lib.hid h1; clear h1
            clear hneg
            by_cases hjr : j < rn
            · have e3 : decide ((rn : Int) ≤ (j : Int)) = false := by simp; omega
              have e3' : decide (rn ≤ j) = false := by simp; omega
              obtain ⟨row, hrow⟩ := HB.out.gains.get hlt
              obtain ⟨gb, go', rfl⟩ := HB.out.gains.addr (by omega)
              obtain ⟨ra', rn', rc', hcl, hli⟩ := HB.out.gains.cell gb go' rfl k row hrow
              have hln : rn' = rn := by have h1 := HOK.out.rows.1 row (List.mem_of_getElem? hrow); have := hli.len; have := HRL.out; omega
              subst hln
              obtain ⟨y, hy, _⟩ := hli.get hjr
              obtain ⟨rb, ro, rfl⟩ := hli.addr (by omega)
              have cy := hli.cell rb ro rfl j y hy
              have hgi : gi (gainsM m) k j = y := gi_at hrow hy
              have i1 : (k : Int) < (ln : Int) := by omega
              have i2 : (j : Int) < (rn' : Int) := by omega
              have hcap := HL.out.cap
              have HGI := Lib.hid hgi; clear hgi
              have HROW := Lib.hid hrow; clear hrow
              have HLI := Lib.hid hli; clear hli
              have HY := Lib.hid hy; clear hy
              by_cases hy0 : y < 0
              · have e4 : decide (y < 0) = true := by simpa using hy0
                have hok1 : okMay m has k (j : Int) = false := by
                  simp only [okMay, Int.toNat_natCast, HGI.out]
                  rw [decide_eq_false (show ¬ (0 : Int) ≤ y by omega), decide_eq_false (show ¬ (j : Int) = -1 by omega)]; simp
                have HO := Lib.hid hok1; clear hok1
                have HY0 := Lib.hid hy0; clear hy0
                go_wp2_with fail
                go_ret
                exact ⟨ret_bool (HNO.out HO.out).symm, rfl⟩
              · have e4 : decide (y < 0) = false := by simpa using hy0
                have HY0 := Lib.hid hy0; clear hy0
                go_wp2_with fail
                refine (contains_any (some ⟨lb, lo, none⟩) k lc (has.take k) (j : Int) wr (HL.out.take (by omega))).mono ?_
                cases hct : (has.take k).contains (j : Int) with
                | true =>
                  have hok1 : okMay m has k (j : Int) = false := by
                    simp only [okMay, hct, decide_eq_false (show ¬ (j : Int) = -1 by omega)]; simp
                  have HO := Lib.hid hok1; clear hok1
                  have HCT := Lib.hid hct; clear hct
                  rintro e w1 ⟨rfl, rfl⟩
                  go_wp2_with fail
                  go_ret
                  exact ⟨ret_bool (HNO.out HO.out).symm, rfl⟩
                | false =>
                  have hok1 : okMay m has k (j : Int) = true := by
                    simp only [okMay, hct, Int.toNat_natCast, HGI.out]
                    rw [decide_eq_true (show (0 : Int) ≤ y by have := HY0.out; omega), decide_eq_true (show (0 : Int) ≤ (j : Int) by omega), decide_eq_true (show (j : Int) < (m.res.length : Int) by have := HRL.out; omega)]; simp
                  have HO := Lib.hid hok1; clear hok1
                  have HCT := Lib.hid hct; clear hct
                  rintro e w1 ⟨rfl, rfl⟩
                  go_wp2_with fail
                  go_roundg (gk - 1)
                  case measure => have := HK.out; omega
                  case rel => exact ⟨k + 1, by have := HK.out; omega, by go_num, by rw [HSU.out, HM.out, HO.out]; rfl, rfl⟩
            · have e3 : decide ((rn : Int) ≤ (j : Int)) = true := by simp; omega
              have e3' : decide (rn ≤ j) = true := by simp; omega
              have hok1 : okMay m has k (j : Int) = false := by
                simp only [okMay, decide_eq_false (show ¬ (j : Int) = -1 by omega), decide_eq_false (show ¬ (j : Int) < (m.res.length : Int) by have := HRL.out; omega)]; simp
              have HO := Lib.hid hok1; clear hok1
              have HJ := Lib.hid hjr; clear hjr
              go_wp2_with fail
              go_ret
              exact ⟨ret_bool (HNO.out HO.out).symm, rfl⟩
      · obtain rfl : k = ln := by have := HK.out; omega
        go_wp2_with fail
        go_ret
        refine ⟨ret_bool ?_, rfl⟩
        unfold mayB
        rw [HLL.out, HBL.out, HM.out]; simp
  · have e1 : ((ln : Int) != (bn : Int)) = true := by simp; omega
    have HLEN := Lib.hid hlen; clear hlen
    go_enter Tryz.func63, Tryz.ntmps63
    go_wp2_with fail
    go_ret
    refine ⟨ret_bool ?_, rfl⟩
    unfold mayB
    rw [HLL.out, HBL.out]; simp [HLEN.out]

def PayRes (b : Bool) (l : List Int) (w : World) (e : Ending) (w' : World) : Prop := match b with
  | true => RetList 0 l w e w'
  | false => RetList 1 [] w e w'

set_option maxRecDepth 100000 in
set_option maxHeartbeats 1000000 in
theorem PayOf_any (ra ba oa la : Option Addr) (rn rc bn bc on oc ln lc : Nat) (m : Mkt) (has : List Int) (w : World) (hm : MktAt w ra ba oa rn rc bn bc on oc m) (hl : Ints w la ln lc has) :
    Calls Tryz.prog 34 #[.agg #[.slice ra rn rc, .slice ba bn bc, .slice oa on oc], .slice la ln lc] w (PayRes (mcheck m && mayB m has) (payL m has) w) := by
  have HB0 := Lib.hid (mw_start w ra ba oa rn rc bn bc on oc)
  have hm1 := hm.below (mw_kept HB0.out).2.2.2.2 (Nat.le_refl _)
  have HK := Lib.hid (mcheck_any ra ba oa rn rc bn bc on oc m (mw w ra ba oa rn rc bn bc on oc) hm1.res hm1.bids hm1.ord)
  clear hm1
  have HM := Lib.hid hm; clear hm
  have HL := Lib.hid hl; clear hl
  cases hc : mcheck m with
  | false =>
    rw [Bool.false_and]
    rw [hc] at HK
    clear hc
    go_enter Tryz.func34, Tryz.ntmps34
    go_wp2_with fail
    refine HK.out.mono ?_
    rintro e w1 ⟨rfl, hb⟩
    have HB1 := Lib.hid (mw_below' HB0.out hb); clear hb HK
    go_wp2_with fail
    go_ret2
    exact ⟨none, 0, 0, rfl, Ints.empty _ _ _, (mw_kept HB1.out).2.2.2.2⟩
  | true =>
    rw [Bool.true_and]
    rw [hc] at HK
    have HC := Lib.hid hc; clear hc
    obtain ⟨by', hby⟩ : ∃ b, b = mayB m has := ⟨_, rfl⟩
    rw [← hby]
    have HBY := Lib.hid hby; clear hby
    go_enter Tryz.func34, Tryz.ntmps34
    go_wp2_with fail
    refine HK.out.mono ?_
    rintro e w1 ⟨rfl, hb⟩
    have HB1 := Lib.hid (mw_below' HB0.out hb); clear hb HK
    obtain ⟨c0, c1, c2, hs1, hbw⟩ := mw_kept HB1.out
    have HN := Lib.hid (newBook_any ra ba oa rn rc bn bc on oc m w1 (HM.out.below hbw (Nat.le_refl _)) HC.out)
    have HBW := Lib.hid hbw; clear hbw
    go_wp2_with fail
    refine HN.out.mono ?_
    rintro e w2 ⟨Bk, ga, ha, hc, rfl, hbk, hb2⟩
    have HBK := Lib.hid hbk; clear hbk
    have HB2 := Lib.hid (HBW.out.trans (hb2.mono HBW.out.size)); clear hb2 HN c0 c1 c2
    have HL2 := Lib.hid (HL.out.below HB2.out (Nat.le_refl _))
    have hok := mcheck_ok HC.out
    have HOK := Lib.hid hok; clear hok
    go_wp2_with fail
    refine (may_any Bk ra ba oa ga ha la rn rc bn bc on oc bn hc ln lc m has w2 HBK.out HOK.out HL2.out).mono ?_
    rw [← HBY.out]
    cases by' with
    | false =>
      rintro e w3 ⟨rfl, rfl⟩
      go_wp2_with fail
      go_ret2
      exact ⟨none, 0, 0, rfl, Ints.empty _ _ _, HB2.out⟩
    | true =>
      have hmy := HBY.out.symm
      rintro e w3 ⟨rfl, rfl⟩
      have hln : ln = bn := by
        simp only [mayB, Bool.and_eq_true, decide_eq_true_eq] at hmy
        have := HL.out.len; have := HM.out.bids.len; omega
      subst hln
      have hit : ∀ x, x ∈ has → x < m.res.length := fun x hx => by
        simp only [mayB, Bool.and_eq_true, decide_eq_true_eq] at hmy
        obtain ⟨i, hi⟩ := List.mem_iff_getElem?.1 hx
        have h1 := List.all_eq_true.1 hmy.2 i (List.mem_range.2 (List.getElem?_eq_some_iff.1 hi).1)
        rw [List.getD_eq_getElem?_getD, hi, Option.getD_some] at h1
        simp only [okMay, Bool.or_eq_true, Bool.and_eq_true, decide_eq_true_eq] at h1
        have := HOK.out.n1
        omega
      have HO := Lib.hid (of_any Bk ra ba oa ga ha la rn rc ln bc on oc ln hc lc m has w2 HBK.out HC.out HL2.out hit)
      clear hit hmy
      go_wp2_with fail
      refine HO.out.mono ?_
      rintro e w4 ⟨g, rfl, hrow, _, hb4⟩
      have HROW := Lib.hid hrow; clear hrow
      have HB4 := Lib.hid (HB2.out.trans (hb4.mono HB2.out.size)); clear hb4 HO
      go_wp2_with fail
      go_ret2
      have hlen : (payL m has).length = ln := by unfold payL; rw [tabN_length]; exact HL.out.len
      have hin := HROW.out.ints (by rw [hlen]; exact HL.out.big) (fun x hx => by
        unfold payL tabN at hx
        obtain ⟨i, _, rfl⟩ := List.mem_map.1 hx
        have := payAt_bd HOK.out has i
        omega)
      rw [hlen] at hin
      exact ⟨_, ln, ln, rfl, hin, HB4.out⟩
end Go.Proofs.YtbnjeegicbffeaaGreat
