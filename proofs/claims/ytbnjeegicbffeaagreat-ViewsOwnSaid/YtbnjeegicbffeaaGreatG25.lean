/- Walks: rises.at. Walks: how far a set may rise. -/
import Derived.Test.YtbnjeegicbffeaaGreatG20
import Derived.Test.YtbnjeegicbffeaaGreatG24
import Derived.Test.YtbnjeegicbffeaaGreatG37
import Derived.Test.YtbnjeegicbffeaaGreatG07
import Derived.RegionCalls
/- Walks: rises.at. -/
namespace Go.Proofs.YtbnjeegicbffeaaGreat
open Go.RowKit Go.Shelf

attribute [local go_sem] Oper.semAt_some
/-- the first j of the lists as they are wanted, the others as they were -/
def partW (m : Mkt) (prices : List Int) (j : Nat) : List (List Int) := ((wantsM m prices).take j).map nats ++ (demItems m prices).drop j
def partM (m : Mkt) (prices : List Int) (j : Nat) : List Nat := (List.range j).filter fun i => !isNone (m.bids.getD i []) prices

theorem partW_get (m : Mkt) (prices : List Int) {j : Nat} (hj : j ≤ m.bids.length) (k : Nat) : (partW m prices j)[k]? = if k < j then ((wantsM m prices)[k]?).map nats else (demItems m prices)[k]? := by
  unfold partW
  have hl : (((wantsM m prices).take j).map nats).length = j := by rw [List.length_map, List.length_take, wantsM_len]; omega
  by_cases h : k < j
  · rw [if_pos h, List.getElem?_append_left (by omega), List.getElem?_map, List.getElem?_take_of_lt h]
  · rw [if_neg h, List.getElem?_append_right (by omega), hl, List.getElem?_drop]
    congr 1; omega
theorem partW_len (m : Mkt) (prices : List Int) {j : Nat} (hj : j ≤ m.bids.length) : (partW m prices j).length = m.bids.length := by
  unfold partW demItems
  rw [List.length_append, List.length_map, List.length_take, wantsM_len, List.length_drop, List.length_map]
  omega
theorem partW_zero (m : Mkt) (prices : List Int) : partW m prices 0 = demItems m prices := by simp [partW]
theorem partW_none {m : Mkt} {prices : List Int} {i : Nat} {bid : List Int} (hb : m.bids[i]? = some bid) (hn : isNone bid prices = true) : partW m prices (i + 1) = (partW m prices i).set i [] := by
  have hi : i < m.bids.length := (List.getElem?_eq_some_iff.1 hb).1
  apply List.ext_getElem?
  intro k
  rw [partW_get m prices (by omega)]
  by_cases e : i = k
  · subst e
    rw [if_pos (by omega), List.getElem?_set_self (by rw [partW_len m prices (by omega)]; exact hi)]
    unfold wantsM
    rw [List.getElem?_map, hb]
    simp [hn, nats]
  · rw [List.getElem?_set_ne e, partW_get m prices (by omega)]
    by_cases h : k < i
    · rw [if_pos h, if_pos (by omega)]
    · rw [if_neg h, if_neg (by omega)]
theorem partW_some {m : Mkt} {prices : List Int} {i : Nat} {bid : List Int} (hb : m.bids[i]? = some bid) (hn : isNone bid prices = false) : partW m prices (i + 1) = partW m prices i := by
  have hi : i < m.bids.length := (List.getElem?_eq_some_iff.1 hb).1
  apply List.ext_getElem?
  intro k
  rw [partW_get m prices (by omega), partW_get m prices (by omega)]
  by_cases e : i = k
  · subst e
    rw [if_pos (by omega), if_neg (by omega)]
    unfold wantsM demItems
    rw [List.getElem?_map, List.getElem?_map, hb]
    simp [hn]
  · by_cases h : k < i
    · rw [if_pos h, if_pos (by omega)]
    · rw [if_neg h, if_neg (by omega)]
theorem partW_all (m : Mkt) (prices : List Int) : partW m prices m.bids.length = (wantsM m prices).map nats := by
  unfold partW
  rw [List.take_of_length_le (by rw [wantsM_len]; exact Nat.le_refl _), List.drop_of_length_le (by unfold demItems; simp), List.append_nil]
theorem partM_none {m : Mkt} {prices : List Int} {i : Nat} {bid : List Int} (hb : m.bids[i]? = some bid) (hn : isNone bid prices = true) : partM m prices (i + 1) = partM m prices i := by
  unfold partM
  rw [List.range_succ, List.filter_append]
  simp [List.getD_eq_getElem?_getD, hb, hn]
theorem partM_some {m : Mkt} {prices : List Int} {i : Nat} {bid : List Int} (hb : m.bids[i]? = some bid) (hn : isNone bid prices = false) : partM m prices (i + 1) = partM m prices i ++ [i] := by
  unfold partM
  rw [List.range_succ, List.filter_append]
  simp [List.getD_eq_getElem?_getD, hb, hn]
theorem partM_len (m : Mkt) (prices : List Int) (i : Nat) : (partM m prices i).length ≤ i := by
  have := List.length_filter_le (fun i => !isNone (m.bids.getD i []) prices) (List.range i)
  simpa [partM] using this

/-- what the loop of 'at' holds -/
structure AtAt (w : World) (S : Nat) (ra ba oa qa : Option Addr) (rn rc bn bc on oc qn qc : Nat) (m : Mkt) (prices : List Int) (B1 B2 lo base i : Nat) (vals : List Value) (v : Value) (wr : World) : Prop where
  fill : Filled wr B1 lo bn (partW m prices i) vals
  hi : ∀ (j : Nat) (xs : List Int), (partW m prices i)[j]? = some xs → ∀ a c, vals[j]? = some (Value.slice a xs.length c) → 0 < xs.length → ∀ b o : Nat, a = some ⟨b, o, none⟩ → b < base
  none' : VRow wr B2 4 (demNone m prices)
  row : wr.heap[S]? = some (.cells #[.slice ra rn rc, .slice ba bn bc, .slice oa on oc, .slice qa qn qc, .slice none 0 0, v] 135)
  own : Own wr base v (nats (partM m prices i))
  pr : Ints wr qa qn qc prices
  prb : ∀ b o, qa = some ⟨b, o, none⟩ → 0 < qn → b < S
  s1 : S < B1
  s2 : S < B2
  ne : B1 ≠ B2
  b2 : B2 < lo
  lob : lo ≤ base
  le : base ≤ wr.heap.size
  s0 : w.heap.size + 1 ≤ S
  mw' : Below (w.heap.size + 1) (mw w ra ba oa rn rc bn bc on oc) wr
theorem cells_of_rowK {wr : World} {S : Nat} {cs : Array Value} {T : TypeId} (h : wr.heap[S]? = some (.cells cs T)) {k : Nat} {v : Value} (hk : cs[k]? = some v) : wr.cell? ⟨S, k, none⟩ = some v := by
  rw [cell_of_row wr S k _ T _ h]; exact hk
theorem AtAt.none1 {w : World} {S : Nat} {ra ba oa qa : Option Addr} {rn rc bn bc on oc qn qc : Nat} {m : Mkt} {prices : List Int} {B1 B2 lo base i : Nat} {vals : List Value} {v : Value} {wr : World}
    (h : AtAt w S ra ba oa qa rn rc bn bc on oc qn qc m prices B1 B2 lo base i vals v wr) (hl : m.bids.length = bn) {bid : List Int} (hb : m.bids[i]? = some bid) (hn : isNone bid prices = true) :
    AtAt w S ra ba oa qa rn rc bn bc on oc qn qc m prices B1 B2 lo base (i + 1) (vals.set i (.slice none 0 0)) v (wr.setCell ⟨B1, i, none⟩ (.slice none 0 0)) := by
  have hi : i < m.bids.length := (List.getElem?_eq_some_iff.1 hb).1
  have hs1 := h.s1
  have hb1 := h.fill.blt
  have hlob := h.lob
  have hs0 := h.s0
  refine ⟨?_, ?_, h.none'.other (by show B2 ≠ B1; exact fun e => h.ne e.symm) _, ?_, ?_, h.pr.far (fun hn b o e => by have := h.prb b o e hn; show b ≠ B1; omega) _, h.prb, h.s1, h.s2, h.ne, h.b2, h.lob, by simp; exact h.le, h.s0, h.mw'.setCell (p := ⟨B1, i, none⟩) (by show _ ≤ B1; omega) _⟩
  · rw [partW_none hb hn]
    exact h.fill.clear (by omega)
  · rw [partW_none hb hn]
    intro j xs hj a c hv hpos b o e
    by_cases e2 : i = j
    · subst e2
      rw [List.getElem?_set_self (by rw [partW_len m prices (by omega)]; exact hi)] at hj
      cases hj; simp at hpos
    · rw [List.getElem?_set_ne e2] at hj hv
      exact h.hi j xs hj a c hv hpos b o e
  · rw [heap_setCell_other wr ⟨B1, i, none⟩ S _ (by show S ≠ B1; omega)]; exact h.row
  · rw [partM_none hb hn]
    exact h.own.other (by show B1 < base; omega) _

theorem AtAt.some1 {w : World} {S : Nat} {ra ba oa qa : Option Addr} {rn rc bn bc on oc qn qc : Nat} {m : Mkt} {prices : List Int} {B1 B2 lo base i : Nat} {vals : List Value} {v : Value} {wr : World}
    (h : AtAt w S ra ba oa qa rn rc bn bc on oc qn qc m prices B1 B2 lo base i vals v wr) {bid : List Int} (hb : m.bids[i]? = some bid) (hn : isNone bid prices = false)
    {w1 : World} {v' : Value} {o : Obj} (ho : Own w1 base v' (nats (partM m prices i) ++ [(i : Int)])) (hbl : Below base (wr.alloc o) w1) :
    AtAt w S ra ba oa qa rn rc bn bc on oc qn qc m prices B1 B2 lo base (i + 1) vals v' (w1.setCell ⟨S, 5, none⟩ v') := by
  have hs1 := h.s1
  have hs2 := h.s2
  have hb1 := h.fill.blt
  have hlob := h.lob
  have hs0 := h.s0
  have hle := h.le
  have hb2 := h.b2
  have hbw : Below base wr w1 := ((Below.refl base wr).alloc hle o).trans hbl
  have hr1 : w1.heap[S]? = some (.cells #[.slice ra rn rc, .slice ba bn bc, .slice oa on oc, .slice qa qn qc, .slice none 0 0, v] 135) := (hbw.block S (by omega)).trans h.row
  refine ⟨?_, by rw [partW_some hb hn]; exact h.hi, (h.none'.below hbw (by omega)).other (by show B2 ≠ S; omega) _, ?_, ?_, (h.pr.upTo hbw (fun hn b o e => by have := h.prb b o e hn; omega)).far (fun hn b o e => by have := h.prb b o e hn; show b ≠ S; omega) _, h.prb, h.s1, h.s2, h.ne, h.b2, h.lob, by have := hbw.size; simp; omega, h.s0, (h.mw'.trans (hbw.mono (by omega))).setCell (p := ⟨S, 5, none⟩) (by show _ ≤ S; omega) _⟩
  · rw [partW_some hb hn]
    exact (h.fill.grown hbw (by omega) h.hi).under (by show S < lo; omega) (by show S ≠ B1; omega) _
  · rw [heap_setCell_same w1 S 5 _ _ _ hr1]; rfl
  · rw [partM_some hb hn, show nats (partM m prices i ++ [i]) = nats (partM m prices i) ++ [(i : Int)] from by simp [nats]]
    exact ho.other (by show S < base; omega) _

set_option maxRecDepth 100000 in
set_option maxHeartbeats 4000000 in
theorem At_made (ra ba oa pa : Option Addr) (rn rc bn bc on oc pn pc : Nat) (m : Mkt) (prices : List Int) (w : World) (hm : MktAt w ra ba oa rn rc bn bc on oc m) (hc : mcheck m = true) (hp : Ints w pa pn pc prices) (hpn : pn = rn) (hpp : ∀ x, x ∈ prices → 0 ≤ x ∧ x ≤ 2000000) :
    Calls Tryz.prog 82 #[.agg #[.slice ra rn rc, .slice ba bn bc, .slice oa on oc], .slice pa pn pc] w fun e w' => ∃ S qa wa ua qc un uc, e = .returned (.pointer (some ⟨S, 0, none⟩)) ∧
      StAt w' S ra ba oa qa wa ua rn rc bn bc on oc pn qc un uc m prices ((wantsM m prices).map nats) (nats (mustM m prices)) ∧ Below w.heap.size w w' := by
  subst hpn
  have hok := mcheck_ok hc
  have hrl := hm.res.len
  have hbl := hm.bids.len
  have hpl := hp.len
  have hn1 := hok.n1
  have hn8 := hok.n8
  have hm1 := hok.m1
  have hm8 := hok.m8
  rw [hrl] at hn1 hn8
  rw [hbl] at hm1 hm8
  have HBL := Lib.hid hbl; clear hbl hrl
  have HB0 := Lib.hid (mw_start w ra ba oa pn rc bn bc on oc)
  have hPA := hp.below (mw_kept HB0.out).2.2.2.2 (Nat.le_refl _)
  obtain ⟨c0, c1, c2, _, _⟩ := mw_kept HB0.out
  have HCL := Lib.hid (clone_any pa pn pc prices (mw w ra ba oa pn rc bn bc on oc).drew hPA.drew (by omega))
  have hbig : prices.length ≤ 4611686018427387904 := by omega
  have HBD := Lib.hid (And.intro hbig hp.bd); clear hbig
  have HM := Lib.hid (And.intro hm (And.intro hc (And.intro hp hpp))); clear hm hc hp hpp hPA hok
  have HPL := Lib.hid hpl; clear hpl
  have hs0 : (mw w ra ba oa pn rc bn bc on oc).heap.size = w.heap.size + 1 := by simp [mw]
  go_enter Tryz.func82, Tryz.ntmps82
  go_wp2_with fail
  go_region_with (go_at_call 47; refine HCL.out.mono ?_; rintro e w1 ⟨v, rfl, ho, hb⟩; obtain ⟨qa, qc, hv, hq⟩ := ho.ints HBD.out.1 HBD.out.2; rw [HPL.out] at hv hq; subst hv; have d0 := cell_step hb c0; have d1 := cell_step hb c1; have d2 := cell_step hb c2; have HQ := Lib.hid (And.intro hq hb); clear hq hb ho)
  all_goals
    clear c0 c1 c2 d0 d1 d2
    have hb1 : Below (w.heap.size + 1) (mw w ra ba oa pn rc bn bc on oc) w1 := mw_below' (HB0.out.drew) HQ.out.2
    have hb2 : Below (w.heap.size + 1) (mw w ra ba oa pn rc bn bc on oc) (w1.alloc (.cells #[.slice ra pn rc, .slice ba bn bc, .slice oa on oc, .slice qa pn qc, .slice none 0 0, .slice none 0 0] 135)) := mw_below' hb1 ((Below.refl _ _).alloc (Nat.le_refl _) _)
    obtain ⟨d0, d1, d2, hs2, hbw⟩ := mw_kept hb2
    have HAL := Lib.hid (All_dem ra ba oa pa pn rc bn bc on oc pn pc m prices _ (HM.out.1.below hbw (Nat.le_refl _)) HM.out.2.1 (HM.out.2.2.1.below hbw (Nat.le_refl _)) rfl HM.out.2.2.2)
    have hw1 := hb1.size
    rw [hs0] at hw1
    have HB2 := Lib.hid (And.intro hb2 hbw); clear hb1 hb2 hbw
    go_wp2_with fail
    refine HAL.out.mono ?_
    rintro e w3 ⟨B1, B2, vals, rfl, ⟨lo, hfill, hb2lo, hlo⟩, hnone, hne, hB1, hB2, hb3⟩
    rw [World.size_alloc] at hB1 hB2
    have hrow : w3.heap[w1.heap.size]? = some (.cells #[.slice ra pn rc, .slice ba bn bc, .slice oa on oc, .slice qa pn qc, .slice none 0 0, .slice none 0 0] 135) := (hb3.block w1.heap.size (by simp)).trans (heap_alloc_new w1 _)
    have hat : AtAt w w1.heap.size ra ba oa qa pn rc bn bc on oc pn qc m prices B1 B2 lo w3.heap.size 0 vals (.slice none 0 0) w3 :=
      ⟨by rw [partW_zero]; exact hfill, fun j xs hj a c hv hpos b o e => (by
        rw [partW_zero] at hj
        obtain ⟨a', c', h1, h2, _⟩ := hfill.done j xs hj
        rw [h1] at hv
        cases hv
        have := block_lt_of_cell (h2.cell b o e 0 _ (List.getElem?_eq_getElem hpos))
        simpa using this), hnone, hrow, by simpa [partM, nats] using Own.nil w3 w3.heap.size, (HQ.out.1.alloc _).below hb3 (Nat.le_refl _), fun b o e hpos => (by
        have := block_lt_of_cell (HQ.out.1.cell b o e 0 _ (List.getElem?_eq_getElem (by rw [HPL.out]; exact hpos)))
        simpa using this), by omega, by omega, hne, hb2lo, hlo, Nat.le_refl _, hw1, mw_below' HB2.out.1 hb3⟩
    obtain ⟨S, hS⟩ : ∃ S, S = w1.heap.size := ⟨_, rfl⟩
    rw [← hS] at hat ⊢
    obtain ⟨base, hbase⟩ : ∃ b, b = w3.heap.size := ⟨_, rfl⟩
    rw [← hbase] at hat
    have HAT := Lib.hid hat; clear hat
    have hS0 := HAT.out.s0
    clear hS hbase hrow hfill hb2lo hlo hnone hne hB1 hB2 hb3 d0 d1 d2 hs2 hw1 HAL HCL
    go_wp2_with fail
    go_loopg [9, 24] bn (fun g' s9 s24 wr => ∃ (i : Nat) (vals : List Value) (v : Value), i + g' = bn ∧ s24 = .int .i64 i ∧ AtAt w S ra ba oa qa pn rc bn bc on oc pn qc m prices B1 B2 lo base i vals v wr)
    case atStart => exact ⟨0, _, _, by omega, rfl, HAT.out⟩
    case round =>
      obtain ⟨i, vals, v, hi, rfl, hat⟩ := hrel
      have HI := Lib.hid hi; clear hi
      by_cases hlt : i < bn
      · obtain ⟨bid, hbid⟩ : ∃ bid, m.bids[i]? = some bid := ⟨_, List.getElem?_eq_getElem (by rw [HBL.out]; exact hlt)⟩
        have kn := hat.none'.cell (k := i) (v := .bool (isNone bid prices)) (by unfold demNone isNone; rw [List.getElem?_map, hbid]; rfl)
        have k5 := cells_of_rowK hat.row (k := 5) rfl
        have p5 := frozen_of_row wr S 5 _ _ hat.row
        have hvl := hat.fill.len
        obtain ⟨v0, hv0⟩ : ∃ v0, vals[i]? = some v0 := ⟨_, List.getElem?_eq_getElem (by omega)⟩
        have k1 := hat.fill.row.cell hv0
        have p1 := hat.fill.row.frozen i
        have HB := Lib.hid hbid; clear hbid hvl hv0
        cases hn : isNone bid prices with
        | true =>
          rw [hn] at kn
          have HNX := Lib.hid (hat.none1 HBL.out HB.out hn)
          clear hat hn k5 p5
          go_wp2_with fail
          go_roundg (gk - 1)
          case measure => have := HI.out; omega
          case rel => exact ⟨i + 1, _, _, by have := HI.out; omega, by go_num, HNX.out⟩
        | false =>
          rw [hn] at kn
          have hown := hat.own.alloc (.cells #[.int .i64 (i : Int)] 3)
          have hble := hat.le
          have hml := partM_len m prices i
          have HATT := Lib.hid (And.intro hat hn); clear hat hn k1 p1
          have HOWN := Lib.hid hown; clear hown
          clear p5
          go_wp2_with (at_builtin; refine app1 _ rfl _ _ rfl base _ _ rfl HOWN.out wr.heap.size 0 1 (i : Int) rfl (by simp [go_sem]) (by simp [nats]; omega) (by simp; omega) ?_)
          intro g' cap w5 hown5 _ hb5
          have hr5 : w5.heap[S]? = some (.cells #[.slice ra pn rc, .slice ba bn bc, .slice oa on oc, .slice qa pn qc, .slice none 0 0, v] 135) :=
            (hb5.block S (by have := HATT.out.1.s1; have := HATT.out.1.fill.blt; have := HATT.out.1.lob; omega)).trans ((Below.heap_alloc _ _ _ (by have := HATT.out.1.s1; have := HATT.out.1.fill.blt; have := HATT.out.1.lob; omega)).trans HATT.out.1.row)
          have q5 := cells_of_rowK hr5 (k := 5) rfl
          have p5 := frozen_of_row w5 S 5 _ _ hr5
          have HNX := Lib.hid (HATT.out.1.some1 HB.out HATT.out.2 hown5 hb5)
          clear hown5 hb5 hr5 k5
          go_wp2_with fail
          go_roundg (gk - 1)
          case measure => have := HI.out; omega
          case rel => exact ⟨i + 1, _, _, by have := HI.out; omega, by go_num, HNX.out⟩
      · obtain rfl : i = bn := by have := HI.out; omega
        have k4 := cells_of_rowK hat.row (k := 4) rfl
        have p4 := frozen_of_row wr S 4 _ _ hat.row
        have HATT := Lib.hid hat; clear hat
        go_wp2_with fail
        go_ret
        have hat := HATT.out
        have hbl := HBL.out
        obtain ⟨ua, uc, hv, hmu⟩ := hat.own.ints (by have := partM_len m prices i; simp [nats]; omega) (by
          intro x hx
          obtain ⟨k, hk, rfl⟩ := List.mem_map.1 hx
          have := List.mem_range.1 (List.mem_filter.1 hk).1
          omega)
        have hbs := hat.own.base
        subst hv
        have hs1 := hat.s1
        have hblt := hat.fill.blt
        have hlob := hat.lob
        have hr := heap_setCell_same wr S 4 _ _ (.slice (some ⟨B1, 0, none⟩) i i) hat.row
        have hbw := (mw_kept (hat.mw'.setCell (p := ⟨S, 4, none⟩) (by show _ ≤ S; omega) (.slice (some ⟨B1, 0, none⟩) i i))).2.2.2.2
        have hw2 := (hat.fill.under (p := ⟨S, 4, none⟩) (by show S < lo; omega) (by show S ≠ B1; omega) (.slice (some ⟨B1, 0, none⟩) i i)).rows (by rw [partW_len m prices (by omega)]; exact hbl) (by omega)
        have e1 : partW m prices i = (wantsM m prices).map nats := by rw [← hbl]; exact partW_all m prices
        have e2 : partM m prices i = mustM m prices := by rw [← hbl]; rfl
        rw [e1] at hw2
        rw [e2] at hmu
        refine ⟨S, qa, some ⟨B1, 0, none⟩, ua, qc, (nats (mustM m prices)).length, uc, rfl, ⟨cells_of_rowK hr rfl, cells_of_rowK hr rfl, cells_of_rowK hr rfl, cells_of_rowK hr rfl, cells_of_rowK hr rfl, cells_of_rowK hr ?_, HM.out.1.below hbw (Nat.le_refl _), ?_, hw2, ?_⟩, hbw⟩
        · rw [e2]; rfl
        · exact hat.pr.far (fun hn b o e => by have := hat.prb b o e hn; show b ≠ S; omega) _
        · exact hmu.away (fun b o e => by have := hbs b (by rw [e]; rfl); show b ≠ S; omega) _
end Go.Proofs.YtbnjeegicbffeaaGreat

/- Walks: how far a set may rise. -/
namespace Go.Proofs.YtbnjeegicbffeaaGreat
open Go.RowKit Go.Shelf Sale

/-- the list as far as one has come: of some, and of one's items -/
def farTo (m : Mkt) (q : List Int) (wants : List (List Nat)) (l mu : List Nat) (j : Nat) : List Int := farAll m.bids q wants l (mu.take j)
theorem farTo_succ {m : Mkt} {q : List Int} {wants : List (List Nat)} {l mu : List Nat} {j i : Nat} (h : mu[j]? = some i) : farTo m q wants l mu (j + 1) = farTo m q wants l mu j ++ farRow m.bids q wants l i := by
  unfold farTo farAll
  rw [List.take_add_one, h, List.flatMap_append]
  simp
/-- of one's items the first k -/
def rowTo (bids : List (List Int)) (q : List Int) (l : List Nat) (i : Nat) (G : Int) (k : Nat) : List Int := ((List.range k).filter fun x => !l.contains x).map fun x => G - gnOf bids q i x
theorem rowTo_in {bids : List (List Int)} {q : List Int} {l : List Nat} {i : Nat} {G : Int} {k : Nat} (h : l.contains k = true) : rowTo bids q l i G (k + 1) = rowTo bids q l i G k := by
  unfold rowTo
  rw [List.range_succ, List.filter_append, List.map_append, show List.filter (fun x => !l.contains x) [k] = [] by rw [List.filter_cons, h]; rfl]
  simp
theorem rowTo_out {bids : List (List Int)} {q : List Int} {l : List Nat} {i : Nat} {G : Int} {k : Nat} (h : l.contains k = false) : rowTo bids q l i G (k + 1) = rowTo bids q l i G k ++ [G - gnOf bids q i k] := by
  unfold rowTo
  rw [List.range_succ, List.filter_append, List.map_append, show List.filter (fun x => !l.contains x) [k] = [k] by rw [List.filter_cons, h]; rfl]
  rfl
theorem rowTo_len (bids : List (List Int)) (q : List Int) (l : List Nat) (i : Nat) (G : Int) (k : Nat) : (rowTo bids q l i G k).length ≤ k := by
  have := List.length_filter_le (fun x => !l.contains x) (List.range k)
  simpa [rowTo] using this
theorem nats_contains (l : List Nat) (k : Nat) : (nats l).contains (k : Int) = l.contains k := by
  rw [Bool.eq_iff_iff]
  simp only [List.contains_eq_mem, decide_eq_true_eq]
  exact mem_nats
theorem FarOk.gnb {m : Mkt} {q : List Int} {wants : List (List Nat)} {mu : List Nat} (h : FarOk m q wants mu) {i k : Nat} (hi : i ∈ mu) (hk : k < q.length) : -2000000 ≤ gnOf m.bids q i k ∧ gnOf m.bids q i k ≤ 1000000 := by
  obtain ⟨_, x, y, _, _, _, h1, h2, e⟩ := h.gn hi hk
  omega
theorem FarOk.allb {m : Mkt} {q : List Int} {wants : List (List Nat)} {mu l : List Nat} (h : FarOk m q wants mu) : ∀ x, x ∈ farAll m.bids q wants l mu → -3000000 ≤ x ∧ x ≤ 3000000 := by
  intro x hx
  unfold farAll at hx
  obtain ⟨i, hi, hx⟩ := List.mem_flatMap.1 hx
  unfold farRow at hx
  split at hx
  · cases hx
  · have h0 : (wants.getD i []).getD 0 0 < q.length := by
      have hne := h.ne i hi
      refine h.want i hi _ ?_
      generalize wants.getD i [] = L at hne
      rw [List.getD_eq_getElem?_getD, List.getElem?_eq_getElem (List.length_pos_iff.2 hne)]
      exact List.getElem_mem _
    have g0 := h.gnb hi h0
    rcases List.mem_cons.1 hx with rfl | hx
    · omega
    · obtain ⟨k, hk, rfl⟩ := List.mem_map.1 hx
      have hk := List.mem_range.1 (List.mem_filter.1 hk).1
      have := h.gnb hi hk
      omega
theorem foldl_lmin {x : Int} {xs : List Int} : xs.foldl min x = lmin (x :: xs) := rfl

/-- a world behind the call's beginning: the set's box and the function's box -/
structure FarAt (w : World) (B1 B2 : Nat) (la : Option Addr) (ln lc : Nat) (wr : World) : Prop where
  b1 : Boxed wr B1 23 (.slice la ln lc)
  b2 : Boxed wr B2 114 (.func (.func 103) #[] #[.pointer (some ⟨B1, 0, none⟩)])
  below : Below w.heap.size w wr
theorem FarAt.step {w : World} {B1 B2 : Nat} {la : Option Addr} {ln lc : Nat} {wr wr' : World} (h : FarAt w B1 B2 la ln lc wr) (hb : Below wr.heap.size wr wr') : FarAt w B1 B2 la ln lc wr' :=
  ⟨boxed_on h.b1 hb, boxed_on h.b2 hb, h.below.trans (hb.mono h.below.size)⟩
theorem FarAt.upTo {w : World} {B1 B2 B : Nat} {la : Option Addr} {ln lc : Nat} {wr wr' : World} (h : FarAt w B1 B2 la ln lc wr) (hb : Below B wr wr') (h1 : B1 < B) (h2 : B2 < B) (hB : w.heap.size ≤ B) : FarAt w B1 B2 la ln lc wr' :=
  ⟨by have := h.b1; unfold Boxed at *; rw [hb.block B1 h1]; exact this, by have := h.b2; unfold Boxed at *; rw [hb.block B2 h2]; exact this, h.below.trans (hb.mono hB)⟩

set_option maxRecDepth 100000 in
set_option maxHeartbeats 4000000 in
theorem far_any {S : Nat} {ra ba oa qa wa ua la : Option Addr} {rn rc bn bc on oc qn qc un uc ln lc : Nat} {m : Mkt} {q : List Int} {wants : List (List Nat)} {mu l : List Nat} {w : World}
    (h : StAt w S ra ba oa qa wa ua rn rc bn bc on oc qn qc un uc m q (wants.map nats) (nats mu)) (hf : FarOk m q wants mu) (hl : Ints w la ln lc (nats l)) (hne : farAll m.bids q wants l mu ≠ []) :
    Calls Tryz.prog 92 #[.pointer (some ⟨S, 0, none⟩), .slice la ln lc] w fun e w' => e = .returned (.int .i64 (lmin (farAll m.bids q wants l mu))) ∧ Below w.heap.size w w' := by
  have hql := h.pr.len
  have hmul : mu.length = un := by have := h.must.len; simpa [nats] using this
  have hwl : wants.length = bn := by have := h.wants.len; simpa using this
  have hbl := h.mkt.bids.len
  have hu8 : un ≤ 8 := by have := hf.mu8; omega
  have hq8 : qn ≤ 8 := by have := hf.q8; omega
  have hw0 : Below w.heap.size w ((w.alloc (.cells #[.slice la ln lc] 23)).alloc (.cells #[.func (.func 103) #[] #[.pointer (some ⟨w.heap.size, 0, none⟩)]] 114)) := ((Below.refl _ _).alloc (Nat.le_refl _) _).alloc (by simp) _
  have hat : FarAt w w.heap.size (w.heap.size + 1) la ln lc ((w.alloc (.cells #[.slice la ln lc] 23)).alloc (.cells #[.func (.func 103) #[] #[.pointer (some ⟨w.heap.size, 0, none⟩)]] 114)) :=
    ⟨(Boxed.new w _ _).alloc _, boxed_new _ _ (by simp) _ _, hw0⟩
  have k3 := cell_step hw0 h.c5
  have HAT := Lib.hid hat; clear hat
  have HS := Lib.hid h; clear h
  have HF := Lib.hid hf; clear hf
  have HL := Lib.hid hl; clear hl
  have HQL := Lib.hid hql; clear hql
  have HMUL := Lib.hid hmul; clear hmul
  have HWL := Lib.hid hwl; clear hwl
  have HBL := Lib.hid hbl; clear hbl
  have HNE := Lib.hid hne; clear hne
  clear hw0
  go_enter Tryz.func92, Tryz.ntmps92
  go_wp2_with fail
  obtain ⟨Bs, hBs⟩ : ∃ Bs, Bs = w.heap.size + 2 := ⟨_, rfl⟩
  have HBS := Lib.hid hBs; clear hBs
  go_loopg [6, 17] un (fun g s6 s17 wr => ∃ (j : Nat) (v : Value), j + g = un ∧ s17 = .int .i64 j ∧ s6 = v ∧ Own wr Bs v (farTo m q wants l mu j) ∧ Bs ≤ wr.heap.size ∧ FarAt w w.heap.size (w.heap.size + 1) la ln lc wr)
  case atStart => exact ⟨0, _, by omega, rfl, rfl, by simpa [farTo, farAll] using Own.nil _ Bs, by have := HBS.out; simp; omega, HAT.out⟩
  case round =>
    clear k3
    obtain ⟨j, v, hj, rfl, rfl, hown, hbase, hat⟩ := hrel
    have HJ := Lib.hid hj; clear hj
    by_cases hlt : j < un
    · obtain ⟨i, hi⟩ : ∃ i, mu[j]? = some i := ⟨_, List.getElem?_eq_getElem (by rw [HMUL.out]; exact hlt)⟩
      have him := List.mem_of_getElem? hi
      have hib := HF.out.lt i him
      rw [HBL.out] at hib
      have hst := HS.out.below hat.below (Nat.le_refl _)
      have k3 := hst.c3
      have k4 := hst.c4
      have k5 := hst.c5
      obtain ⟨ub, uo, rfl⟩ := HS.out.must.addr (by omega)
      have ci := hst.must.cell ub uo rfl j (i : Int) (by simp [nats, hi])
      obtain ⟨wb, wo, rfl⟩ := HS.out.wants.addr (by omega)
      obtain ⟨L, hL⟩ : ∃ L, wants[i]? = some L := ⟨_, List.getElem?_eq_getElem (by rw [HWL.out]; exact hib)⟩
      have hgL : wants.getD i [] = L := by rw [List.getD_eq_getElem?_getD, hL]; rfl
      obtain ⟨na, nn, nc, cw, hni⟩ := hst.wants.row (Below.refl wr.heap.size wr) (Nat.le_refl _) (k := i) rfl (by rw [List.getElem?_map, hL]; rfl)
      have hLn := HF.out.ne i him
      rw [hgL] at hLn
      have hnl : L.length = nn := by have := hni.len; simpa [nats] using this
      have hLp := List.length_pos_iff.2 hLn
      obtain ⟨k0, hL0⟩ : ∃ k0, L[0]? = some k0 := ⟨_, List.getElem?_eq_getElem hLp⟩
      have hLd : L.getD 0 0 = k0 := by rw [List.getD_eq_getElem?_getD, hL0]; rfl
      have hk0 := HF.out.want i him k0 (by rw [hgL]; exact List.mem_of_getElem? hL0)
      obtain ⟨nb, no, rfl⟩ := hni.addr (by omega)
      have hb1 := hat.b1
      have hb2 := hat.b2
      have kb2 := hb2.cell
      have cw0 : wr.cell? ⟨nb, no, none⟩ = some (.int .i64 (k0 : Int)) := by simpa using hni.cell nb no rfl 0 (k0 : Int) (by simp [nats, hL0])
      have hLi := HL.out.below hat.below (Nat.le_refl _)
      have HCF := Lib.hid (containsI_any (some ⟨nb, no, none⟩) nn nc (nats L) 104 (.pointer (some ⟨w.heap.size + 1, 0, none⟩)) (fun x => !(nats l).contains x) wr hni (fun _ _ => enters_of Tryz.func104 (by kernel_rfl) rfl _ _)
        (fun w' x hb' => farOut_any w.heap.size (w.heap.size + 1) la ln lc l x w' (boxed_on hb1 hb').cell (boxed_on hb2 hb').cell (hLi.below hb' (Nat.le_refl _))))
      have HAL := Lib.hid (farTo_succ (m := m) (q := q) (wants := wants) (l := l) hi)
      have HAT2 := Lib.hid hat; clear hat hst hb1 hb2 hLi
      have HOWN := Lib.hid hown; clear hown
      have HGL := Lib.hid hgL; clear hgL
      have HL0 := Lib.hid hL0; clear hL0
      have HLD := Lib.hid hLd; clear hLd
      have HCW := Lib.hid cw
      have HLL := Lib.hid hL; clear hL
      have HI := Lib.hid (And.intro hi him); clear hi him
      have hnp : 0 < nn := by omega
      have HNI := Lib.hid hni; clear hni hLn hnl hLp
      cases hcf : (nats L).any (fun x => !(nats l).contains x) with
      | true =>
        have hrow : farRow m.bids q wants l i = [] := by
          unfold farRow
          rw [HGL.out, if_pos (by rw [← nats_any]; exact hcf)]
        have HRW := Lib.hid hrow; clear hrow
        have HCC := Lib.hid hcf; clear hcf
        go_wp2_with fail
        refine HCF.out.mono ?_
        rw [HCC.out]
        rintro e w2 ⟨rfl, hb2⟩
        have HB2 := Lib.hid hb2; clear hb2
        go_wp2_with fail
        go_roundg (gk - 1)
        case measure => have := HJ.out; omega
        case rel => exact ⟨j + 1, _, by have := HJ.out; omega, by go_num, rfl, by rw [HAL.out, HRW.out, List.append_nil]; exact HOWN.out.below HB2.out (Nat.le_refl _), by have := HB2.out.size; omega, HAT2.out.step HB2.out⟩
      | false =>
        have hrow : farRow m.bids q wants l i = gnOf m.bids q i k0 :: rowTo m.bids q l i (gnOf m.bids q i k0) q.length := by
          unfold farRow
          rw [HGL.out, if_neg (by rw [← nats_any, hcf]; decide), HLD.out]
          rfl
        have HRW := Lib.hid hrow; clear hrow
        have HCC := Lib.hid hcf; clear hcf
        go_wp2_with fail
        refine HCF.out.mono ?_
        rw [HCC.out]
        rintro e w2 ⟨rfl, hb2⟩
        clear k3 k4 k5 ci cw cw0 kb2
        have hat2 := HAT2.out.step hb2
        have hst2 := HS.out.below hat2.below (Nat.le_refl _)
        have k4 := hst2.c4
        have cw := cell_step hb2 HCW.out
        have cw0 : w2.cell? ⟨nb, no, none⟩ = some (.int .i64 (k0 : Int)) := by simpa using (HNI.out.below hb2 (Nat.le_refl _)).cell nb no rfl 0 (k0 : Int) (by simp [nats, HL0.out])
        obtain ⟨bid, x, y, hx1, hx2, hx3, hx4, hx5, hx6⟩ := HF.out.gn HI.out.2 hk0
        have HHS := Lib.hid (rhas_any hst2 hx1 hx2 hx3 hx4 hx5)
        rw [← hx6] at HHS
        have hG := HF.out.gnb HI.out.2 hk0
        clear hx1 hx2 hx3 hx4 hx5 hx6
        obtain ⟨G, hGe⟩ : ∃ G, G = gnOf m.bids q i k0 := ⟨_, rfl⟩
        rw [← hGe] at HHS HRW hG
        clear hGe
        obtain ⟨hG1, hG2⟩ := hG
        have hbs2 := hb2.size
        have HOWN2 := Lib.hid (HOWN.out.below hb2 (Nat.le_refl _))
        have HAT3 := Lib.hid hat2
        clear hat2 hst2 hb2 HCF HOWN HAT2
        go_wp2_with fail
        refine HHS.out.mono ?_
        rintro e w3 ⟨rfl, hb3⟩
        have hbs3 := hb3.size
        have HOWN3 := Lib.hid ((HOWN2.out.below hb3 (Nat.le_refl _)).alloc (.cells #[.int .i64 G] 3))
        have HAT4 := Lib.hid ((HAT3.out.step hb3).step ((Below.refl _ _).alloc (Nat.le_refl _) (.cells #[.int .i64 G] 3)))
        have hlen : (farTo m q wants l mu j).length < 1000 := by
          have h1 := farAll_len m.bids q wants l (mu.take j)
          have h2 := HQL.out
          have h3 := HMUL.out
          have h4 : (mu.take j).length ≤ 8 := by rw [List.length_take]; omega
          have h5 : (mu.take j).length * (q.length + 1) ≤ 8 * 9 := Nat.mul_le_mul h4 (by omega)
          unfold farTo; omega
        clear hb3 HAT3 HOWN2 k4 cw cw0
        go_wp2_with (at_builtin; refine app1 _ rfl _ _ rfl Bs _ _ rfl HOWN3.out w3.heap.size 0 1 G rfl (by simp [go_sem]) (by omega) (by simp; omega) ?_)
        intro g' cap w5 hown5 _ hb5
        have hB0 := HBS.out
        have hat5 := HAT4.out.upTo hb5 (by omega) (by omega) (by omega)
        have hst5 := HS.out.below hat5.below (Nat.le_refl _)
        have k3 := hst5.c3
        have hbs5 := hb5.size
        have HOWN5 := Lib.hid hown5
        have HAT5 := Lib.hid hat5
        clear hown5 hb5 hat5 hst5 hB0 HAT4 HOWN3
        go_wp2_with fail
        have hen := enters_of Tryz.func103 (by kernel_rfl) rfl
        obtain ⟨go, rfl⟩ : ∃ go : Nat, go = gk := ⟨_, rfl⟩
        obtain ⟨wo2, rfl⟩ : ∃ wo : World, wo = wr := ⟨_, rfl⟩
        go_loopg [6, 51] qn (fun g s6 s51 wr => ∃ (k : Nat) (v : Value), k + g = qn ∧ s51 = .int .i64 k ∧ s6 = v ∧ Own wr Bs v (farTo m q wants l mu j ++ G :: rowTo m.bids q l i G k) ∧ Bs ≤ wr.heap.size ∧ FarAt w w.heap.size (w.heap.size + 1) la ln lc wr)
        case atStart => exact ⟨0, _, by omega, rfl, rfl, HOWN5.out, by simp at hbs5; omega, HAT5.out⟩
        case round =>
          clear k3
          obtain ⟨k, v2, hk, rfl, rfl, hown, hbase2, hat⟩ := hrel
          have HK := Lib.hid hk; clear hk
          by_cases hlt2 : k < qn
          · have kb1 := hat.b1.cell
            have kb2 := hat.b2.cell
            have HIN := Lib.hid (farIn_any w.heap.size la ln lc l (k : Int) wr kb1 (HL.out.below hat.below (Nat.le_refl _)))
            have hcc := nats_contains l k
            rw [hcc] at HIN
            clear hcc kb1
            cases hct : l.contains k with
            | true =>
              have HR := Lib.hid (rowTo_in (bids := m.bids) (q := q) (i := i) (G := G) hct)
              have HCT := Lib.hid hct; clear hct
              have HAT6 := Lib.hid hat; clear hat
              have HOWN6 := Lib.hid hown; clear hown
              go_wp2_with fail
              refine HIN.out.mono ?_
              rw [HCT.out]
              rintro e w6 ⟨rfl, hb6⟩
              have hbs6 := hb6.size
              have HB6 := Lib.hid hb6; clear hb6
              go_wp2_with fail
              go_roundg (gk - 1)
              case measure => have := HK.out; omega
              case rel => exact ⟨k + 1, _, by have := HK.out; omega, by go_num, rfl, by rw [HR.out]; exact HOWN6.out.below HB6.out (Nat.le_refl _), by omega, HAT6.out.step HB6.out⟩
            | false =>
              have HR := Lib.hid (rowTo_out (bids := m.bids) (q := q) (i := i) (G := G) hct)
              have HCT := Lib.hid hct; clear hct
              have HAT6 := Lib.hid hat; clear hat
              have HOWN6 := Lib.hid hown; clear hown
              obtain ⟨bid, x, y, hx1, hx2, hx3, hx4, hx5, hx6⟩ := HF.out.gn HI.out.2 (k := k) (by rw [HQL.out]; exact hlt2)
              have HX := Lib.hid (And.intro hx1 (And.intro hx2 (And.intro hx3 (And.intro hx4 (And.intro hx5 hx6)))))
              clear hx1 hx2 hx3 hx4 hx5 hx6
              go_wp2_with fail
              refine HIN.out.mono ?_
              rw [HCT.out]
              rintro e w6 ⟨rfl, hb6⟩
              have hbs6 := hb6.size
              have HOWN7 := Lib.hid (HOWN6.out.below hb6 (Nat.le_refl _))
              have HAT7 := Lib.hid (HAT6.out.step hb6)
              have HHS := Lib.hid (rhas_any (HS.out.below HAT7.out.below (Nat.le_refl _)) HX.out.1 HX.out.2.1 HX.out.2.2.1 HX.out.2.2.2.1 HX.out.2.2.2.2.1)
              rw [← HX.out.2.2.2.2.2] at HHS
              have hH := HF.out.gnb HI.out.2 (k := k) (by rw [HQL.out]; exact hlt2)
              obtain ⟨H, hHe⟩ : ∃ H, H = gnOf m.bids q i k := ⟨_, rfl⟩
              rw [← hHe] at HHS HR hH
              clear hHe hb6 HIN HOWN6 HAT6 kb2 HX
              obtain ⟨hH1, hH2⟩ := hH
              go_wp2_with fail
              refine HHS.out.mono ?_
              rintro e w7 ⟨rfl, hb7⟩
              have hbs7 := hb7.size
              have HOWN8 := Lib.hid ((HOWN7.out.below hb7 (Nat.le_refl _)).alloc (.cells #[.int .i64 (G - H)] 3))
              have HAT8 := Lib.hid ((HAT7.out.step hb7).step ((Below.refl _ _).alloc (Nat.le_refl _) (.cells #[.int .i64 (G - H)] 3)))
              have hlen2 : (farTo m q wants l mu j ++ G :: rowTo m.bids q l i G k).length < 2000 := by
                have := rowTo_len m.bids q l i G k
                rw [List.length_append, List.length_cons]; omega
              clear hb7 HAT7 HOWN7
              go_wp2_with (at_builtin; refine app1 _ rfl _ _ rfl Bs _ _ rfl HOWN8.out w7.heap.size 0 1 (G - H) rfl (by simp [go_sem]) (by omega) (by simp; omega) ?_)
              intro g' cap w9 hown9 _ hb9
              have hB0 := HBS.out
              have HAT9 := Lib.hid (HAT8.out.upTo hb9 (by omega) (by omega) (by omega))
              have hbs9 := hb9.size
              have HOWN9 := Lib.hid hown9
              clear hown9 hb9 hB0 HAT8 HOWN8
              go_wp2_with fail
              go_roundg (gk - 1)
              case measure => have := HK.out; omega
              case rel => exact ⟨k + 1, _, by have := HK.out; omega, by go_num, rfl, by rw [HR.out]; exact HOWN9.out, by simp at hbs9; omega, HAT9.out⟩
          · obtain rfl : k = qn := by have := HK.out; omega
            have HAT6 := Lib.hid hat; clear hat
            have HOWN6 := Lib.hid hown; clear hown
            go_wp2_with fail
            go_roundg (go - 1)
            case measure => have := HJ.out; omega
            case rel => exact ⟨j + 1, _, by have := HJ.out; omega, by go_num, rfl, by rw [HAL.out, HRW.out, HQL.out]; exact HOWN6.out, hbase2, HAT6.out⟩
    · obtain rfl : j = un := by have := HJ.out; omega
      have e1 : farTo m q wants l mu j = farAll m.bids q wants l mu := by unfold farTo; rw [List.take_of_length_le (by rw [HMUL.out]; exact Nat.le_refl _)]
      rw [e1] at hown
      clear e1
      have hlen : (farAll m.bids q wants l mu).length ≤ 4611686018427387904 := by
        have h1 := farAll_len m.bids q wants l mu
        have h2 := HQL.out
        have h3 := HMUL.out
        have h5 : mu.length * (q.length + 1) ≤ 8 * 9 := Nat.mul_le_mul (by omega) (by omega)
        omega
      obtain ⟨fa, fc, hv, hfi⟩ := hown.ints hlen (fun x hx => by have := HF.out.allb x hx; omega)
      obtain ⟨fn, hfn⟩ : ∃ fn, fn = (farAll m.bids q wants l mu).length := ⟨_, rfl⟩
      rw [← hfn] at hv hfi
      subst hv
      obtain ⟨x0, xs, hxx⟩ : ∃ x0 xs, farAll m.bids q wants l mu = x0 :: xs := by
        cases hh : farAll m.bids q wants l mu with
        | nil => exact absurd hh HNE.out
        | cons x0 xs => exact ⟨_, _, rfl⟩
      rw [hxx] at hfi
      have HLE := Lib.hid (least_any fa fn fc x0 xs wr hfi)
      have HAT6 := Lib.hid hat; clear hat
      rw [foldl_lmin, ← hxx] at HLE
      clear hown hfi hxx hlen hfn
      go_wp2_with fail
      refine HLE.out.mono ?_
      rintro e w6 ⟨rfl, hb6⟩
      have HB6 := Lib.hid hb6; clear hb6
      go_wp2_with fail
      go_ret
      exact ⟨rfl, (HAT6.out.step HB6.out).below⟩
end Go.Proofs.YtbnjeegicbffeaaGreat
