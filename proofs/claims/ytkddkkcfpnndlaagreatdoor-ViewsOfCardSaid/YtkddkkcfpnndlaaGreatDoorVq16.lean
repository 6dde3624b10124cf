/- Walks: markets.Gains. The markets of the chapters' examples, as the laws' texts make them. -/
import Derived.Test.YtkddkkcfpnndlaaGreatDoorVq13
import Derived.Test.YtkddkkcfpnndlaaGreatDoorVq15
import Derived.BigRegion
namespace Go.Proofs.YtkddkkcfpnndlaaGreatDoor
open Go.RowKit

/-- the world behind the copy of a market -/
def mw (w : World) (ra ba oa : Option Addr) (rn rc bn bc on oc : Nat) : World := w.alloc (.cells #[.slice ra rn rc, .slice ba bn bc, .slice oa on oc] 57)
theorem mw_kept {w w1 : World} {ra ba oa : Option Addr} {rn rc bn bc on oc : Nat} (hb : Below (w.heap.size + 1) (mw w ra ba oa rn rc bn bc on oc) w1) :
    w1.cell? ⟨w.heap.size, 0, none⟩ = some (.slice ra rn rc) ∧ w1.cell? ⟨w.heap.size, 1, none⟩ = some (.slice ba bn bc) ∧ w1.cell? ⟨w.heap.size, 2, none⟩ = some (.slice oa on oc) ∧ w.heap.size < w1.heap.size ∧ Below w.heap.size w w1 := by
  have hs : (mw w ra ba oa rn rc bn bc on oc).heap.size = w.heap.size + 1 := by simp [mw]
  have h0 := hb.size
  refine ⟨?_, ?_, ?_, by omega, ((Below.refl w.heap.size w).alloc (Nat.le_refl _) _).trans (hb.mono (by omega))⟩
  · rw [hb.cell (p := ⟨w.heap.size, 0, none⟩) (by simp)]; simp [mw, go_sem]
  · rw [hb.cell (p := ⟨w.heap.size, 1, none⟩) (by simp)]; simp [mw, go_sem]
  · rw [hb.cell (p := ⟨w.heap.size, 2, none⟩) (by simp)]; simp [mw, go_sem]
theorem mw_start (w : World) (ra ba oa : Option Addr) (rn rc bn bc on oc : Nat) : Below (w.heap.size + 1) (mw w ra ba oa rn rc bn bc on oc) (mw w ra ba oa rn rc bn bc on oc) := Below.refl _ _
theorem mw_below {w w1 w2 : World} {ra ba oa : Option Addr} {rn rc bn bc on oc : Nat} (h : Below (w.heap.size + 1) (mw w ra ba oa rn rc bn bc on oc) w1) {B : Nat} (h2 : Below B w1 w2) (hB : w.heap.size + 1 ≤ B) : Below (w.heap.size + 1) (mw w ra ba oa rn rc bn bc on oc) w2 :=
  h.trans (h2.mono hB)
theorem mw_below' {w w1 w2 : World} {ra ba oa : Option Addr} {rn rc bn bc on oc : Nat} (h : Below (w.heap.size + 1) (mw w ra ba oa rn rc bn bc on oc) w1) (h2 : Below w1.heap.size w1 w2) : Below (w.heap.size + 1) (mw w ra ba oa rn rc bn bc on oc) w2 :=
  h.trans (h2.mono (by have := h.size; simp [mw] at this; omega))

/-- a market in memory -/
structure MktAt (w : World) (ra ba oa : Option Addr) (rn rc bn bc on oc : Nat) (m : Mkt) : Prop where
  res : Ints w ra rn rc m.res
  bids : Rows w ba bn bc m.bids
  ord : Ints w oa on oc m.ord
theorem MktAt.below {w w' : World} {ra ba oa : Option Addr} {rn rc bn bc on oc : Nat} {m : Mkt} (h : MktAt w ra ba oa rn rc bn bc on oc m) {B : Nat} (hb : Below B w w') (hB : w.heap.size ≤ B) : MktAt w' ra ba oa rn rc bn bc on oc m :=
  ⟨h.res.below hb hB, h.bids.below hb hB, h.ord.below hb hB⟩

/-- a row, its first k entries made -/
def partRow (res bid : List Int) (k : Nat) : List Int := tabN res.length fun j => if j < k then (if bid = [] then -1 else bid.getD j 0 - res.getD j 0) else 0
theorem partRow_zero (res bid : List Int) : partRow res bid 0 = List.replicate res.length 0 := by
  unfold partRow tabN
  apply List.ext_getElem?
  intro j
  by_cases hj : j < res.length <;> simp [hj]
theorem partRow_all (res bid : List Int) : partRow res bid res.length = gainRow res bid := by
  unfold gainRow
  exact tabN_congr fun j hj => by rw [if_pos hj]
theorem partRow_set {res bid : List Int} {k : Nat} (v : Int) (hv : (if bid = [] then -1 else bid.getD k 0 - res.getD k 0) = v) : (partRow res bid k).set k v = partRow res bid (k + 1) := by
  unfold partRow
  rw [tabN_set]
  refine tabN_congr fun j hj => ?_
  by_cases e : j = k
  · subst e; rw [if_pos rfl, if_pos (by omega), hv]
  · rw [if_neg e]
    by_cases h : j < k
    · rw [if_pos h, if_pos (show j < k + 1 by omega)]
    · rw [if_neg h, if_neg (show ¬ j < k + 1 by omega)]
theorem partRow_length (res bid : List Int) (k : Nat) : (partRow res bid k).length = res.length := tabN_length _ _

set_option maxRecDepth 100000 in
set_option maxHeartbeats 2000000 in
theorem Gains_made (ra ba oa : Option Addr) (rn rc bn bc on oc : Nat) (m : Mkt) (w : World) (hm : MktAt w ra ba oa rn rc bn bc on oc m) (hc : mcheck m = true) :
    Calls Tryz.prog 117 #[.agg #[.slice ra rn rc, .slice ba bn bc, .slice oa on oc]] w fun e w' => ∃ B vals, e = .returned (.tuple #[.slice (some ⟨B, 0, none⟩) bn bn, .int .i64 0]) ∧ Made w' B w.heap.size w'.heap.size bn (gainsM m) vals ∧ Below w.heap.size w w' := by
  have hok := mcheck_ok hc
  have hrl := hm.res.len
  have hbl := hm.bids.len
  have hn1 := hok.n1
  have hn8 := hok.n8
  have hm1 := hok.m1
  have hm8 := hok.m8
  rw [hrl] at hn1 hn8
  rw [hbl] at hm1 hm8
  have HRL := Lib.hid hrl; clear hrl
  have HBL := Lib.hid hbl; clear hbl
  have HOK := Lib.hid hok; clear hok
  have HC := Lib.hid hc; clear hc
  have HB0 := Lib.hid (mw_start w ra ba oa rn rc bn bc on oc)
  have HM := Lib.hid hm; clear hm
  have hmA := HM.out.below (mw_kept HB0.out).2.2.2.2 (Nat.le_refl _)
  have HK := Lib.hid (mcheck_any ra ba oa rn rc bn bc on oc m (mw w ra ba oa rn rc bn bc on oc) hmA.res hmA.bids hmA.ord)
  clear hmA
  obtain ⟨bb, bo, rfl⟩ := HM.out.bids.addr (by omega)
  obtain ⟨rb, ro, rfl⟩ := HM.out.res.addr (by omega)
  have hmkB := mkRows bn (by omega)
  have hmkR := mkInts rn (by omega)
  go_enter Tryz.func117, Tryz.ntmps117
  go_wp2_with fail
  refine HK.out.mono ?_
  rw [HC.out]
  rintro e w1 ⟨rfl, hb⟩
  have HB1 := Lib.hid (mw_below' HB0.out hb); clear hb HK
  obtain ⟨c0, c1, _, hs1, hbw1⟩ := mw_kept HB1.out
  have HBW1 := Lib.hid hbw1; clear hbw1
  have HMS := Lib.hid (Made.start w1 bn)
  have HBA := Lib.hid (mw_below HB1.out ((Below.refl w1.heap.size w1).alloc (Nat.le_refl _) (.cells (List.replicate bn (Value.slice none 0 0)).toArray 25)) (by omega))
  go_wp2_with fail
  clear c0 c1
  go_loopg [19] bn (fun g' s19 wr => ∃ (i : Nat) (vals : List Value), i + g' = bn ∧ s19 = .int .i64 i ∧ Made wr w1.heap.size w1.heap.size wr.heap.size bn ((gainsM m).take i) vals ∧ Below (w.heap.size + 1) (mw w (some ⟨rb, ro, none⟩) (some ⟨bb, bo, none⟩) oa rn rc bn bc on oc) wr)
  case atStart => exact ⟨0, _, by omega, rfl, by simpa using HMS.out, HBA.out⟩
  case round =>
    obtain ⟨i, vals, hi, rfl, hMd, hB⟩ := hrel
    obtain ⟨c0, c1, _, hs2, hbw⟩ := mw_kept hB
    have HI := Lib.hid hi; clear hi
    have HB := Lib.hid hB; clear hB
    have HBW := Lib.hid hbw; clear hbw
    have hgl : ((gainsM m).take i).length = i := by rw [List.length_take, gainsM_length]; have := HBL.out; have := HI.out; omega
    by_cases hlt : i < bn
    · obtain ⟨bid, hbid⟩ := HM.out.bids.get hlt
      obtain ⟨la, ln, lc, hcl, hli⟩ := HM.out.bids.row HBW.out (Nat.le_refl _) (b := bb) (o := bo) (k := i) rfl hbid
      have hBo := hMd.hi
      have hvl := hMd.len
      obtain ⟨v0, hv0⟩ : ∃ v0, vals[i]? = some v0 := ⟨_, List.getElem?_eq_getElem (by omega)⟩
      have hcv := hMd.row.cell hv0
      have hfv := hMd.row.frozen i
      -- the row is made and put
      have hMd1 := (hMd.set (i := i) (by omega) (.slice (some ⟨wr.heap.size, 0, none⟩) rn rn)).alloc (.cells (iarr (List.replicate rn 0)) 3)
      have hrow1 := Row.new' (wr.setCell ⟨w1.heap.size, i, none⟩ (.slice (some ⟨wr.heap.size, 0, none⟩) rn rn)) 3 (List.replicate rn 0) (B := wr.heap.size) (by simp)
      have hB1 := mw_below HB.out (((Below.refl (w.heap.size + 1) wr).setCell (p := ⟨w1.heap.size, i, none⟩) (by simp; omega) (.slice (some ⟨wr.heap.size, 0, none⟩) rn rn)).alloc (by simp; omega) (.cells (iarr (List.replicate rn 0)) 3)) (Nat.le_refl _)
      have hvl1 : i < vals.length := by omega
      have HMD1 := Lib.hid hMd1; clear hMd1
      have HROW1 := Lib.hid hrow1; clear hrow1
      have HBB1 := Lib.hid hB1; clear hB1
      have HV0 := Lib.hid hv0; clear hv0
      have HLI := Lib.hid hli; clear hli
      have HBID := Lib.hid hbid; clear hbid
      have HGL := Lib.hid hgl; clear hgl
      have HVL := Lib.hid hvl; clear hvl
      have HMD0 := Lib.hid hMd; clear hMd
      go_wp2_with fail
      obtain ⟨wo, rfl⟩ : ∃ wo : World, wo = wr := ⟨_, rfl⟩
      obtain ⟨go, rfl⟩ : ∃ go : Nat, go = gk := ⟨_, rfl⟩
      have hz : rn = m.res.length := HRL.out.symm
      go_loopg [34] rn (fun g' s34 wr => ∃ (k : Nat), k + g' = rn ∧ s34 = .int .i64 k ∧ Made wr w1.heap.size w1.heap.size wo.heap.size bn ((gainsM m).take i) (vals.set i (.slice (some ⟨wo.heap.size, 0, none⟩) rn rn)) ∧ Row wr wo.heap.size 3 (partRow m.res bid k) ∧ Below (w.heap.size + 1) (mw w (some ⟨rb, ro, none⟩) (some ⟨bb, bo, none⟩) oa rn rc bn bc on oc) wr ∧ wo.heap.size < wr.heap.size)
      case atStart => exact ⟨0, by omega, rfl, HMD1.out, by rw [partRow_zero, ← hz]; exact HROW1.out, HBB1.out, by simp⟩
      case round =>
        obtain ⟨k, hk, rfl, hMd, hRow, hB, hsz⟩ := hrel
        obtain ⟨c0, c1, _, hs2, hbw⟩ := mw_kept hB
        have HK := Lib.hid hk; clear hk
        by_cases hltk : k < rn
        · obtain ⟨x, hx, hxb⟩ := HM.out.res.get hltk
          have cx := (HM.out.res.below hbw (Nat.le_refl _)).cell rb ro rfl k x hx
          have hx6 := HOK.out.res x (List.mem_of_getElem? hx)
          have hcs := hMd.row.cell (k := i) (v := .slice (some ⟨wo.heap.size, 0, none⟩) rn rn) (by simp [hvl1])
          have hold := hRow.cell (k := k) (x := 0) (by unfold partRow; rw [tabN_get _ (by omega), if_neg (by omega)])
          have hfr := hRow.frozen k
          have hrest : m.res.getD k 0 = x := by rw [List.getD_eq_getElem?_getD, hx]; rfl
          have HREST := Lib.hid hrest; clear hrest
          have HMD := Lib.hid hMd; clear hMd
          have HROW := Lib.hid hRow; clear hRow
          have HBN := Lib.hid hB; clear hB
          have HBW2 := Lib.hid hbw; clear hbw
          have HX := Lib.hid hx; clear hx
          obtain ⟨hx1, hx2⟩ := hx6
          clear hz hxb
          by_cases hl0 : 0 < ln
          · have hne : bid ≠ [] := fun e => by have := HLI.out.len; rw [e] at this; simp at this; omega
            have hln : ln = rn := by
              rcases HOK.out.bid bid (List.mem_of_getElem? HBID.out) with e | ⟨e, _⟩
              · exact absurd e hne
              · have := HLI.out.len; have := HRL.out; omega
            have HNE := Lib.hid hne; clear hne
            subst hln
            obtain ⟨y, hy, _⟩ := HLI.out.get hltk
            obtain ⟨lb, lo, rfl⟩ := HLI.out.addr (by omega)
            have cy := (HLI.out.below HBW2.out (Nat.le_refl _)).cell lb lo rfl k y hy
            have hy6 : 0 ≤ y ∧ y ≤ 1000000 := by
              rcases HOK.out.bid bid (List.mem_of_getElem? HBID.out) with e | ⟨_, e⟩
              · exact absurd e HNE.out
              · exact e y (List.mem_of_getElem? hy)
            have hlb : lb < w.heap.size := by
              have := block_lt_of_cell (HLI.out.cell lb lo rfl k y hy); simpa using this
            have hbidt : bid.getD k 0 = y := by rw [List.getD_eq_getElem?_getD, hy]; rfl
            have HBT := Lib.hid hbidt; clear hbidt
            have HY := Lib.hid hy; clear hy
            obtain ⟨hy1, hy2⟩ := hy6
            have hws : w.heap.size < wo.heap.size := by have := (mw_kept HB.out).2.2.2.1; omega
            have cy1 : (wr.setCell ⟨wo.heap.size, k, none⟩ (.int .i64 (-1))).cell? ⟨lb, lo + k, none⟩ = some (.int .i64 y) := by
              rw [World.cell?_setCell_far _ _ _ _ (by simp; omega)]; exact cy
            have hcs1 : (wr.setCell ⟨wo.heap.size, k, none⟩ (.int .i64 (-1))).cell? ⟨w1.heap.size, i, none⟩ = some (.slice (some ⟨wo.heap.size, 0, none⟩) ln ln) := by
              rw [World.cell?_setCell_far _ _ _ _ (by simp; omega)]; exact hcs
            have hrow2 := HROW.out.set k (-1)
            have hold1 := hrow2.cell (k := k) (x := -1) (by rw [List.getElem?_set_self (by rw [partRow_length]; have := HRL.out; omega)])
            have hfr1 := hrow2.frozen k
            have HROW2 := Lib.hid hrow2; clear hrow2
            go_wp2_with fail
            go_region
            go_wp2_with fail
            go_roundg (gk - 1)
            case measure => have := HK.out; omega
            case rel =>
              refine ⟨k + 1, by have := HK.out; omega, by go_num, ((HMD.out.other (by simp) _).other (by simp) _).drew, ?_, mw_below HBN.out ((((Below.refl (w.heap.size + 1) wr).setCell (by simp; omega) _).setCell (by simp; omega) _).drew) (Nat.le_refl _), by simp; omega⟩
              rw [← partRow_set (res := m.res) (bid := bid) (k := k) (y - x) (by rw [if_neg HNE.out, HBT.out, HREST.out])]
              have h2 := HROW2.out.set k (y - x)
              rw [List.set_set] at h2
              exact h2.drew
          · obtain rfl : ln = 0 := by omega
            have hne : bid = [] := List.eq_nil_of_length_eq_zero HLI.out.len
            have hset := partRow_set (res := m.res) (bid := bid) (k := k) (-1) (by rw [if_pos hne])
            have HSET := Lib.hid hset; clear hset
            have HNE := Lib.hid hne; clear hne
            go_wp2_with fail
            go_roundg (gk - 1)
            case measure => have := HK.out; omega
            case rel => exact ⟨k + 1, by have := HK.out; omega, by go_num, HMD.out.other (by simp) _, by rw [← HSET.out]; exact HROW.out.set k (-1), mw_below HBN.out ((Below.refl (w.heap.size + 1) wr).setCell (by simp; omega) _) (Nat.le_refl _), by simp; omega⟩
        · obtain rfl : k = rn := by have := HK.out; omega
          rw [hz, partRow_all] at hRow
          have hgr : (gainsM m)[i]? = some (gainRow m.res bid) := by unfold gainsM; rw [List.getElem?_map, HBID.out]; rfl
          have hri := hRow.ints (by rw [gainRow_length]; omega) (fun x hx => by
            have := HOK.out.rows.2 _ (List.mem_of_getElem? hgr) x hx; omega)
          rw [gainRow_length, ← hz] at hri
          have hpush := hMd.push (xs := gainRow m.res bid) (top' := wr.heap.size) (by omega) (a := some ⟨wo.heap.size, 0, none⟩) (c := k) (by rw [HGL.out, gainRow_length, ← hz]; simp [hvl1]) (by rw [gainRow_length, ← hz]; exact hri) (fun _ b o e => by cases e; omega)
          rw [show (gainsM m).take i ++ [gainRow m.res bid] = (gainsM m).take (i + 1) by rw [List.take_add_one, hgr]; rfl] at hpush
          have HPUSH := Lib.hid hpush; clear hpush hgr hri hRow hMd
          have HBN := Lib.hid hB; clear hB
          clear hz hbw
          go_wp2_with fail
          go_roundg (go - 1)
          case measure => have := HI.out; omega
          case rel => exact ⟨i + 1, _, by have := HI.out; omega, by go_num, HPUSH.out, HBN.out⟩
    · obtain rfl : i = bn := by have := HI.out; omega
      have HMD0 := Lib.hid hMd; clear hMd
      rw [List.take_of_length_le (by rw [gainsM_length, HBL.out]; exact Nat.le_refl _)] at HMD0
      go_wp2_with fail
      go_ret2
      exact ⟨_, vals, rfl, HMD0.out.lower HBW1.out.size, HBW.out⟩

theorem Gains_yes (ra ba oa : Option Addr) (rn rc bn bc on oc : Nat) (m : Mkt) (w : World) (hm : MktAt w ra ba oa rn rc bn bc on oc m) (hc : mcheck m = true) :
    Calls Tryz.prog 117 #[.agg #[.slice ra rn rc, .slice ba bn bc, .slice oa on oc]] w fun e w' => ∃ a, e = .returned (.tuple #[.slice a bn bn, .int .i64 0]) ∧ Rows w' a bn bn (gainsM m) ∧ Below w.heap.size w w' := by
  refine (Gains_made ra ba oa rn rc bn bc on oc m w hm hc).mono ?_
  rintro e w' ⟨B, vals, rfl, hM, hb⟩
  exact ⟨_, rfl, hM.rows (by rw [gainsM_length]; exact hm.bids.len) hm.bids.big, hb⟩
end Go.Proofs.YtkddkkcfpnndlaaGreatDoor

namespace Go.Proofs.YtkddkkcfpnndlaaGreatDoor
open Go.RowKit

def m1 : Mkt := ⟨[2], [[9], [5]], [0, 1]⟩
/-- the world in which it is made -/
def m1w (w : World) : World := (((((w.alloc (.cells #[.int .i64 2] 3)).alloc (.cells #[.int .i64 9] 3)).alloc (.cells #[.int .i64 5] 3)).alloc (.cells #[.slice (some ⟨w.heap.size + 1, 0, none⟩) 1 1, .slice (some ⟨w.heap.size + 1 + 1, 0, none⟩) 1 1] 25)).alloc (.cells #[.int .i64 0, .int .i64 1] 3)).alloc
  (.cells #[.slice (some ⟨w.heap.size, 0, none⟩) 1 1, .slice (some ⟨w.heap.size + 1 + 1 + 1, 0, none⟩) 2 2, .slice (some ⟨w.heap.size + 1 + 1 + 1 + 1, 0, none⟩) 2 2] 57)
structure M1At (w W : World) : Prop where
  mkt : MktAt W (some ⟨w.heap.size, 0, none⟩) (some ⟨w.heap.size + 1 + 1 + 1, 0, none⟩) (some ⟨w.heap.size + 1 + 1 + 1 + 1, 0, none⟩) 1 1 2 2 2 2 m1
  row : VRow W (w.heap.size + 1 + 1 + 1 + 1 + 1) 57 [.slice (some ⟨w.heap.size, 0, none⟩) 1 1, .slice (some ⟨w.heap.size + 1 + 1 + 1, 0, none⟩) 2 2, .slice (some ⟨w.heap.size + 1 + 1 + 1 + 1, 0, none⟩) 2 2]
  below : Below w.heap.size w W
theorem M1At.step {w W W' : World} (h : M1At w W) (hb : Below W.heap.size W W') : M1At w W' :=
  ⟨h.mkt.below hb (Nat.le_refl _), h.row.below hb h.row.lt, h.below.trans (hb.mono h.below.size)⟩

/-- rows of a table that is made of lists of integers -/
theorem rows_lit {W : World} {B n : Nat} {vals : List Value} {xss : List (List Int)} (hV : VRow W B 25 vals) (hl : vals.length = n) (hn : xss.length = n) (hb : n ≤ 100)
    (h : ∀ (i : Nat) (xs : List Int), xss[i]? = some xs → ∃ (a : Option Addr) (c : Nat), vals[i]? = some (Value.slice a xs.length c) ∧ Ints W a xs.length c xs) : Rows W (some ⟨B, 0, none⟩) n n xss := by
  have := hV.rows (xss := xss) (by omega) fun i xs hi => by
    obtain ⟨a, c, h1, h2⟩ := h i xs hi
    exact ⟨a, xs.length, c, h1, h2⟩
  rwa [hn] at this

theorem row_lit {W : World} {B : Nat} {xs : List Int} {n : Nat} (h : Row W B 3 xs) (hn : xs.length = n) (hb : n ≤ 100) (hx : ∀ x, x ∈ xs → -1000 ≤ x ∧ x ≤ 1000) : Ints W (some ⟨B, 0, none⟩) n n xs := by
  have := h.ints (by omega) (fun x h => by have := hx x h; omega)
  rwa [hn] at this

theorem m1_at (w : World) : M1At w (m1w w) := by
  have hB : Below w.heap.size w (m1w w) := (((((Below.refl _ w).alloc (Nat.le_refl _) _).alloc (by simp) _).alloc (by simp; omega) _).alloc (by simp; omega) _).alloc (by simp; omega) _ |>.alloc (by simp; omega) _
  have r0 : Row (m1w w) w.heap.size 3 [2] := (((((Row.new w 3 [2]).alloc _).alloc _).alloc _).alloc _).alloc _
  have r1 : Row (m1w w) (w.heap.size + 1) 3 [9] := ((((Row.new' (w.alloc (.cells #[.int .i64 2] 3)) 3 [9] (by simp)).alloc _).alloc _).alloc _).alloc _
  have r2 : Row (m1w w) (w.heap.size + 1 + 1) 3 [5] := (((Row.new' ((w.alloc (.cells #[.int .i64 2] 3)).alloc (.cells #[.int .i64 9] 3)) 3 [5] (by simp)).alloc _).alloc _).alloc _
  have r4 : Row (m1w w) (w.heap.size + 1 + 1 + 1 + 1) 3 [0, 1] := (Row.new' _ 3 [0, 1] (by simp)).alloc _
  have v3 : VRow (m1w w) (w.heap.size + 1 + 1 + 1) 25 [.slice (some ⟨w.heap.size + 1, 0, none⟩) 1 1, .slice (some ⟨w.heap.size + 1 + 1, 0, none⟩) 1 1] := by
    have h := VRow.new (((w.alloc (.cells #[.int .i64 2] 3)).alloc (.cells #[.int .i64 9] 3)).alloc (.cells #[.int .i64 5] 3)) 25 [.slice (some ⟨w.heap.size + 1, 0, none⟩) 1 1, .slice (some ⟨w.heap.size + 1 + 1, 0, none⟩) 1 1]
    rw [show (((w.alloc (.cells #[.int .i64 2] 3)).alloc (.cells #[.int .i64 9] 3)).alloc (.cells #[.int .i64 5] 3)).heap.size = w.heap.size + 1 + 1 + 1 by simp] at h
    exact (h.alloc _).alloc _
  refine ⟨⟨row_lit r0 rfl (by omega) (by decide), rows_lit v3 rfl rfl (by omega) fun i xs hi => ?_, row_lit r4 rfl (by omega) (by decide)⟩, ?_, hB⟩
  · match i, hi with
    | 0, hi => cases hi; exact ⟨_, _, rfl, row_lit r1 rfl (by decide) (by decide)⟩
    | 1, hi => cases hi; exact ⟨_, _, rfl, row_lit r2 rfl (by decide) (by decide)⟩
  · have h := VRow.new (((((w.alloc (.cells #[.int .i64 2] 3)).alloc (.cells #[.int .i64 9] 3)).alloc (.cells #[.int .i64 5] 3)).alloc (.cells #[.slice (some ⟨w.heap.size + 1, 0, none⟩) 1 1, .slice (some ⟨w.heap.size + 1 + 1, 0, none⟩) 1 1] 25)).alloc (.cells #[.int .i64 0, .int .i64 1] 3)) 57 [.slice (some ⟨w.heap.size, 0, none⟩) 1 1, .slice (some ⟨w.heap.size + 1 + 1 + 1, 0, none⟩) 2 2, .slice (some ⟨w.heap.size + 1 + 1 + 1 + 1, 0, none⟩) 2 2]
    rw [show (((((w.alloc (.cells #[.int .i64 2] 3)).alloc (.cells #[.int .i64 9] 3)).alloc (.cells #[.int .i64 5] 3)).alloc (.cells #[.slice (some ⟨w.heap.size + 1, 0, none⟩) 1 1, .slice (some ⟨w.heap.size + 1 + 1, 0, none⟩) 1 1] 25)).alloc (.cells #[.int .i64 0, .int .i64 1] 3)).heap.size = w.heap.size + 1 + 1 + 1 + 1 + 1 by simp] at h
    exact h

end Go.Proofs.YtkddkkcfpnndlaaGreatDoor
