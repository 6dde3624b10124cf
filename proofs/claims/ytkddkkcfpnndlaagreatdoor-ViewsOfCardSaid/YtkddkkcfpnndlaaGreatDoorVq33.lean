/- Walks: demands.All. -/
import Derived.Test.YtkddkkcfpnndlaaGreatDoorVq32
import Derived.Test.YtkddkkcfpnndlaaGreatDoorVq16
namespace Go.Proofs.YtkddkkcfpnndlaaGreatDoor
open Go.RowKit Go.Shelf

attribute [local go_sem] Oper.semAt_some
theorem infoBool : (Tryz.prog.info? 4).map (fun i => (i.zero, i.size, i.bytes)) = some (some (.bool false), 1, 1) := by kernel_rfl
/-- 'make([]bool, n)' -/
theorem mkBools (c : Nat) (hc : c ≤ 1000000) (w : World) : (Instr.makeSlice 222 (.int .i64 (c : Int)) (.int .i64 (c : Int))).run Tryz.prog w = .ok (.slice (some ⟨w.heap.size, 0, none⟩) c c) (w.alloc (.cells (List.replicate c (Value.bool false)).toArray 4)) := by
  obtain ⟨i0, hi, hz0, hz1, hz2⟩ := info_parts infoBool
  have h := run_make (P := Tryz.prog) w 222 4 i0 _ Tryz.underlying222 hi hz0 .i64 .i64 c c (by omega) (by omega) (by rw [hz2]; omega) (by omega)
  rw [hz1] at h
  have e : madeCells (Value.bool false).cells (c * 1) = (List.replicate c (Value.bool false)).toArray := by
    apply Array.ext'
    rw [show (Value.bool false).cells = #[.bool false] from rfl, toList_madeCells_one]
    simp
  rw [Int.toNat_natCast, e] at h
  exact h

/-- a table of lists that is filled, list by list; the lists lie from lo on, the table below -/
structure Filled (w : World) (B lo n : Nat) (xss : List (List Int)) (vals : List Value) : Prop where
  row : VRow w B 25 vals
  len : vals.length = n
  blt : B < lo
  done : ∀ (j : Nat) (xs : List Int), xss[j]? = some xs → ∃ (a : Option Addr) (c : Nat), vals[j]? = some (Value.slice a xs.length c) ∧ Ints w a xs.length c xs ∧ (0 < xs.length → ∀ b o : Nat, a = some ⟨b, o, none⟩ → lo ≤ b)
theorem Filled.under {w : World} {B lo n : Nat} {xss : List (List Int)} {vals : List Value} (h : Filled w B lo n xss vals) {p : Addr} (hp : p.block < lo) (hB : p.block ≠ B) (u : Value) : Filled (w.setCell p u) B lo n xss vals := by
  refine ⟨?_, h.len, h.blt, fun j xs hj => ?_⟩
  · unfold VRow; rw [heap_setCell_other w p B u (fun e => hB e.symm)]; exact h.row
  · obtain ⟨a, c, h1, h2, h3⟩ := h.done j xs hj
    exact ⟨a, c, h1, h2.far (fun hn b o e => by have := h3 hn b o e; omega) u, h3⟩
theorem Filled.below {w w' : World} {B lo n B' : Nat} {xss : List (List Int)} {vals : List Value} (h : Filled w B lo n xss vals) (hb : Below B' w w') (ht : w.heap.size ≤ B') : Filled w' B lo n xss vals := by
  refine ⟨h.row.below hb (Nat.lt_of_lt_of_le h.row.lt ht), h.len, h.blt, fun j xs hj => ?_⟩
  obtain ⟨a, c, h1, h2, h3⟩ := h.done j xs hj
  exact ⟨a, c, h1, h2.below hb ht, h3⟩
theorem Filled.grown {w w' : World} {B lo n top : Nat} {xss : List (List Int)} {vals : List Value} (h : Filled w B lo n xss vals) (hb : Below top w w') (hB : B < top) (ht : ∀ (j : Nat) (xs : List Int), xss[j]? = some xs → ∀ a c, vals[j]? = some (Value.slice a xs.length c) → 0 < xs.length → ∀ b o : Nat, a = some ⟨b, o, none⟩ → b < top) : Filled w' B lo n xss vals := by
  refine ⟨h.row.below hb hB, h.len, h.blt, fun j xs hj => ?_⟩
  obtain ⟨a, c, h1, h2, h3⟩ := h.done j xs hj
  exact ⟨a, c, h1, h2.upTo hb (fun hn b o e => ht j xs hj a c h1 hn b o e), h3⟩
/-- one more -/
theorem Filled.put {w : World} {B lo n : Nat} {xss : List (List Int)} {vals : List Value} (h : Filled w B lo n xss vals) {i : Nat} (hi : i = xss.length) (hn : i < n) {a : Option Addr} {c : Nat} {xs : List Int} (hI : Ints w a xs.length c xs) (hlo : 0 < xs.length → ∀ b o : Nat, a = some ⟨b, o, none⟩ → lo ≤ b) :
    Filled (w.setCell ⟨B, i, none⟩ (.slice a xs.length c)) B lo n (xss ++ [xs]) (vals.set i (.slice a xs.length c)) := by
  refine ⟨h.row.set i _, by rw [List.length_set]; exact h.len, h.blt, fun j ys hj => ?_⟩
  have hblt := h.blt
  have hl := h.len
  by_cases e : j < xss.length
  · rw [List.getElem?_append_left e] at hj
    obtain ⟨a', c', h1, h2, h3⟩ := h.done j ys hj
    exact ⟨a', c', by rw [List.getElem?_set_ne (by omega)]; exact h1, h2.far (fun hn b o e => by have := h3 hn b o e; show b ≠ B; omega) _, h3⟩
  · have : j = xss.length := by have := (List.getElem?_eq_some_iff.1 hj).1; simp at this; omega
    subst this
    rw [List.getElem?_append_right (Nat.le_refl _), Nat.sub_self] at hj
    cases hj
    exact ⟨a, c, by rw [hi, List.getElem?_set_self (by omega)], hI.far (fun hn b o e => by have := hlo hn b o e; show b ≠ B; omega) _, hlo⟩
/-- one is none -/
theorem Filled.clear {w : World} {B lo n : Nat} {xss : List (List Int)} {vals : List Value} (h : Filled w B lo n xss vals) {i : Nat} (hn : i < n) : Filled (w.setCell ⟨B, i, none⟩ (.slice none 0 0)) B lo n (xss.set i []) (vals.set i (.slice none 0 0)) := by
  refine ⟨h.row.set i _, by rw [List.length_set]; exact h.len, h.blt, fun j ys hj => ?_⟩
  have hblt := h.blt
  have hl := h.len
  by_cases e : i = j
  · subst e
    have hlt : i < xss.length := by have := (List.getElem?_eq_some_iff.1 hj).1; simpa using this
    rw [List.getElem?_set_self hlt] at hj
    cases hj
    exact ⟨none, 0, by rw [List.getElem?_set_self (by omega)]; rfl, Ints.empty _ _ _, fun h => by simp at h⟩
  · rw [List.getElem?_set_ne e] at hj
    obtain ⟨a', c', h1, h2, h3⟩ := h.done j ys hj
    exact ⟨a', c', by rw [List.getElem?_set_ne e]; exact h1, h2.far (fun hn b o e => by have := h3 hn b o e; show b ≠ B; omega) _, h3⟩
theorem Filled.rows {w : World} {B lo n : Nat} {xss : List (List Int)} {vals : List Value} (h : Filled w B lo n xss vals) (hn : xss.length = n) (hbig : n ≤ 4611686018427387904) : Rows w (some ⟨B, 0, none⟩) n n xss := by
  have := h.row.rows (xss := xss) (by omega) fun j xs hj => by
    obtain ⟨a, c, h1, h2, _⟩ := h.done j xs hj
    exact ⟨a, xs.length, c, h1, h2⟩
  rwa [hn] at this

def demItems (m : Mkt) (prices : List Int) : List (List Int) := m.bids.map fun b => nats (demOf b prices).1
def demNone (m : Mkt) (prices : List Int) : List Value := m.bids.map fun b => .bool ((demOf b prices).2 == 0)

/-- the two tables, new -/
theorem two_a (w2 : World) (bn : Nat) : Filled ((w2.alloc (.cells (Array.replicate bn (Value.slice none 0 0)) 25)).alloc (.cells (Array.replicate bn (Value.bool false)) 4)).drew w2.heap.size (w2.heap.size + 2) bn [] (List.replicate bn (.slice none 0 0)) ∧
    VRow ((w2.alloc (.cells (Array.replicate bn (Value.slice none 0 0)) 25)).alloc (.cells (Array.replicate bn (Value.bool false)) 4)).drew (w2.heap.size + 1) 4 (List.replicate bn (.bool false)) ∧
    Below w2.heap.size w2 ((w2.alloc (.cells (Array.replicate bn (Value.slice none 0 0)) 25)).alloc (.cells (Array.replicate bn (Value.bool false)) 4)).drew ∧ ((w2.alloc (.cells (Array.replicate bn (Value.slice none 0 0)) 25)).alloc (.cells (Array.replicate bn (Value.bool false)) 4)).drew.heap.size = w2.heap.size + 2 := by
  rw [← List.toArray_replicate, ← List.toArray_replicate]
  refine ⟨⟨((VRow.new w2 _ _).alloc _).drew, by simp, by omega, fun j xs hj => by simp at hj⟩, ?_, (((Below.refl _ _).alloc (Nat.le_refl _) _).alloc (by simp) _).drew, by simp⟩
  have := VRow.new (w2.alloc (.cells (List.replicate bn (Value.slice none 0 0)).toArray 25)) 4 (List.replicate bn (.bool false))
  rw [World.size_alloc] at this
  exact this.drew
theorem two_b (w2 : World) (bn : Nat) : Filled ((w2.alloc (.cells (Array.replicate bn (Value.bool false)) 4)).alloc (.cells (Array.replicate bn (Value.slice none 0 0)) 25)).drew (w2.heap.size + 1) (w2.heap.size + 2) bn [] (List.replicate bn (.slice none 0 0)) ∧
    VRow ((w2.alloc (.cells (Array.replicate bn (Value.bool false)) 4)).alloc (.cells (Array.replicate bn (Value.slice none 0 0)) 25)).drew w2.heap.size 4 (List.replicate bn (.bool false)) ∧
    Below w2.heap.size w2 ((w2.alloc (.cells (Array.replicate bn (Value.bool false)) 4)).alloc (.cells (Array.replicate bn (Value.slice none 0 0)) 25)).drew ∧ ((w2.alloc (.cells (Array.replicate bn (Value.bool false)) 4)).alloc (.cells (Array.replicate bn (Value.slice none 0 0)) 25)).drew.heap.size = w2.heap.size + 2 := by
  rw [← List.toArray_replicate, ← List.toArray_replicate]
  refine ⟨⟨?_, by simp, by omega, fun j xs hj => by simp at hj⟩, ((VRow.new w2 _ _).alloc _).drew, (((Below.refl _ _).alloc (Nat.le_refl _) _).alloc (by simp) _).drew, by simp⟩
  have := VRow.new (w2.alloc (.cells (List.replicate bn (Value.bool false)).toArray 4)) 25 (List.replicate bn (.slice none 0 0))
  rw [World.size_alloc] at this
  exact this.drew
/-- what the loop holds -/
structure AllAt (w : World) (ra ba oa : Option Addr) (rn rc bn bc on oc : Nat) (m : Mkt) (prices : List Int) (B1 B2 lo i : Nat) (vals : List Value) (wr : World) : Prop where
  fill : Filled wr B1 lo bn ((demItems m prices).take i) vals
  none' : VRow wr B2 4 ((demNone m prices).take i ++ List.replicate (bn - i) (.bool false))
  b2 : B2 < lo
  ne : B1 ≠ B2
  b1l : w.heap.size + 1 ≤ B1
  b2l : w.heap.size + 1 ≤ B2
  lo' : lo ≤ wr.heap.size
  mw' : Below (w.heap.size + 1) (mw w ra ba oa rn rc bn bc on oc) wr

theorem set_none {α : Type} (l : List α) (z x : α) {i n : Nat} (hi : i < n) (hl : l.length = n) (hx : l[i]? = some x) : (l.take i ++ List.replicate (n - i) z).set i x = l.take (i + 1) ++ List.replicate (n - (i + 1)) z := by
  have h1 : (l.take i).length = i := by rw [List.length_take]; omega
  rw [List.set_append_right _ _ (by omega), h1, Nat.sub_self, List.take_add_one, hx, List.append_assoc]
  congr 1
  obtain ⟨d, hd⟩ : ∃ d, n - i = d + 1 := ⟨n - i - 1, by omega⟩
  rw [hd, show n - (i + 1) = d from by omega]
  rfl
theorem AllAt.next {w : World} {ra ba oa : Option Addr} {rn rc bn bc on oc : Nat} {m : Mkt} {prices : List Int} {B1 B2 lo i : Nat} {vals : List Value} {wr w3 : World} (h : AllAt w ra ba oa rn rc bn bc on oc m prices B1 B2 lo i vals wr) (hi : i < bn) (hl : m.bids.length = bn) {bid : List Int} (hb : m.bids[i]? = some bid)
    (h3 : Below wr.heap.size wr w3) {a : Option Addr} {n : Nat} (hI : Ints w3 a n n (nats (demOf bid prices).1)) (hlo : ∀ b o, a = some ⟨b, o, none⟩ → wr.heap.size ≤ b) :
    AllAt w ra ba oa rn rc bn bc on oc m prices B1 B2 lo (i + 1) (vals.set i (.slice a n n)) ((w3.setCell ⟨B1, i, none⟩ (.slice a n n)).setCell ⟨B2, i, none⟩ (.bool ((demOf bid prices).2 == 0))) := by
  have hn := hI.len
  subst hn
  have hdl : (demItems m prices).length = bn := by unfold demItems; rw [List.length_map, hl]
  have hnl : (demNone m prices).length = bn := by unfold demNone; rw [List.length_map, hl]
  have hdi : (demItems m prices)[i]? = some (nats (demOf bid prices).1) := by unfold demItems; rw [List.getElem?_map, hb]; rfl
  have hni : (demNone m prices)[i]? = some (.bool ((demOf bid prices).2 == 0)) := by unfold demNone; rw [List.getElem?_map, hb]; rfl
  have hB1 := h.fill.row.lt
  have hB2 := h.none'.lt
  have hs := h3.size
  have hlo' := h.lo'
  have hb2 := h.b2
  have hb1l := h.b1l
  have hb2l := h.b2l
  have hfp := (h.fill.below h3 (Nat.le_refl _)).put (i := i) (by rw [List.length_take, hdl]; omega) hi hI (fun _ b o e => by have := hlo b o e; omega)
  refine ⟨?_, ?_, h.b2, h.ne, h.b1l, h.b2l, by simp; omega, ?_⟩
  · rw [List.take_add_one, hdi]
    exact hfp.under (by show B2 < lo; omega) (by show B2 ≠ B1; exact fun e => h.ne e.symm) _
  · rw [← set_none (demNone m prices) (.bool false) _ hi hnl hni]
    exact ((h.none'.below h3 hB2).other (by show B2 ≠ B1; exact fun e => h.ne e.symm) _).set i _
  · exact (((h.mw'.trans (h3.mono (by omega))).setCell (p := ⟨B1, i, none⟩) (by show _ ≤ B1; omega) _).setCell (p := ⟨B2, i, none⟩) (by show _ ≤ B2; omega) _)

set_option maxRecDepth 100000 in
set_option maxHeartbeats 4000000 in
theorem All_dem (ra ba oa pa : Option Addr) (rn rc bn bc on oc pn pc : Nat) (m : Mkt) (prices : List Int) (w : World) (hm : MktAt w ra ba oa rn rc bn bc on oc m) (hc : mcheck m = true) (hp : Ints w pa pn pc prices) (hpn : pn = rn) (hpp : ∀ x, x ∈ prices → 0 ≤ x ∧ x ≤ 2000000) :
    Calls Tryz.prog 203 #[.agg #[.slice ra rn rc, .slice ba bn bc, .slice oa on oc], .slice pa pn pc] w fun e w' => ∃ B1 B2 vals, e = .returned (.tuple #[.slice (some ⟨B1, 0, none⟩) bn bn, .slice (some ⟨B2, 0, none⟩) bn bn, .int .i64 0]) ∧
      (∃ lo, Filled w' B1 lo bn (demItems m prices) vals ∧ B2 < lo ∧ lo ≤ w'.heap.size) ∧ VRow w' B2 4 (demNone m prices) ∧ B1 ≠ B2 ∧ w.heap.size ≤ B1 ∧ w.heap.size ≤ B2 ∧ Below w.heap.size w w' := by
  subst hpn
  have hok := mcheck_ok hc
  have hrl := hm.res.len
  have hbl := hm.bids.len
  have hn1 := hok.n1
  have hn8 := hok.n8
  have hm1 := hok.m1
  have hm8 := hok.m8
  rw [hrl] at hn1 hn8
  rw [hbl] at hm1 hm8
  have HRL := Lib.hid hrl; clear hrl
  have HBL := Lib.hid hbl; clear hbl
  have HOK := Lib.hid hok; clear hok
  have HC := Lib.hid hc; clear hc
  have HPP := Lib.hid hpp; clear hpp
  have HB0 := Lib.hid (mw_start w ra ba oa pn rc bn bc on oc)
  have HM := Lib.hid hm; clear hm
  have HP := Lib.hid hp; clear hp
  have hmA := HM.out.below (mw_kept HB0.out).2.2.2.2 (Nat.le_refl _)
  have HK := Lib.hid (mcheck_any ra ba oa pn rc bn bc on oc m (mw w ra ba oa pn rc bn bc on oc) hmA.res hmA.bids hmA.ord)
  clear hmA
  obtain ⟨bb, bo, rfl⟩ := HM.out.bids.addr (by omega)
  obtain ⟨rb, ro, rfl⟩ := HM.out.res.addr (by omega)
  have hmkB := mkRows bn (by omega)
  have hmkR := mkBools bn (by omega)
  go_enter Tryz.func203, Tryz.ntmps203
  go_wp2_with fail
  refine HK.out.mono ?_
  rw [HC.out]
  rintro e w1 ⟨rfl, hb⟩
  have HB1 := Lib.hid (mw_below' HB0.out hb); clear hb HK
  obtain ⟨c0, c1, c2, hs1, hbw1⟩ := mw_kept HB1.out
  have HMY := Lib.hid (may_yes pa pn pc prices w1 (HP.out.below hbw1 (Nat.le_refl _)) hn1 hn8 HPP.out)
  have HBW1 := Lib.hid hbw1; clear hbw1
  go_wp2_with fail
  refine HMY.out.mono ?_
  rintro e w2 ⟨rfl, hb2⟩
  have HB2 := Lib.hid (mw_below' HB1.out hb2); clear hb2 HMY
  obtain ⟨c0', c1', c2', hs2, hbw2⟩ := mw_kept HB2.out
  have HBW2 := Lib.hid hbw2; clear hbw2
  clear c0 c1 c2
  go_wp2_with fail
  go_region
  case' _ =>
    have hat : AllAt w (some ⟨rb, ro, none⟩) (some ⟨bb, bo, none⟩) oa pn rc bn bc on oc m prices w2.heap.size (w2.heap.size + 1) (w2.heap.size + 2) 0 (List.replicate bn (.slice none 0 0)) ((w2.alloc (.cells (Array.replicate bn (Value.slice none 0 0)) 25)).alloc (.cells (Array.replicate bn (Value.bool false)) 4)).drew := by
      obtain ⟨h1, h2, h3, h4⟩ := two_a w2 bn
      exact ⟨h1, h2, by omega, by omega, by omega, by omega, by omega, mw_below HB2.out h3 (by omega)⟩
    obtain ⟨X, hX⟩ : ∃ X, X = ((w2.alloc (.cells (Array.replicate bn (Value.slice none 0 0)) 25)).alloc (.cells (Array.replicate bn (Value.bool false)) 4)).drew := ⟨_, rfl⟩
    rw [← hX] at hat ⊢
    obtain ⟨lo, hlo⟩ : ∃ B, B = w2.heap.size + 2 := ⟨_, rfl⟩
    rw [← hlo] at hat
    obtain ⟨B2, hB2⟩ : ∃ B, B = w2.heap.size + 1 := ⟨_, rfl⟩
    rw [← hB2] at hat ⊢
    obtain ⟨B1, hB1⟩ : ∃ B, B = w2.heap.size := ⟨_, rfl⟩
    rw [← hB1] at hat ⊢
    clear hX hlo hB2 hB1
  rotate_left
  case' _ =>
    have hat : AllAt w (some ⟨rb, ro, none⟩) (some ⟨bb, bo, none⟩) oa pn rc bn bc on oc m prices (w2.heap.size + 1) w2.heap.size (w2.heap.size + 2) 0 (List.replicate bn (.slice none 0 0)) ((w2.alloc (.cells (Array.replicate bn (Value.bool false)) 4)).alloc (.cells (Array.replicate bn (Value.slice none 0 0)) 25)).drew := by
      obtain ⟨h1, h2, h3, h4⟩ := two_b w2 bn
      exact ⟨h1, h2, by omega, by omega, by omega, by omega, by omega, mw_below HB2.out h3 (by omega)⟩
    obtain ⟨X, hX⟩ : ∃ X, X = ((w2.alloc (.cells (Array.replicate bn (Value.bool false)) 4)).alloc (.cells (Array.replicate bn (Value.slice none 0 0)) 25)).drew := ⟨_, rfl⟩
    rw [← hX] at hat ⊢
    obtain ⟨lo, hlo⟩ : ∃ B, B = w2.heap.size + 2 := ⟨_, rfl⟩
    rw [← hlo] at hat
    obtain ⟨B1, hB1⟩ : ∃ B, B = w2.heap.size + 1 := ⟨_, rfl⟩
    rw [← hB1] at hat ⊢
    obtain ⟨B2, hB2⟩ : ∃ B, B = w2.heap.size := ⟨_, rfl⟩
    rw [← hB2] at hat ⊢
    clear hX hlo hB2 hB1
  all_goals
    obtain ⟨d0, d1, d2, hs3, hbw3⟩ := mw_kept hat.mw'
    clear c0' c1' c2' hbw3
    have HAT := Lib.hid hat; clear hat
    go_wp2_with fail
    go_loopg [6, 31] bn (fun g' s6 s31 wr => ∃ (i : Nat) (vals : List Value), i + g' = bn ∧ s6 = .int .i64 0 ∧ s31 = .int .i64 i ∧ AllAt w (some ⟨rb, ro, none⟩) (some ⟨bb, bo, none⟩) oa pn rc bn bc on oc m prices B1 B2 lo i vals wr)
    case atStart => exact ⟨0, _, by omega, rfl, rfl, HAT.out⟩
    case round =>
      clear d0 d1 d2
      obtain ⟨i, vals, hi, rfl, rfl, hat⟩ := hrel
      obtain ⟨d0, d1, d2, hs4, hbw⟩ := mw_kept hat.mw'
      have HI := Lib.hid hi; clear hi
      by_cases hlt : i < bn
      · obtain ⟨bid, hbid⟩ := HM.out.bids.get hlt
        obtain ⟨la, ln, lc, hcl, hli⟩ := HM.out.bids.row hbw (Nat.le_refl _) (b := bb) (o := bo) (k := i) rfl hbid
        have hbk := HOK.out.bid bid (List.mem_of_getElem? hbid)
        rw [HRL.out] at hbk
        have HOF := Lib.hid (Of_yes la pa ln lc pn pc bid prices wr (hli.below hbw (Nat.le_refl _)) (HP.out.below hbw (Nat.le_refl _)) hn1 hn8 HPP.out hbk)
        have HAT2 := Lib.hid hat; clear hat
        have HBID := Lib.hid hbid; clear hbid hli hbk hbw
        go_wp2_with fail
        refine HOF.out.mono ?_
        rintro e w3 ⟨a3, n3, rfl, hI3, hlo3, hb3⟩
        have hF3 := HAT2.out.fill.below hb3 (Nat.le_refl _)
        have hV3 := HAT2.out.none'.below hb3 HAT2.out.none'.lt
        have hvl := hF3.len
        have hf1 := hF3.row.frozen i
        obtain ⟨v0, hv0⟩ : ∃ v0, vals[i]? = some v0 := ⟨_, List.getElem?_eq_getElem (by omega)⟩
        have hk1 := hF3.row.cell hv0
        have hV4 := hV3.other (a := ⟨B1, i, none⟩) (by show B2 ≠ B1; exact fun e => HAT2.out.ne e.symm) (.slice a3 n3 n3)
        have hf2 := hV4.frozen i
        have hk2 := hV4.cell (k := i) (v := .bool false) (by
          rw [List.getElem?_append_right (by rw [List.length_take]; omega)]
          rw [List.length_take, List.getElem?_replicate, if_pos (by unfold demNone; rw [List.length_map, HBL.out]; omega)])
        have hnx := HAT2.out.next hlt HBL.out HBID.out hb3 hI3 hlo3
        have HNX := Lib.hid hnx; clear hnx hF3 hV3 hV4 hI3 hlo3 hb3 hvl hv0
        go_wp2_with fail
        go_roundg (gk - 1)
        case measure => have := HI.out; omega
        case rel => exact ⟨i + 1, _, by have := HI.out; omega, rfl, by go_num, HNX.out⟩
      · obtain rfl : i = bn := by have := HI.out; omega
        have HAT2 := Lib.hid hat; clear hat
        have HBW := Lib.hid hbw; clear hbw
        go_wp2_with fail
        go_ret3
        have hdl : (demItems m prices).length = i := by unfold demItems; rw [List.length_map, HBL.out]
        have hnl : (demNone m prices).length = i := by unfold demNone; rw [List.length_map, HBL.out]
        have h1 := HAT2.out.fill
        have h2 := HAT2.out.none'
        rw [List.take_of_length_le (by omega)] at h1 h2
        rw [Nat.sub_self] at h2
        refine ⟨B1, B2, vals, rfl, ⟨lo, h1, HAT2.out.b2, HAT2.out.lo'⟩, by simpa using h2, HAT2.out.ne, by have := HAT2.out.b1l; omega, by have := HAT2.out.b2l; omega, HBW.out⟩
end Go.Proofs.YtkddkkcfpnndlaaGreatDoor
