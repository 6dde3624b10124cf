/- Walks: salesroomlaw01.TwinOutcome. Walks: salesroomlaw01.TwinOutcome, with the marks in the room behind. Twins lie apart. Walks: is a twin still what it was made of, its marks too: LeftInts, LeftIntLists, LeftMarket, LeftOutcome. -/
import Derived.Test.YtkddkkcfpnndlaaGreatDoorPq29
import Derived.Test.YtkddkkcfpnndlaaGreatDoorPq33
import Derived.Test.YtkddkkcfpnndlaaGreatDoorPq19
import Derived.BigRegion
namespace Go.Proofs.YtkddkkcfpnndlaaGreatDoor
open Go.RowKit Sale

/-- an outcome's twin: two regions of new memory, one behind the other -/
structure TwinOut (w : World) (base g1 g2 : Nat) (o : Outc) : Prop where
  has : TabI w g1 o.has
  prices : TabI w g2 o.prices
  b1 : base ≤ g1
  l : g1 < g2
theorem TwinOut.below {w w' : World} {base g1 g2 B' : Nat} {o : Outc} (h : TwinOut w base g1 g2 o) (hb : Below B' w w') (hB : w.heap.size ≤ B') : TwinOut w' base g1 g2 o :=
  ⟨Tab.below h.has hb (by have := Tab.lt h.has; omega), Tab.below h.prices hb (by have := Tab.lt h.prices; omega), h.b1, h.l⟩
theorem TwinOut.step {w w' : World} {base g1 g2 : Nat} {o : Outc} (h : TwinOut w base g1 g2 o) (hb : Below w.heap.size w w') : TwinOut w' base g1 g2 o := h.below hb (Nat.le_refl _)
theorem TwinOut.out {w : World} {base g1 g2 hn c1 pn c2 : Nat} {o : Outc} (h : TwinOut w base g1 g2 o) (h1 : o.has.length = hn) (h2 : o.prices.length = pn) (hc1 : hn ≤ c1) (hc2 : pn ≤ c2) (hl1 : hn ≤ 100000) (hl2 : pn ≤ 100000)
    (hb1 : ∀ x, x ∈ o.has → -9223372036854775808 ≤ x ∧ x ≤ 9223372036854775807) (hb2 : ∀ x, x ∈ o.prices → -9223372036854775808 ≤ x ∧ x ≤ 9223372036854775807) : OutAt w (some ⟨g1, 0, none⟩) (some ⟨g2, 0, none⟩) hn c1 pn c2 o := by
  have a := TabI.ints h.has (c := c1) (by omega) (by omega) hb1
  have b := TabI.ints h.prices (c := c2) (by omega) (by omega) hb2
  rw [h1] at a
  rw [h2] at b
  exact ⟨a, b⟩
end Go.Proofs.YtkddkkcfpnndlaaGreatDoor

namespace Go.Proofs.YtkddkkcfpnndlaaGreatDoor
open Go.RowKit Sale

/-- an outcome's twin, its marks too -/
structure OutF (w : World) (base g1 c1 g2 c2 : Nat) (o : Outc) : Prop where
  has : RowF w base g1 c1 o.has
  prices : RowF w base g2 c2 o.prices
  l : g1 < g2
theorem OutF.below {w w' : World} {base g1 c1 g2 c2 B' : Nat} {o : Outc} (h : OutF w base g1 c1 g2 c2 o) (hb : Below B' w w') (hB : w.heap.size ≤ B') : OutF w' base g1 c1 g2 c2 o := ⟨h.has.below hb hB, h.prices.below hb hB, h.l⟩
theorem OutF.step {w w' : World} {base g1 c1 g2 c2 : Nat} {o : Outc} (h : OutF w base g1 c1 g2 c2 o) (hb : Below w.heap.size w w') : OutF w' base g1 c1 g2 c2 o := h.below hb (Nat.le_refl _)
theorem OutF.under {w : World} {base g1 c1 g2 c2 : Nat} {o : Outc} (h : OutF w base g1 c1 g2 c2 o) {a : Addr} (ha : a.block < base) (u : Value) : OutF (w.setCell a u) base g1 c1 g2 c2 o := ⟨h.has.under ha u, h.prices.under ha u, h.l⟩
theorem OutF.out {w : World} {base g1 c1 g2 c2 hn pn : Nat} {o : Outc} (h : OutF w base g1 c1 g2 c2 o) (h1 : o.has.length = hn) (h2 : o.prices.length = pn) (hl1 : hn ≤ 100000) (hl2 : pn ≤ 100000)
    (hb1 : ∀ x, x ∈ o.has → -9223372036854775808 ≤ x ∧ x ≤ 9223372036854775807) (hb2 : ∀ x, x ∈ o.prices → -9223372036854775808 ≤ x ∧ x ≤ 9223372036854775807) : OutAt w (some ⟨g1, 0, none⟩) (some ⟨g2, 0, none⟩) hn c1 pn c2 o := by
  have a := h.has.ints (by omega) hb1
  have b := h.prices.ints (by omega) hb2
  rw [h1] at a
  rw [h2] at b
  exact ⟨a, b⟩
end Go.Proofs.YtkddkkcfpnndlaaGreatDoor

namespace Go.Proofs.YtkddkkcfpnndlaaGreatDoor
open Go.RowKit Sale

def toSlc (v : Value) : Slc := match v with
  | .slice a n c => ⟨a, n, c⟩
  | _ => ⟨none, 0, 0⟩
theorem Lot.lift {T : TypeId} {w : World} {lo lo' b o n c : Nat} (h : Lot T w lo (some ⟨b, o, none⟩) n c) (hl : lo' ≤ b) : Lot T w lo' (some ⟨b, o, none⟩) n c := by
  rcases h with h | ⟨b', o', cur, e, _, r⟩
  · exact .inl h
  · cases e; exact .inr ⟨b, o, cur, rfl, hl, r⟩
theorem Seg.one' {T : TypeId} {w : World} {lo hi b n c : Nat} (h : Lot T w lo (some ⟨b, 0, none⟩) n c) (hh : b < hi) : Seg T w lo hi [⟨some ⟨b, 0, none⟩, n, c⟩] :=
  ⟨fun x hx => by simp at hx; subst hx; exact h, fun x hx b' o e _ => by simp at hx; subst hx; cases e; exact hh, List.pairwise_singleton _ _⟩
theorem RowsF.seg {w : World} {base B c M hi : Nat} {vals : List Value} {gs : List Nat} {xss : List (List Int)} (h : RowsF w base B c M vals gs xss) (hg : ∀ g, g ∈ gs → g < hi) : Seg 3 w base hi (vals.map toSlc) := by
  have key : ∀ (i : Nat) (v : Value), vals[i]? = some v → ∃ (g cc : Nat) (xs : List Int), gs[i]? = some g ∧ v = .slice (some ⟨g, 0, none⟩) xs.length cc ∧ RowF w base g cc xs ∧ g ∈ gs := by
    intro i v hv
    have hi := (List.getElem?_eq_some_iff.1 hv).1
    have h1 : i < xss.length := by rw [← h.vlen]; exact hi
    have h2 : i < gs.length := by rw [h.rows.len]; exact h1
    obtain ⟨cc, e, hr⟩ := h.rows.row i xss[i] gs[i] (by simp [h1]) (by simp [h2])
    rw [hv] at e
    exact ⟨gs[i], cc, xss[i], by simp [h2], Option.some.inj e, hr, List.getElem_mem h2⟩
  refine ⟨fun x hx => ?_, fun x hx b o e hc => ?_, ?_⟩
  · obtain ⟨v, hv, rfl⟩ := List.mem_map.1 hx
    obtain ⟨i, hi⟩ := List.getElem?_of_mem hv
    obtain ⟨g, cc, xs, _, rfl, hr, _⟩ := key i v hi
    exact hr.lot
  · obtain ⟨v, hv, rfl⟩ := List.mem_map.1 hx
    obtain ⟨i, hi⟩ := List.getElem?_of_mem hv
    obtain ⟨g, cc, xs, _, rfl, hr, hm⟩ := key i v hi
    have e' : some (⟨g, 0, none⟩ : Addr) = some ⟨b, o, none⟩ := e
    cases e'
    exact hg _ hm
  · rw [List.pairwise_iff_getElem]
    intro i j hi hj hij b o o' _ _ e e'
    have hi' : i < vals.length := by simpa using hi
    have hj' : j < vals.length := by simpa using hj
    obtain ⟨g, cc, xs, e1, e2, _⟩ := key i vals[i] (by simp [hi'])
    obtain ⟨g', cc', xs', e1', e2', _⟩ := key j vals[j] (by simp [hj'])
    simp only [List.getElem_map] at e e'
    rw [e2] at e
    rw [e2'] at e'
    have e3 : some (⟨g, 0, none⟩ : Addr) = some ⟨b, o, none⟩ := e
    have e3' : some (⟨g', 0, none⟩ : Addr) = some ⟨b, o', none⟩ := e'
    cases e3
    cases e3'
    have hgi := (List.getElem?_eq_some_iff.1 e1)
    have hgj := (List.getElem?_eq_some_iff.1 e1')
    obtain ⟨a1, a2⟩ := hgi
    obtain ⟨b1, b2⟩ := hgj
    have := List.pairwise_iff_getElem.1 h.rows.nodup i j a1 b1 hij
    exact this (a2.trans b2.symm)
theorem RowsF.lies {w : World} {base B c M n : Nat} {vals : List Value} {gs : List Nat} {xss : List (List Int)} (h : RowsF w base B c M vals gs xss) (hn : xss.length = n) : LiesAt w w.heap.size (some ⟨B, 0, none⟩) n (vals.map toSlc) := by
  obtain ⟨ht, _, _, hc, _⟩ := owns_tab h.own
  refine ⟨by rw [List.length_map, h.vlen, hn], fun _ => ⟨B, 0, rfl, Tab.lt ht, fun k x hx => ?_⟩⟩
  rw [List.getElem?_map] at hx
  cases hv : vals[k]? with
  | none => rw [hv] at hx; cases hx
  | some v =>
    rw [hv] at hx
    have hk := (List.getElem?_eq_some_iff.1 hv).1
    have h1 : k < xss.length := by rw [← h.vlen]; exact hk
    have h2 : k < gs.length := by rw [h.rows.len]; exact h1
    obtain ⟨cc, e, _⟩ := h.rows.row k xss[k] gs[k] (by simp [h1]) (by simp [h2])
    rw [hv] at e
    cases e
    simp at hx
    subst hx
    rw [Nat.zero_add]
    exact Tab.cell ht (by rw [List.getElem?_append_left hk]; exact hv)
theorem RowsF.lotB {w : World} {base B c M : Nat} {vals : List Value} {gs : List Nat} {xss : List (List Int)} (h : RowsF w base B c M vals gs xss) : Lot 25 w base (some ⟨B, 0, none⟩) xss.length c ∧ B < w.heap.size := by
  have hl := h.own
  rcases hl.2 with ⟨e, _⟩ | ⟨g, cap, cur, e, hb, hh, hn, hm, hs, _⟩
  · cases e
  · injection e with e1 _ e3
    cases e1
    subst e3
    exact ⟨.inr ⟨B, 0, cur, rfl, hb, hh, by omega, by omega⟩, (Array.getElem?_eq_some_iff.1 hh).1⟩
theorem RowsF.seg2 {w : World} {base B c M n : Nat} {vals : List Value} {gs : List Nat} {xss : List (List Int)} (h : RowsF w base B c M vals gs xss) (hn : xss.length = n) : Seg 25 w base w.heap.size [⟨some ⟨B, 0, none⟩, n, c⟩] := by
  obtain ⟨h1, h2⟩ := h.lotB
  rw [hn] at h1
  exact Seg.one' h1 h2
theorem MktF.seg {w : World} {base s1 s2 g1 c1 B cB M g3 c3 rn bn on : Nat} {vals : List Value} {gs : List Nat} {m : Mkt} (h : MktF w base s1 s2 g1 c1 B cB M g3 c3 vals gs m) (h1 : m.res.length = rn) (h2 : m.bids.length = bn) (h3 : m.ord.length = on) :
    Seg 3 w base w.heap.size ([⟨some ⟨g1, 0, none⟩, rn, c1⟩] ++ vals.map toSlc ++ [⟨some ⟨g3, 0, none⟩, on, c3⟩]) ∧ Seg 25 w base w.heap.size [⟨some ⟨B, 0, none⟩, bn, cB⟩] ∧ LiesAt w w.heap.size (some ⟨B, 0, none⟩) bn (vals.map toSlc) := by
  have l1 := h.res.lot
  rw [h1] at l1
  have l3 := h.ord.lot
  rw [h3] at l3
  have hs2 : s2 ≤ w.heap.size := by
    have := h.ord.parts
    omega
  refine ⟨?_, (h.rows.seg2 h2).wide h.b1 (Nat.le_refl _), h.rows.lies h2⟩
  exact ((Seg.one' l1 h.l1).append (h.rows.seg h.lg) h.b1 h.b2).append (Seg.one' l3 h.ord.parts.2.2.2) (Nat.le_trans h.b1 h.b2) hs2
theorem OutF.seg {w : World} {base g1 c1 g2 c2 hn pn : Nat} {o : Outc} (h : OutF w base g1 c1 g2 c2 o) (h1 : o.has.length = hn) (h2 : o.prices.length = pn) : Seg 3 w base w.heap.size [⟨some ⟨g1, 0, none⟩, hn, c1⟩, ⟨some ⟨g2, 0, none⟩, pn, c2⟩] := by
  have l1 := h.has.lot
  rw [h1] at l1
  have l2 := h.prices.lot
  rw [h2] at l2
  have p1 := h.has.parts
  have p2 := h.prices.parts
  have hl := h.l
  exact (Seg.one' l1 h.l).append (Seg.one' (l2.lift (Nat.le_refl g2)) p2.2.2.2) (by omega) (by omega)
theorem TwinF.seg {n : Nat} {w w' : World} {g c : Nat} {xs : List Int} (h : RowF w' w.heap.size g c xs) (hn : xs.length = n) : Seg 3 w' w.heap.size w'.heap.size [⟨some ⟨g, 0, none⟩, n, c⟩] := by
  have l := h.lot
  rw [hn] at l
  exact Seg.one' l h.parts.2.2.2
theorem toSlc_len {w : World} {base B c M K : Nat} {vals : List Value} {gs : List Nat} {xss : List (List Int)} (h : RowsF w base B c M vals gs xss) (hx : ∀ xs, xs ∈ xss → xs.length ≤ K) : ∀ x, x ∈ vals.map toSlc → x.n ≤ K := by
  intro x hx'
  obtain ⟨v, hv, rfl⟩ := List.mem_map.1 hx'
  obtain ⟨i, hi⟩ := List.getElem?_of_mem hv
  have hil := (List.getElem?_eq_some_iff.1 hi).1
  have h1 : i < xss.length := by rw [← h.vlen]; exact hil
  have h2 : i < gs.length := by rw [h.rows.len]; exact h1
  obtain ⟨cc, e, _⟩ := h.rows.row i xss[i] gs[i] (by simp [h1]) (by simp [h2])
  rw [hi] at e
  cases e
  exact hx _ (List.getElem_mem h1)
end Go.Proofs.YtkddkkcfpnndlaaGreatDoor

namespace Go.Proofs.YtkddkkcfpnndlaaGreatDoor
open Go.RowKit Sale

theorem cell_stp {w w' : World} {b o : Nat} {v : Value} (hb : Below w.heap.size w w') (h : w.cell? ⟨b, o, none⟩ = some v) : w'.cell? ⟨b, o, none⟩ = some v := by
  rw [hb.cell (p := ⟨b, o, none⟩) (block_lt_of_cell h)]; exact h
set_option maxHeartbeats 1000000 in
theorem leftInts_any (g c m d : Nat) (b : Option Addr) (n : Nat) (base : Nat) (xs : List Int) (w : World) (hx : RowF w base g c xs) (hl : xs.length = m) (hy : Ints w b n d xs) (hn : n ≤ 100000) :
    Calls Tryz.prog 15 #[.slice (some ⟨g, 0, none⟩) m c, .slice b n d] w fun e w' => e = .returned (.bool true) ∧ Below w.heap.size w w' := by
  have hyl := hy.len
  obtain rfl : m = n := by omega
  have hcap := hx.parts.2.2.1
  rw [hl] at hcap
  have cm := hx.mark
  rw [hl] at cm
  have HX := Lib.hid hx; clear hx
  have HY := Lib.hid hy; clear hy
  have HL := Lib.hid hl; clear hl hyl
  go_enter Tryz.func15, Tryz.ntmps15
  go_wp2_with fail
  go_loopg [5] m (fun g s5 wr => ∃ k : Nat, k + g = m ∧ s5 = .int .i64 k ∧ Below w.heap.size w wr)
  case atStart => exact ⟨0, by omega, rfl, Below.refl _ _⟩
  case round =>
    obtain ⟨k, hk, rfl, hB⟩ := hrel
    have HK := Lib.hid hk; clear hk
    have cmw := cell_stp hB cm
    by_cases hlt : k < m
    · obtain ⟨x, hx, _⟩ := HY.out.get hlt
      obtain ⟨b2, o2, rfl⟩ := HY.out.addr (by omega)
      have hc1 := cell_stp hB (HX.out.cell hx)
      have hc2 := cell_stp hB (HY.out.cell b2 o2 rfl k x hx)
      have HB := Lib.hid hB; clear hB
      have HXK := Lib.hid hx; clear hx
      have i1 : (k : Int) < (m : Int) := by omega
      go_wp2_with fail
      go_region
      go_wp2_with fail
      go_roundg (gk - 1)
      case measure => have := HK.out; omega
      case rel => exact ⟨k + 1, by have := HK.out; omega, by go_num, HB.out.drew⟩
    · obtain rfl : k = m := by have := HK.out; omega
      have HB := Lib.hid hB; clear hB
      go_wp2_with fail
      go_ret
      exact ⟨by simp, HB.out⟩

theorem leftInts_kept (W : World) (y : Kept (Below W.heap.size W)) (g c m d : Nat) (b : Option Addr) (n : Nat) (base : Nat) (xs : List Int) (hx : RowF W base g c xs) (hl : xs.length = m) (hy : Ints W b n d xs) (hn : n ≤ 100000) :
    Calls Tryz.prog 15 #[.slice (some ⟨g, 0, none⟩) m c, .slice b n d] y.w fun e w' => e = .returned (.bool true) ∧ ∃ z : Kept (Below W.heap.size W), w' = z.w :=
  Kept.call ((leftInts_any g c m d b n base xs y.w (hx.below y.h (Nat.le_refl _)) hl (hy.below y.h (Nat.le_refl _)) hn).mono fun _ _ ⟨h1, h2⟩ => ⟨h1, y.h.trans (h2.mono y.h.size)⟩)
set_option maxHeartbeats 1000000 in
theorem leftIntLists_any (B c M m d : Nat) (b : Option Addr) (n : Nat) (base : Nat) (vals : List Value) (gs : List Nat) (xss : List (List Int)) (w : World) (hx : RowsF w base B c M vals gs xss) (hl : xss.length = m) (hy : Rows w b n d xss) (hn : n ≤ 100000) (hlens : ∀ xs, xs ∈ xss → xs.length ≤ 100000) :
    Calls Tryz.prog 14 #[.slice (some ⟨B, 0, none⟩) m c, .slice b n d] w fun e w' => e = .returned (.bool true) ∧ Below w.heap.size w w' := by
  have hyl := hy.len
  obtain rfl : m = n := by omega
  obtain ⟨ht, _, _, hcap, _⟩ := owns_tab hx.own
  rw [hl] at hcap
  have hvl := hx.vlen
  have cm : w.cell? ⟨B, m, none⟩ = some (.slice (some ⟨M, 0, none⟩) 1 1) := Tab.cell ht (by rw [List.getElem?_append_right (by omega), show m - vals.length = 0 by omega]; rfl)
  have cm2 : w.cell? ⟨M, 0, none⟩ = some (.int .i64 77) := Tab.cell hx.mark rfl
  have HX := Lib.hid hx; clear hx
  have HT := Lib.hid ht; clear ht
  have HY := Lib.hid hy; clear hy
  have HL := Lib.hid hl; clear hl hyl
  have HLE := Lib.hid hlens; clear hlens hvl
  go_enter Tryz.func14, Tryz.ntmps14
  go_wp2_with fail
  go_loopg [5] m (fun g s5 wr => ∃ k : Nat, k + g = m ∧ s5 = .int .i64 k ∧ Below w.heap.size w wr)
  case atStart => exact ⟨0, by omega, rfl, Below.refl _ _⟩
  case round =>
    obtain ⟨k, hk, rfl, hB⟩ := hrel
    have HK := Lib.hid hk; clear hk
    by_cases hlt : k < m
    · obtain ⟨xs, hxs⟩ := HY.out.get hlt
      obtain ⟨b2, o2, rfl⟩ := HY.out.addr (by omega)
      obtain ⟨a', n', c', hc2, hi⟩ := HY.out.cell b2 o2 rfl k xs hxs
      obtain ⟨g, hg⟩ : ∃ g, gs[k]? = some g := ⟨_, List.getElem?_eq_getElem (by rw [HX.out.rows.len, HL.out]; exact hlt)⟩
      obtain ⟨cg, hv, hr⟩ := HX.out.rows.row k xs g hxs hg
      have hvk := (List.getElem?_eq_some_iff.1 hv).1
      have hc1 : w.cell? ⟨B, k, none⟩ = some (.slice (some ⟨g, 0, none⟩) xs.length cg) := Tab.cell HT.out (by rw [List.getElem?_append_left hvk]; exact hv)
      have hl8 := HLE.out xs (List.mem_of_getElem? hxs)
      have hil := hi.len
      have hcall : ∀ y : Kept (Below wr.heap.size wr), Calls Tryz.prog 15 #[.slice (some ⟨g, 0, none⟩) xs.length cg, .slice a' n' c'] y.w fun e w' => e = .returned (.bool true) ∧ ∃ z : Kept (Below wr.heap.size wr), w' = z.w :=
        fun y => leftInts_kept wr y g cg xs.length c' a' n' base xs (hr.below hB (Nat.le_refl _)) rfl (hi.below hB (Nat.le_refl _)) (by omega)
      have HA := Lib.hid hcall; clear hcall
      have hbd : Below wr.heap.size wr wr.drew := (Below.refl _ _).drew
      have hne' : Nonempty (Kept (Below wr.heap.size wr)) := ⟨⟨_, hbd⟩⟩
      have q1 := cell_stp hB hc1
      have q2 := cell_stp hB hc2
      have k1 : ∀ z : Kept (Below wr.heap.size wr), z.w.cell? ⟨B, k, none⟩ = some (.slice (some ⟨g, 0, none⟩) xs.length cg) := fun z => cell_stp z.h q1
      have k2 : ∀ z : Kept (Below wr.heap.size wr), z.w.cell? ⟨b2, o2 + k, none⟩ = some (.slice a' n' c') := fun z => cell_stp z.h q2
      have HB := Lib.hid hB; clear hB
      clear hil hl8 hr hvk hv hg hi hxs q1 q2 hc1 hc2
      have i1 : (k : Int) < (m : Int) := by omega
      go_wp2_with fail
      refine wp_region_kept (Below wr.heap.size wr) (by kernel_rfl) (by kernel_rfl) hbd ?_
      repeat (go_big_quiet_step ((go_at_call 15; with_reducible exact HA.out _)))
      refine wpQuiet_nil ?_
      intro w5 hw'
      obtain ⟨⟨wz, hz⟩, hwz⟩ := hw'
      obtain rfl : w5 = wz := hwz
      clear k1 k2 hne'
      go_wp2_with fail
      go_roundg (gk - 1)
      case measure => have := HK.out; omega
      case rel => exact ⟨k + 1, by have := HK.out; omega, by go_num, HB.out.trans (hz.mono HB.out.size)⟩
    · obtain rfl : k = m := by have := HK.out; omega
      have cmw := cell_stp hB cm
      have cmw2 := cell_stp hB cm2
      have HB := Lib.hid hB; clear hB
      go_wp2_with fail
      go_ret
      exact ⟨by simp, HB.out⟩
set_option maxHeartbeats 1000000 in
theorem leftMarket_any (base s1 s2 g1 c1 B cB M g3 c3 : Nat) (vals : List Value) (gs : List Nat) (ra ba oa : Option Addr) (rn rc bn bc on oc : Nat) (m : Mkt) (w : World) (h : MktF w base s1 s2 g1 c1 B cB M g3 c3 vals gs m) (hm : MktAt w ra ba oa rn rc bn bc on oc m) (h1 : rn ≤ 100000) (h2 : bn ≤ 100000) (h3 : on ≤ 100000) (hx : ∀ xs, xs ∈ m.bids → xs.length ≤ 100000) :
    Calls Tryz.prog 31 #[.agg #[.slice (some ⟨g1, 0, none⟩) rn c1, .slice (some ⟨B, 0, none⟩) bn cB, .slice (some ⟨g3, 0, none⟩) on c3], .agg #[.slice ra rn rc, .slice ba bn bc, .slice oa on oc]] w fun e w' => e = .returned (.bool true) ∧ Below w.heap.size w w' := by
  obtain ⟨w0, hw0⟩ : ∃ w0, w0 = (w.alloc (.cells #[.slice (some ⟨g1, 0, none⟩) rn c1, .slice (some ⟨B, 0, none⟩) bn cB, .slice (some ⟨g3, 0, none⟩) on c3] 57)).alloc (.cells #[.slice ra rn rc, .slice ba bn bc, .slice oa on oc] 57) := ⟨_, rfl⟩
  have hb0 : Below w.heap.size w w0 := by rw [hw0]; exact ((Below.refl _ _).alloc (Nat.le_refl _) _).alloc (by simp) _
  have hv1 : VRow w0 w.heap.size 57 [.slice (some ⟨g1, 0, none⟩) rn c1, .slice (some ⟨B, 0, none⟩) bn cB, .slice (some ⟨g3, 0, none⟩) on c3] := by rw [hw0]; exact VRow.alloc (heap_alloc_new w _) _
  have hv2 : VRow w0 (w.heap.size + 1) 57 [.slice ra rn rc, .slice ba bn bc, .slice oa on oc] := by
    rw [hw0]
    have := heap_alloc_new (w.alloc (.cells #[.slice (some ⟨g1, 0, none⟩) rn c1, .slice (some ⟨B, 0, none⟩) bn cB, .slice (some ⟨g3, 0, none⟩) on c3] 57)) (.cells #[.slice ra rn rc, .slice ba bn bc, .slice oa on oc] 57)
    rw [show (w.alloc (.cells #[.slice (some ⟨g1, 0, none⟩) rn c1, .slice (some ⟨B, 0, none⟩) bn cB, .slice (some ⟨g3, 0, none⟩) on c3] 57)).heap.size = w.heap.size + 1 by simp] at this
    exact this
  have h0 := h.step hb0
  have hm0 := hm.below hb0 (Nat.le_refl _)
  have hl1 : m.res.length = rn := hm.res.len
  have hl2 : m.bids.length = bn := hm.bids.len
  have hl3 : m.ord.length = on := hm.ord.len
  have hs0 : w0.heap.size = w.heap.size + 1 + 1 := by rw [hw0]; simp
  have hlt0 : w.heap.size + 1 < w0.heap.size := by omega
  clear h hm hs0
  have HB0 := Lib.hid hb0; clear hb0
  have hw0' := hw0.symm
  clear hw0
  have c10 : w0.cell? ⟨w.heap.size, 0, none⟩ = some (.slice (some ⟨g1, 0, none⟩) rn c1) := VRow.cell hv1 rfl
  have c20 : w0.cell? ⟨w.heap.size + 1, 0, none⟩ = some (.slice ra rn rc) := VRow.cell hv2 rfl
  have H0 := Lib.hid h0; clear h0
  have HM0 := Lib.hid hm0; clear hm0
  have HV1 := Lib.hid hv1; clear hv1
  have HV2 := Lib.hid hv2; clear hv2
  have HL1 := Lib.hid hl1; clear hl1
  have HL2 := Lib.hid hl2; clear hl2
  have HL3 := Lib.hid hl3; clear hl3
  have HX := Lib.hid hx; clear hx
  go_enter Tryz.func31, Tryz.ntmps31
  go_wp2_with fail
  try rw [hw0']
  clear hw0'
  refine (leftInts_any g1 c1 rn rc ra rn base m.res w0 H0.out.res HL1.out HM0.out.res h1).mono ?_
  rintro e w1 ⟨rfl, hb1⟩
  have c11 : w1.cell? ⟨w.heap.size, 1, none⟩ = some (.slice (some ⟨B, 0, none⟩) bn cB) := cell_stp hb1 (VRow.cell HV1.out rfl)
  have c21 : w1.cell? ⟨w.heap.size + 1, 1, none⟩ = some (.slice ba bn bc) := cell_stp hb1 (VRow.cell HV2.out rfl)
  clear c10 c20
  have HB1 := Lib.hid hb1; clear hb1
  go_wp2_with fail
  refine (leftIntLists_any B cB M bn bc ba bn s1 vals gs m.bids w1 (H0.out.rows.below HB1.out (Nat.le_refl _)) HL2.out (HM0.out.bids.below HB1.out (Nat.le_refl _)) h2 HX.out).mono ?_
  rintro e w2 ⟨rfl, hb2⟩
  have hb02 : Below w0.heap.size w0 w2 := HB1.out.trans (hb2.mono HB1.out.size)
  have c12 : w2.cell? ⟨w.heap.size, 2, none⟩ = some (.slice (some ⟨g3, 0, none⟩) on c3) := cell_stp hb02 (VRow.cell HV1.out rfl)
  have c22 : w2.cell? ⟨w.heap.size + 1, 2, none⟩ = some (.slice oa on oc) := cell_stp hb02 (VRow.cell HV2.out rfl)
  clear c11 c21 hb2
  have HB2 := Lib.hid hb02; clear hb02
  go_wp2_with fail
  refine (leftInts_any g3 c3 on oc oa on s2 m.ord w2 (H0.out.ord.below HB2.out (Nat.le_refl _)) HL3.out (HM0.out.ord.below HB2.out (Nat.le_refl _)) h3).mono ?_
  rintro e w3 ⟨rfl, hb3⟩
  have hb03 : Below w0.heap.size w0 w3 := HB2.out.trans (hb3.mono HB2.out.size)
  have HB3 := Lib.hid hb03; clear hb03 hb3
  go_wp2_with fail
  go_ret
  exact ⟨rfl, HB0.out.trans (HB3.out.mono HB0.out.size)⟩
end Go.Proofs.YtkddkkcfpnndlaaGreatDoor
