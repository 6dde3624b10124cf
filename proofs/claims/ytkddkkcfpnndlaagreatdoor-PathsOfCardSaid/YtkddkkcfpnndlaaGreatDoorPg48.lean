/- PathsOf: what More and Reach answer, the program's and the reference's. PathsOf: how long the answers are at most. Walks: the law PathsOf. -/
import Derived.Test.YtkddkkcfpnndlaaGreatDoorPg24
import Derived.Test.YtkddkkcfpnndlaaGreatDoorPg47
namespace Go.Proofs.YtkddkkcfpnndlaaGreatDoor
open Go.RowKit

theorem MyRow.lot {w : World} {base : Nat} {a : Option Addr} {n c : Nat} {xs : List Int} (h : MyRow w base a n c xs) : Lot 3 w base a n n := by
  rcases Nat.eq_zero_or_pos n with h0 | h0
  · exact .inl ⟨h0, h0⟩
  · obtain ⟨g, cur, e, hb, hh, hn, _⟩ := h.own h0
    exact .inr ⟨g, 0, cur, e, hb, hh, by omega, Nat.le_refl _⟩
theorem Seg.two {T : TypeId} {w : World} {lo mid : Nat} {x y : Slc} (hx : Lot T w lo x.a x.n x.c) (hy : Lot T w mid y.a y.n y.c) (hl : lo ≤ mid) (hxm : ∀ b o, x.a = some ⟨b, o, none⟩ → b < mid) : Seg T w lo w.heap.size [x, y] := by
  refine ⟨fun z hz => ?_, fun z hz b o e hc => ?_, ?_⟩
  · simp only [List.mem_cons, List.not_mem_nil, or_false] at hz
    rcases hz with rfl | rfl
    · exact hx
    · exact hy.lower hl
  · simp only [List.mem_cons, List.not_mem_nil, or_false] at hz
    rcases hz with rfl | rfl
    · exact (hx.block e hc).2
    · exact (hy.block e hc).2
  · refine List.pairwise_pair.2 fun b o o' _ hc e e' => ?_
    have h1 := hxm b o e
    have h2 := (hy.block e' hc).1
    omega

/-- the graph, in numbers without a sign -/
def natG (g : List (List Int)) : List (List Nat) := g.map fun l => l.map Int.toNat
theorem natG_back (G : List (List Nat)) : natG (G.map nats) = G := by
  unfold natG
  rw [List.map_map]
  conv => rhs; rw [← List.map_id G]
  exact List.map_congr_left fun l _ => by
    simp only [Function.comp_apply, id_eq, nats]
    exact toNat_back l
/-- what More answers -/
def mRes (g : List (List Int)) (items : Int) (has : List Int) (start : Int) : List Int × Bool × Int :=
  if bOk g items has start = true then (match moreOf (natG g) has start.toNat with | some l => (l, true, 0) | none => ([], false, 0)) else ([], false, 1)
/-- what Reach answers -/
def rRes (g : List (List Int)) (items : Int) (has : List Int) (start : Int) : List Int × List Int × Int :=
  if bOk g items has start = true then (sorted (nats (reachOf (natG g) has start.toNat).ws), nats (whatOf (reachOf (natG g) has start.toNat).came 8), 0) else ([], [], 1)
/-- an answer of More -/
def MoreA (own : Bool) (r : List Int × Bool × Int) (w : World) (e : Ending) (w' : World) : Prop :=
  ∃ a n c, e = .returned (.tuple #[.slice a n c, .bool r.2.1, .int .i64 r.2.2]) ∧ Ints w' a n c r.1 ∧ (own = true → Seg 3 w' w.heap.size w'.heap.size [⟨a, n, c⟩]) ∧ Below w.heap.size w w'
/-- an answer of Reach -/
def ReachA (own : Bool) (r : List Int × List Int × Int) (w : World) (e : Ending) (w' : World) : Prop :=
  ∃ a1 n1 c1 a2 n2 c2, e = .returned (.tuple #[.slice a1 n1 c1, .slice a2 n2 c2, .int .i64 r.2.2]) ∧ Ints w' a1 n1 c1 r.1 ∧ Ints w' a2 n2 c2 r.2.1 ∧ (own = true → Seg 3 w' w.heap.size w'.heap.size [⟨a1, n1, c1⟩, ⟨a2, n2, c2⟩]) ∧ Below w.heap.size w w'

theorem more_ans (ga ha : Option Addr) (gn gc hn hc : Nat) (g : List (List Int)) (items start : Int) (has : List Int) (w : World) (hg : Rows w ga gn gc g) (hh : Ints w ha hn hc has) :
    Calls Tryz.prog 19 #[.slice ga gn gc, .int .i64 items, .slice ha hn hc, .int .i64 start] w (MoreA true (mRes g items has start) w) := by
  have hhl := hh.len
  rcases bCase g items has start with h | ⟨G, f, rfl, rfl, h⟩
  · unfold mRes
    rw [h, if_neg (by decide)]
    exact (More_no ga ha gn gc hn hc g items start has w hg hh h).mono fun _ _ ⟨h1, h2⟩ => ⟨none, 0, 0, h1, Ints.empty _ _ _, fun _ => Seg.one (.inl ⟨rfl, rfl⟩), h2⟩
  · unfold mRes
    rw [h, if_pos rfl, natG_back, Int.toNat_natCast]
    refine (More_own ga ha gn gc hn hc f G items has w hg hh h).mono ?_
    intro e w' h
    unfold moreOf
    rw [hhl]
    cases hm : Way.more (nbOf G) (Way.holdTo (hasAt has) hn) (hasAt has) f with
    | none =>
      rw [hm] at h
      exact ⟨none, 0, 0, h.1, Ints.empty _ _ _, fun _ => Seg.one (.inl ⟨rfl, rfl⟩), h.2⟩
    | some h' =>
      rw [hm] at h
      obtain ⟨a, hs, h1, h2, h3, h4, h5, h6⟩ := h
      refine ⟨a, hn, hn, h1, ?_, fun _ => Seg.one h5.lot, h6⟩
      show Ints w' a hn hn (listOf hn h')
      rw [← h3, ← listOf_hasAt h2.len fun x hx => (h4 x hx).1]
      exact h2
theorem more07_ans (ga ha : Option Addr) (gn gc hn hc : Nat) (g : List (List Int)) (items start : Int) (has : List Int) (w : World) (hg : Rows w ga gn gc g) (hh : Ints w ha hn hc has) :
    Calls Tryz.prog 20 #[.slice ga gn gc, .int .i64 items, .slice ha hn hc, .int .i64 start] w (MoreA false (mRes g items has start) w) := by
  rcases bCase g items has start with h | ⟨G, f, rfl, rfl, h⟩
  · unfold mRes
    rw [h, if_neg (by decide)]
    exact (more07_no ga ha gn gc hn hc g items start has w hg hh h).mono fun _ _ ⟨h1, h2⟩ => ⟨none, 0, 0, h1, Ints.empty _ _ _, fun e => (by cases e), h2⟩
  · have h0 : 0 ≤ items := by
      have h := h
      simp only [bOk, Bool.and_eq_true] at h
      exact (gcheck_parts (fitsB_parts h.1.1.1).1).1
    obtain ⟨N, rfl⟩ := Int.eq_ofNat_of_zero_le h0
    unfold mRes
    rw [h, if_pos rfl, natG_back, Int.toNat_natCast]
    refine (more07_yes ga ha gn gc hn hc f N G has w hg hh h).mono ?_
    intro e w' h
    cases hm : moreOf G has f with
    | none =>
      rw [hm] at h
      exact ⟨none, 0, 0, h.1, Ints.empty _ _ _, fun e => (by cases e), h.2⟩
    | some l =>
      rw [hm] at h
      obtain ⟨a, c, h1, h2, h3⟩ := h
      exact ⟨a, hn, c, h1, h2, fun e => (by cases e), h3⟩
theorem reach_ans (ga ha : Option Addr) (gn gc hn hc : Nat) (g : List (List Int)) (items start : Int) (has : List Int) (w : World) (hg : Rows w ga gn gc g) (hh : Ints w ha hn hc has) :
    Calls Tryz.prog 21 #[.slice ga gn gc, .int .i64 items, .slice ha hn hc, .int .i64 start] w (ReachA true (rRes g items has start) w) := by
  have hhl := hh.len
  rcases bCase g items has start with h | ⟨G, f, rfl, rfl, h⟩
  · unfold rRes
    rw [h, if_neg (by decide)]
    exact (Reach_no ga ha gn gc hn hc g items start has w hg hh h).mono fun _ _ ⟨h1, h2⟩ => ⟨none, 0, 0, none, 0, 0, h1, Ints.empty _ _ _, Ints.empty _ _ _, fun _ => Seg.two (mid := w.heap.size) (.inl ⟨rfl, rfl⟩) (.inl ⟨rfl, rfl⟩) (Nat.le_refl _) (fun b o e => by cases e), h2⟩
  · unfold rRes
    rw [h, if_pos rfl, natG_back, Int.toNat_natCast]
    have hr : Way.full (nbOf G) (Way.holdTo (hasAt has) hn) f = reachOf G has f := by rw [reachOf, hhl]
    have hC := Reach_own ga ha gn gc hn hc f G items has w hg hh h
    rw [hr] at hC
    refine hC.mono ?_
    rintro e w' ⟨a1, n1, a2, n2, h1, h2, h3, ⟨mid, m1, m2, m3, m4⟩, h4⟩
    exact ⟨a1, n1, n1, a2, n2, n2, h1, h2, h3, fun _ => Seg.two m2.lot m4.lot m1 m3, h4⟩
theorem reachR_ans (ga ha : Option Addr) (gn gc hn hc : Nat) (g : List (List Int)) (items start : Int) (has : List Int) (w : World) (hg : Rows w ga gn gc g) (hh : Ints w ha hn hc has) :
    Calls Tryz.prog 22 #[.slice ga gn gc, .int .i64 items, .slice ha hn hc, .int .i64 start] w (ReachA false (rRes g items has start) w) := by
  rcases bCase g items has start with h | ⟨G, f, rfl, rfl, h⟩
  · unfold rRes
    rw [h, if_neg (by decide)]
    exact (reach07_no ga ha gn gc hn hc g items start has w hg hh h).mono fun _ _ ⟨h1, h2⟩ => ⟨none, 0, 0, none, 0, 0, h1, Ints.empty _ _ _, Ints.empty _ _ _, fun e => (by cases e), h2⟩
  · have h0 : 0 ≤ items := by
      have h := h
      simp only [bOk, Bool.and_eq_true] at h
      exact (gcheck_parts (fitsB_parts h.1.1.1).1).1
    obtain ⟨N, rfl⟩ := Int.eq_ofNat_of_zero_le h0
    unfold rRes
    rw [h, if_pos rfl, natG_back, Int.toNat_natCast]
    refine (reach07_ans ga ha gn gc hn hc f N G has w hg hh h).mono ?_
    rintro e w' ⟨a1, n1, c1, a2, n2, c2, h1, h2, h3, h4⟩
    exact ⟨a1, n1, c1, a2, n2, c2, h1, h2, h3, fun e => (by cases e), h4⟩
end Go.Proofs.YtkddkkcfpnndlaaGreatDoor

namespace Go.Proofs.YtkddkkcfpnndlaaGreatDoor
open Go.RowKit

theorem mRes_len (g : List (List Int)) (items : Int) (has : List Int) (start : Int) : (mRes g items has start).1.length ≤ has.length := by
  unfold mRes
  split
  · split
    · rename_i l h
      unfold moreOf at h
      cases hm : Way.more (nbOf (natG g)) (Way.holdTo (hasAt has) has.length) (hasAt has) start.toNat with
      | none => rw [hm] at h; cases h
      | some h' =>
        rw [hm] at h
        cases h
        show (listOf has.length h').length ≤ has.length
        rw [listOf_length]; exact Nat.le_refl _
    · exact Nat.zero_le _
  · exact Nat.zero_le _
theorem rRes_len (g : List (List Int)) (items : Int) (has : List Int) (start : Int) : (rRes g items has start).1.length ≤ 9 ∧ (rRes g items has start).2.1.length ≤ 8 := by
  rcases bCase g items has start with h | ⟨G, f, rfl, rfl, h⟩
  · unfold rRes
    rw [h, if_neg (by decide)]
    exact ⟨Nat.zero_le _, Nat.zero_le _⟩
  · unfold rRes
    rw [h, if_pos rfl, natG_back, Int.toNat_natCast]
    have hb := bOk_parts h
    have hHeld : Way.Held (nbOf G) (hasAt has) (Way.holdTo (hasAt has) has.length) := hb.mat.held (Nat.le_refl _)
    have h8 : ∀ w k, hasAt has w = some k → k < 8 := fun x k e => by
      have hk := hb.mat.fits x k e
      unfold nbOf at hk
      cases hGx : G[x]? with
      | none => rw [hGx] at hk; cases hk
      | some l => rw [hGx] at hk; exact hb.lists l (List.mem_of_getElem? hGx) k hk
    have hI := Way.full_inv (start := f) hHeld hb.zero
    have hl := hI.length hHeld h8
    refine ⟨?_, ?_⟩
    · show (sorted (nats (reachOf G has f).ws)).length ≤ 9
      rw [sorted_length]
      simpa [nats, reachOf] using hl
    · show (nats (whatOf (reachOf G has f).came 8)).length ≤ 8
      simp only [nats, List.length_map]
      exact whatOf_length _ _
theorem GSt.more2 {lo hi : Nat} {rs : List Slc} {x y z : Slc} {wr : World} (h : GSt lo hi rs x wr) (h2 : Seg 3 wr hi wr.heap.size [y, z]) (hl : lo ≤ hi) : GSt lo wr.heap.size (rs ++ [y, z]) x wr :=
  ⟨h.a.append h2 hl h.le, h.b.wide (Nat.le_refl _) h.le, Nat.le_refl _⟩
end Go.Proofs.YtkddkkcfpnndlaaGreatDoor

namespace Go.Proofs.YtkddkkcfpnndlaaGreatDoor
open Go.RowKit Sale

/-- what the law is given, in memory -/
structure PSt (w0 : World) (B1 : Nat) (ga oa : Option Addr) (gn gc o_n oc : Nat) (gains : List (List Int)) (items : Int) (order : List Int) (wr : World) : Prop where
  v : VRow wr B1 50 [.slice ga gn gc, .int .i64 items]
  g : Rows wr ga gn gc gains
  o : Ints wr oa o_n oc order
  below : Below w0.heap.size w0 wr
theorem PSt.step {w0 : World} {B1 : Nat} {ga oa : Option Addr} {gn gc o_n oc : Nat} {gains : List (List Int)} {items : Int} {order : List Int} {wr wr' : World} (h : PSt w0 B1 ga oa gn gc o_n oc gains items order wr) (hb : Below wr.heap.size wr wr') : PSt w0 B1 ga oa gn gc o_n oc gains items order wr' :=
  ⟨h.v.below hb h.v.lt, h.g.below hb (Nat.le_refl _), h.o.below hb (Nat.le_refl _), h.below.trans (hb.mono h.below.size)⟩

set_option maxRecDepth 100000 in
set_option maxHeartbeats 6000000 in
theorem pathsOf_any (ga oa : Option Addr) (gn gc o_n oc : Nat) (gains : List (List Int)) (items : Int) (order : List Int) (start : Int) (w : World) (hg : Rows w ga gn gc gains) (ho : Ints w oa o_n oc order)
    (h1 : gn ≤ 17592186044416) (h2 : o_n ≤ 17592186044416) (hx : ∀ xs, xs ∈ gains → xs.length ≤ 17592186044416) :
    Calls Tryz.prog 4 #[.agg #[.slice ga gn gc, .int .i64 items], .slice oa o_n oc, .int .i64 start] w fun e w' => e = .returned (.bool true) ∧ Below w.heap.size w w' := by
  have hgl := hg.len
  have hol := ho.len
  have HGL := Lib.hid (And.intro hgl hol); clear hgl hol
  obtain ⟨w1, hw1⟩ : ∃ w1, w1 = w.alloc (.cells #[.slice ga gn gc, .int .i64 items] 50) := ⟨_, rfl⟩
  have hb1 : Below w.heap.size w w1 := by rw [hw1]; exact (Below.refl _ _).alloc (Nat.le_refl _) _
  have hv1 : VRow w1 w.heap.size 50 [.slice ga gn gc, .int .i64 items] := by rw [hw1]; exact heap_alloc_new w _
  have HS1 := Lib.hid (show PSt w w.heap.size ga oa gn gc o_n oc gains items order w1 from ⟨hv1, hg.below hb1 (Nat.le_refl _), ho.below hb1 (Nat.le_refl _), hb1⟩)
  clear hb1 hv1 hg ho
  have hw1' := hw1.symm
  clear hw1
  have hww := HS1.out.below.size
  have HX := Lib.hid hx; clear hx
  have p0 := HS1.out.v.cell (k := 0) rfl
  have p1 := HS1.out.v.cell (k := 1) rfl
  go_enter Tryz.func4, Tryz.ntmps4
  go_wp2_with fail
  try rw [hw1']
  clear hw1'
  go_wp2_with fail
  refine (intListsSize_any ga gn gc gains w1 HS1.out.g h1 HX.out).mono ?_
  rintro e w2 ⟨s, rfl, ⟨hs1, hs2, hs3⟩, hw⟩
  subst hw
  have HS := Lib.hid hs3; clear hs3 p0 p1
  obtain ⟨B1, hB1⟩ : ∃ B1, B1 = w.heap.size := ⟨_, rfl⟩
  have HS1' := Lib.hid (show PSt w B1 ga oa gn gc o_n oc gains items order w1 by rw [hB1]; exact HS1.out)
  rw [← hB1]
  clear hB1 HS1
  have HS1 := HS1'; clear HS1'
  have p0 := HS1.out.v.cell (k := 0) rfl
  have p1 := HS1.out.v.cell (k := 1) rfl
  by_cases g1 : 3000 < s
  · have e1 : decide (3000 < s) = true := by simpa using g1
    go_wp2_with fail
    go_ret
    exact ⟨rfl, HS1.out.below⟩
  have e1 : decide (3000 < s) = false := by simpa using g1
  by_cases g2 : 300 < (o_n : Int)
  · have e2 : decide (300 < (o_n : Int)) = true := by simpa using g2
    go_wp2_with fail
    go_ret
    exact ⟨rfl, HS1.out.below⟩
  have e2 : decide (300 < (o_n : Int)) = false := by simpa using g2
  obtain ⟨z1, z2⟩ := HS.out (by omega)
  rw [HGL.out.1] at z1
  have z3 : ∀ xs, xs ∈ gains → xs.length ≤ 3000 := fun xs hx => by have := z2 xs hx; omega
  have HZ := Lib.hid z3; clear z2 z3 HS
  have y1 : gn ≤ 3000 := by omega
  have y2 : o_n ≤ 300 := by omega
  go_wp2_with fail
  clear e1 e2 g1 g2 hs1 hs2 z1
  refine (twinListsF_any ga gn gc gains w1 HS1.out.g (by omega) (fun xs hx => by have := HZ.out xs hx; omega)).mono ?_
  rintro e w3 ⟨B, c, M, vals, gs, rfl, hX, hb3⟩
  have HS3 := Lib.hid (HS1.out.step hb3)
  have hX3 := hX.gst HGL.out.1
  have HX3 := Lib.hid hX; clear hX
  have HG3 := Lib.hid hX3; clear hX3 HS1 p0 p1
  have hz3 := hb3.size
  clear hb3
  go_wp2_with fail
  refine (twinIntsF_any oa o_n oc order w3 HS3.out.o (by omega)).mono ?_
  rintro e w4 ⟨g6, c6, rfl, hY, hb4⟩
  have HS4 := Lib.hid (HS3.out.step hb4)
  have HT4 := Lib.hid (TSt.mk (HX3.out.below hb4 (Nat.le_refl _)) hY)
  have HG4 := Lib.hid ((HG3.out.step hb4).more (TwinF.seg hY HGL.out.2) hz3)
  have hz4 := hb4.size
  clear hY hb4 HS3 HX3 HG3
  have p0 := HS4.out.v.cell (k := 0) rfl
  have p1 := HS4.out.v.cell (k := 1) rfl
  obtain ⟨mr, hmr⟩ : ∃ mr, mr = mRes gains items order start := ⟨_, rfl⟩
  obtain ⟨rr, hrr⟩ : ∃ rr, rr = rRes gains items order start := ⟨_, rfl⟩
  have hml : mr.1.length ≤ 300 := by have h := mRes_len gains items order start; rw [← hmr] at h; have := HGL.out.2; omega
  have hrl : rr.1.length ≤ 9 ∧ rr.2.1.length ≤ 8 := by rw [hrr]; exact rRes_len gains items order start
  obtain ⟨ml, mb, me⟩ := mr
  obtain ⟨r1, r2, re⟩ := rr
  have HLN := Lib.hid (And.intro hml hrl); clear hml hrl
  have HMR := Lib.hid (And.intro hmr hrr); clear hmr hrr
  have hgx := HT4.out.x.rows' HGL.out.1 (by omega) (fun xs hx => ⟨by have := HZ.out xs hx; omega, ?bd⟩)
  case bd =>
    obtain ⟨k, hk⟩ := List.getElem?_of_mem hx
    have hkl := (List.getElem?_eq_some_iff.1 hk).1
    obtain ⟨b, o, e⟩ := HS4.out.g.addr (by have := HGL.out.1; omega)
    obtain ⟨_, _, _, _, hi⟩ := HS4.out.g.cell b o e k xs hk
    exact hi.bd
  have hoy := HT4.out.y.ints (by have := HGL.out.2; omega) HS4.out.o.bd
  rw [HGL.out.2] at hoy
  have HGX := Lib.hid hgx; clear hgx
  have HOY := Lib.hid hoy; clear hoy
  go_wp2_with fail
  refine (more_ans (some ⟨B, 0, none⟩) (some ⟨g6, 0, none⟩) gn c o_n c6 gains items start order w4 HGX.out HOY.out).mono ?_
  rw [← HMR.out.1]
  rintro e w5 ⟨aa, an, ac, rfl, hA, hSa, hb5⟩
  have HS5 := Lib.hid (HS4.out.step hb5)
  have HT5 := Lib.hid (HT4.out.step hb5)
  have HG5 := Lib.hid ((HG4.out.step hb5).more (hSa rfl) (by omega))
  have HA5 := Lib.hid hA
  have hz5 := hb5.size
  have HGX5 := Lib.hid (HGX.out.below hb5 (Nat.le_refl _))
  have HOY5 := Lib.hid (HOY.out.below hb5 (Nat.le_refl _))
  clear hA hSa hb5 HS4 HT4 HG4 HGX HOY p0 p1
  have p0 := HS5.out.v.cell (k := 0) rfl
  have p1 := HS5.out.v.cell (k := 1) rfl
  go_wp2_with fail
  refine (more07_ans ga oa gn gc o_n oc gains items start order w5 HS5.out.g HS5.out.o).mono ?_
  rw [← HMR.out.1]
  rintro e w6 ⟨ba, bn, bc, rfl, hB, -, hb6⟩
  have HS6 := Lib.hid (HS5.out.step hb6)
  have HT6 := Lib.hid (HT5.out.step hb6)
  have HG6 := Lib.hid (HG5.out.step hb6).wide
  have HA6 := Lib.hid (HA5.out.below hb6 (Nat.le_refl _))
  have HGX6 := Lib.hid (HGX5.out.below hb6 (Nat.le_refl _))
  have HOY6 := Lib.hid (HOY5.out.below hb6 (Nat.le_refl _))
  have HB6 := Lib.hid hB
  have hz6 := hb6.size
  clear hB hb6 HS5 HT5 HG5 HA5 HGX5 HOY5 p0 p1
  have p0 := HS6.out.v.cell (k := 0) rfl
  have p1 := HS6.out.v.cell (k := 1) rfl
  go_wp2_with fail
  refine (reach_ans (some ⟨B, 0, none⟩) (some ⟨g6, 0, none⟩) gn c o_n c6 gains items start order w6 HGX6.out HOY6.out).mono ?_
  rw [← HMR.out.2]
  rintro e w20 ⟨qa, qn, qc, sa, sn, sc, rfl, hQ, hS, hSq, hb20⟩
  have HS20 := Lib.hid (HS6.out.step hb20)
  have HT20 := Lib.hid (HT6.out.step hb20)
  have HG20 := Lib.hid ((HG6.out.step hb20).more2 (hSq rfl) (by omega))
  have HA20 := Lib.hid (HA6.out.below hb20 (Nat.le_refl _))
  have HB20 := Lib.hid (HB6.out.below hb20 (Nat.le_refl _))
  have HQ20 := Lib.hid (And.intro hQ hS)
  have hz20 := hb20.size
  clear hQ hS hSq hb20 HS6 HT6 HG6 HA6 HB6 HGX6 HOY6 p0 p1
  have p0 := HS20.out.v.cell (k := 0) rfl
  have p1 := HS20.out.v.cell (k := 1) rfl
  go_wp2_with fail
  refine (reachR_ans ga oa gn gc o_n oc gains items start order w20 HS20.out.g HS20.out.o).mono ?_
  rw [← HMR.out.2]
  rintro e w21 ⟨ta, tn, tc, ua, un, uc, rfl, hT, hU, -, hb21⟩
  have HS21 := Lib.hid (HS20.out.step hb21)
  have HT21 := Lib.hid (HT20.out.step hb21)
  have HG21 := Lib.hid (HG20.out.step hb21)
  have HA21 := Lib.hid (HA20.out.below hb21 (Nat.le_refl _))
  have HB21 := Lib.hid (HB20.out.below hb21 (Nat.le_refl _))
  have HQ21 := Lib.hid (And.intro (HQ20.out.1.below hb21 (Nat.le_refl _)) (HQ20.out.2.below hb21 (Nat.le_refl _)))
  have HU21 := Lib.hid (And.intro hT hU)
  have hz21 := hb21.size
  have hlq := And.intro HA21.out.len (And.intro HQ21.out.1.len HQ21.out.2.len)
  have HLQ := Lib.hid hlq
  clear hT hU hb21 HS20 HT20 HG20 HA20 HB20 HQ20 HMR p0 p1 hlq
  go_wp2_with fail
  refine (same_any aa ba an ac bn bc ml ml w21 HA21.out HB21.out).mono ?_
  rintro e w22 ⟨he, hb22⟩
  rw [decide_eq_true rfl] at he
  subst he
  have HS22 := Lib.hid (HS21.out.step hb22)
  have HT22 := Lib.hid (HT21.out.step hb22)
  have HG22 := Lib.hid (HG21.out.step hb22)
  have HQ22 := Lib.hid (And.intro (HQ21.out.1.below hb22 (Nat.le_refl _)) (HQ21.out.2.below hb22 (Nat.le_refl _)))
  have HU22 := Lib.hid (And.intro (HU21.out.1.below hb22 (Nat.le_refl _)) (HU21.out.2.below hb22 (Nat.le_refl _)))
  have hz22 := hb22.size
  clear hb22 HS21 HT21 HG21 HQ21 HU21 HA21 HB21
  go_wp2_with fail
  refine (same_any qa ta qn qc tn tc r1 r1 w22 HQ22.out.1 HU22.out.1).mono ?_
  rintro e w23 ⟨he, hb23⟩
  rw [decide_eq_true rfl] at he
  subst he
  have HS23 := Lib.hid (HS22.out.step hb23)
  have HT23 := Lib.hid (HT22.out.step hb23)
  have HG23 := Lib.hid (HG22.out.step hb23)
  have HQ23 := Lib.hid (HQ22.out.2.below hb23 (Nat.le_refl _))
  have HU23 := Lib.hid (HU22.out.2.below hb23 (Nat.le_refl _))
  have hz23 := hb23.size
  clear hb23 HS22 HT22 HG22 HQ22 HU22
  go_wp2_with fail
  refine (same_any sa ua sn sc un uc r2 r2 w23 HQ23.out HU23.out).mono ?_
  rintro e w16 ⟨he, hb16⟩
  rw [decide_eq_true rfl] at he
  subst he
  have HS16 := Lib.hid (HS23.out.step hb16)
  have HT16 := Lib.hid (HT23.out.step hb16)
  have HG16 := Lib.hid (HG23.out.step hb16)
  have hz16 := hb16.size
  clear hb16 HS23 HT23 HG23 HQ23 HU23
  have p0 := HS16.out.v.cell (k := 0) rfl
  go_wp2_with fail
  refine (leftIntLists_any B c M gn gc ga gn _ vals gs gains w16 HT16.out.x HGL.out.1 HS16.out.g (by omega) (fun xs hx => by have := HZ.out xs hx; omega)).mono ?_
  rintro e w17 ⟨rfl, hb17⟩
  have HS17 := Lib.hid (HS16.out.step hb17)
  have HT17 := Lib.hid (HT16.out.step hb17)
  have HG17 := Lib.hid (HG16.out.step hb17)
  have hz17 := hb17.size
  clear hb17 HS16 HT16 HG16 p0
  go_wp2_with fail
  refine (leftInts_any g6 c6 o_n oc oa o_n _ order w17 HT17.out.y HGL.out.2 HS17.out.o (by omega)).mono ?_
  rintro e w7 ⟨rfl, hb7⟩
  have HS7 := Lib.hid (HS17.out.step hb7)
  have HT7 := Lib.hid (HT17.out.step hb7)
  have HG7 := Lib.hid (HG17.out.step hb7).wide
  have hz7 := hb7.size
  clear hb7 HS17 HT17 HG17
  have hlies := HT7.out.x.lies HGL.out.1
  have hbk := BookHas.new w7
  obtain ⟨w8, hw8⟩ : ∃ w8, w8 = w7.alloc (.cells #[.int .i64 0, .slice none 0 0, .slice none 0 0, .slice none 0 0, .slice none 0 0, .slice none 0 0, .slice none 0 0, .slice none 0 0, .slice none 0 0, .slice none 0 0] 44) := ⟨_, rfl⟩
  rw [← hw8] at hbk
  have hb8 : Below w7.heap.size w7 w8 := by rw [hw8]; exact (Below.refl _ _).alloc (Nat.le_refl _) _
  have HLI := Lib.hid (hlies.keep hb8); clear hlies
  have HK8 := Lib.hid hbk; clear hbk
  obtain ⟨Bk, hBk⟩ : ∃ Bk, Bk = w7.heap.size := ⟨_, rfl⟩
  rw [← hBk] at HK8 HLI
  have HB8 := Lib.hid hb8; clear hb8
  have hw8' := hw8.symm
  clear hw8
  have HBK := Lib.hid hBk
  go_wp2_with fail
  try rw [hw8']
  try rw [← hBk]
  clear hw8' hBk
  refine (bIntLists_any Bk 0 (some ⟨B, 0, none⟩) gn c (vals.map toSlc) [] [] [] w8 HK8.out HLI.out (by omega)).mono ?_
  rintro e w9 ⟨⟨v, rfl⟩, hk9, hf9⟩
  have HB9 := Lib.hid (show Below w7.heap.size w7 w9 from HB8.out.trans (by rw [← HBK.out]; exact hf9.low))
  have HK9 := Lib.hid hk9
  clear hk9 hf9 HB8 HK8 HLI
  go_wp2_with fail
  refine (bInts_any Bk (0 + gn + 1) (some ⟨g6, 0, none⟩) o_n c6 _ _ _ w9 HK9.out (by omega)).mono ?_
  rintro e w10 ⟨⟨v, rfl⟩, hk10, hf10⟩
  have HB10 := Lib.hid (show Below w7.heap.size w7 w10 from HB9.out.trans (by rw [← HBK.out]; exact hf10.low))
  have HK10 := Lib.hid hk10
  clear hk10 hf10 HB9 HK9
  go_wp2_with fail
  refine (bInts_any Bk (0 + gn + 1 + 1) aa an ac _ _ _ w10 HK10.out (by omega)).mono ?_
  rintro e w30 ⟨⟨v, rfl⟩, hk30, hf30⟩
  have HB30 := Lib.hid (show Below w7.heap.size w7 w30 from HB10.out.trans (by rw [← HBK.out]; exact hf30.low))
  have HK30 := Lib.hid hk30
  clear hk30 hf30 HB10 HK10
  go_wp2_with fail
  refine (bInts_any Bk (0 + gn + 1 + 1 + 1) qa qn qc _ _ _ w30 HK30.out (by omega)).mono ?_
  rintro e w31 ⟨⟨v, rfl⟩, hk31, hf31⟩
  have HB31 := Lib.hid (show Below w7.heap.size w7 w31 from HB30.out.trans (by rw [← HBK.out]; exact hf31.low))
  have HK31 := Lib.hid hk31
  clear hk31 hf31 HB30 HK30
  go_wp2_with fail
  refine (bInts_any Bk (0 + gn + 1 + 1 + 1 + 1) sa sn sc _ _ _ w31 HK31.out (by omega)).mono ?_
  rintro e w11 ⟨⟨v, rfl⟩, hk11, hf11⟩
  have hb11 : Below w7.heap.size w7 w11 := HB31.out.trans (by rw [← HBK.out]; exact hf11.low)
  have HS11 := Lib.hid (HS7.out.step hb11)
  have HG11 := Lib.hid (HG7.out.step hb11)
  have HT11 := Lib.hid (HT7.out.step hb11)
  have HK11 := Lib.hid hk11
  clear hk11 hf11 hb11 HB31 HK31 HS7 HG7 HT7
  have hsA := HG11.out.a
  have hsB := HG11.out.b
  rw [← HBK.out] at hsA hsB
  have HSA := Lib.hid hsA; clear hsA
  have HSB := Lib.hid hsB; clear hsB
  have hlo : w1.heap.size ≤ Bk := by have := HBK.out; omega
  go_wp2_with fail
  refine (apart_any Bk (0 + gn + 1 + 1 + 1 + 1 + 1) w1.heap.size _ _ _ w11 HK11.out (by omega) hlo (Seg.nil _ _ _ _) (by simpa using HSA.out) (by simpa using HSB.out) ?_).mono ?_
  · intro x hx
    have hrs := toSlc_len HT11.out.x (K := 3000) (fun xs hx => HZ.out xs hx)
    simp only [List.nil_append, List.mem_append, List.mem_cons, List.not_mem_nil, or_false, false_or] at hx
    have hlq := HLQ.out
    have hln : ml.length ≤ 300 ∧ r1.length ≤ 9 ∧ r2.length ≤ 8 := ⟨HLN.out.1, HLN.out.2.1, HLN.out.2.2⟩
    have hlq' : ml.length = an ∧ r1.length = qn ∧ r2.length = sn := hlq
    clear hlq
    rcases hx with ((((hx | rfl) | rfl) | rfl) | rfl) | rfl
    all_goals first | (have := hrs x hx; omega) | (show _ ≤ 900000; simp only []; omega)
  rintro e w12 ⟨rfl, hb12⟩
  have HB12 := Lib.hid (HS11.out.below.trans (hb12.mono hww)); clear hb12
  go_wp2_with fail
  go_ret
  exact ⟨rfl, HB12.out⟩
end Go.Proofs.YtkddkkcfpnndlaaGreatDoor
