/- Twins of lists, of a market: what a write leaves, and how they are read. Walks: salesroomlaw01.TwinMarket. Walks: salesroomlaw01.TwinMarket, with the marks in the room behind. Walks: salesroomlaw01.TwinOutcome. Walks: salesroomlaw01.TwinOutcome, with the marks in the room behind. Walks: is a twin still what it was made of, its marks too: LeftInts, LeftIntLists, LeftMarket, LeftOutcome. -/
import Derived.Test.YtkddkkcfpnndlaaGreatDoorOq34
import Derived.Test.YtkddkkcfpnndlaaGreatDoorOq09
import Derived.Test.YtkddkkcfpnndlaaGreatDoorOq29
import Derived.Test.YtkddkkcfpnndlaaGreatDoorOq35
import Derived.Test.YtkddkkcfpnndlaaGreatDoorOq10
import Derived.Test.YtkddkkcfpnndlaaGreatDoorOq11
import Derived.BigRegion
namespace Go.Proofs.YtkddkkcfpnndlaaGreatDoor
open Go.RowKit Sale

structure MBd (m : Mkt) : Prop where
 res : m.res.length ≤ 100000 ∧ ∀ x, x ∈ m.res → -9223372036854775808 ≤ x ∧ x ≤ 9223372036854775807
 bids : m.bids.length ≤ 100000 ∧ ∀ xs, xs ∈ m.bids → xs.length ≤ 100000 ∧ ∀ x, x ∈ xs → -9223372036854775808 ≤ x ∧ x ≤ 9223372036854775807
 ord : m.ord.length ≤ 100000 ∧ ∀ x, x ∈ m.ord → -9223372036854775808 ≤ x ∧ x ≤ 9223372036854775807
/-! ### where nobody gains -/
end Go.Proofs.YtkddkkcfpnndlaaGreatDoor

namespace Go.Proofs.YtkddkkcfpnndlaaGreatDoor
open Go.RowKit Sale

def tm0 (w : World) (ra ba oa : Option Addr) (rn rc bn bc on oc : Nat) : World := (mw w ra ba oa rn rc bn bc on oc).alloc (.cells #[.slice none 0 0, .slice none 0 0, .slice none 0 0] 57)
theorem tm0_at (w : World) (ra ba oa : Option Addr) (rn rc bn bc on oc : Nat) : VRow (tm0 w ra ba oa rn rc bn bc on oc) w.heap.size 57 [.slice ra rn rc, .slice ba bn bc, .slice oa on oc] ∧
   VRow (tm0 w ra ba oa rn rc bn bc on oc) (w.heap.size + 1) 57 [.slice none 0 0, .slice none 0 0, .slice none 0 0] ∧ Below w.heap.size w (tm0 w ra ba oa rn rc bn bc on oc) ∧ (tm0 w ra ba oa rn rc bn bc on oc).heap.size = w.heap.size + 2 := by
 have h1 := VRow.new w 57 [.slice ra rn rc, .slice ba bn bc, .slice oa on oc]
 have h2 := VRow.new (mw w ra ba oa rn rc bn bc on oc) 57 [.slice none 0 0, .slice none 0 0, .slice none 0 0]
 rw [show (mw w ra ba oa rn rc bn bc on oc).heap.size = w.heap.size + 1 by simp [mw]] at h2
 exact ⟨h1.alloc _, h2, ((Below.refl _ _).alloc (Nat.le_refl _) _).alloc (by simp) _, by simp [tm0, mw]⟩

theorem tm_results {h : Nat} {v0 v1 v2 : Value} {tmps : Array Value} (t2 : tmps[2]?.getD undef = .pointer (some ⟨h, 0, none⟩)) (W : World) (hO : VRow W h 57 [v0, v1, v2]) :
   (results Tryz.f25 tmps).run Tryz.prog W = .ok (.agg #[v0, v1, v2]) W := by
 have c0 := hO.cell (k := 0) rfl
 have c1 := hO.cell (k := 1) rfl
 have c2 := hO.cell (k := 2) rfl
 simp [results, Tryz.results25, go_sem, t2, c0, c1, c2]

end Go.Proofs.YtkddkkcfpnndlaaGreatDoor

namespace Go.Proofs.YtkddkkcfpnndlaaGreatDoor
open Go.RowKit Sale

structure MktF (w : World) (base s1 s2 g1 c1 B cB M g3 c3 : Nat) (vals : List Value) (gs : List Nat) (m : Mkt) : Prop where
 res : RowF w base g1 c1 m.res
 rows : RowsF w s1 B cB M vals gs m.bids
 ord : RowF w s2 g3 c3 m.ord
 l1 : g1 < s1
 lB : B < s2
 lM : M < s2
 lg : ∀ g, g ∈ gs → g < s2
 b1 : base ≤ s1
 b2 : s1 ≤ s2
theorem RowsF.below {w w' : World} {base B c M B' : Nat} {vals : List Value} {gs : List Nat} {xss : List (List Int)} (h : RowsF w base B c M vals gs xss) (hb : Below B' w w') (hB : w.heap.size ≤ B') : RowsF w' base B c M vals gs xss := by
 obtain ⟨⟨r1, r2⟩, h2, h3, h4, h5⟩ := h
 refine ⟨⟨r1, ?_⟩, h2, h3.below hb hB, Tab.below h4 hb (by have := Tab.lt h4; omega), h5⟩
 rcases r2 with ⟨e, _⟩ | ⟨g, cap, cur, e, hg, hh, r⟩
 · cases e
 · exact .inr ⟨g, cap, cur, e, hg, by rw [hb.block g (by have := (Array.getElem?_eq_some_iff.1 hh).1; omega)]; exact hh, r⟩
theorem MktF.below {w w' : World} {base s1 s2 g1 c1 B cB M g3 c3 B' : Nat} {vals : List Value} {gs : List Nat} {m : Mkt} (h : MktF w base s1 s2 g1 c1 B cB M g3 c3 vals gs m) (hb : Below B' w w') (hB : w.heap.size ≤ B') : MktF w' base s1 s2 g1 c1 B cB M g3 c3 vals gs m :=
 ⟨h.res.below hb hB, h.rows.below hb hB, h.ord.below hb hB, h.l1, h.lB, h.lM, h.lg, h.b1, h.b2⟩
theorem MktF.step {w w' : World} {base s1 s2 g1 c1 B cB M g3 c3 : Nat} {vals : List Value} {gs : List Nat} {m : Mkt} (h : MktF w base s1 s2 g1 c1 B cB M g3 c3 vals gs m) (hb : Below w.heap.size w w') : MktF w' base s1 s2 g1 c1 B cB M g3 c3 vals gs m := h.below hb (Nat.le_refl _)
theorem RowsF.rows' {w : World} {base B c M n : Nat} {vals : List Value} {gs : List Nat} {xss : List (List Int)} (h : RowsF w base B c M vals gs xss) (hn : xss.length = n) (hbig : n ≤ 100000) (hbd : ∀ xs, xs ∈ xss → xs.length ≤ 100000 ∧ ∀ x, x ∈ xs → -9223372036854775808 ≤ x ∧ x ≤ 9223372036854775807) : Rows w (some ⟨B, 0, none⟩) n c xss := by
 obtain ⟨ht, _, _, hc, _⟩ := owns_tab h.own
 refine ⟨hn, by omega, by omega, fun _ => ⟨_, _, rfl⟩, fun b o e j xs hj => ?_⟩
 cases e
 have hjn := (List.getElem?_eq_some_iff.1 hj).1
 obtain ⟨g, hg⟩ : ∃ g, gs[j]? = some g := ⟨_, List.getElem?_eq_getElem (by rw [h.rows.len]; exact hjn)⟩
 obtain ⟨c', h1, h3⟩ := h.rows.row j xs g hj hg
 have hb := hbd xs (List.mem_of_getElem? hj)
 exact ⟨_, _, c', by rw [Nat.zero_add]; exact ht.head.cell h1, h3.ints (by omega) hb.2⟩
theorem MktF.mkt {w : World} {base s1 s2 g1 c1 B cB M g3 c3 rn bn on : Nat} {vals : List Value} {gs : List Nat} {m : Mkt} (h : MktF w base s1 s2 g1 c1 B cB M g3 c3 vals gs m) (hm : MBd m) (h1 : m.res.length = rn) (h2 : m.bids.length = bn) (h3 : m.ord.length = on) :
   MktAt w (some ⟨g1, 0, none⟩) (some ⟨B, 0, none⟩) (some ⟨g3, 0, none⟩) rn c1 bn cB on c3 m := by
 have a := h.res.ints (by have := hm.res.1; omega) hm.res.2
 have b := h.ord.ints (by have := hm.ord.1; omega) hm.ord.2
 rw [h1] at a
 rw [h3] at b
 exact ⟨a, h.rows.rows' h2 (by have := hm.bids.1; omega) hm.bids.2, b⟩
theorem ownsRow_far {w : World} {base : Nat} {T : TypeId} {v : Value} {n : Nat} {vals : List Value} (h : w.ownsRow base T 1 v n vals) {a : Addr} (ha : a.block < base) (u : Value) : (w.setCell a u).ownsRow base T 1 v n vals := by
 obtain ⟨r1, r2⟩ := h
 refine ⟨r1, ?_⟩
 rcases r2 with e | ⟨g, cap, cur, e, hg, hh, r⟩
 · exact .inl e
 · exact .inr ⟨g, cap, cur, e, hg, by rw [heap_setCell_other w a g u (by omega)]; exact hh, r⟩
theorem RowF.under {w : World} {base g c : Nat} {xs : List Int} (h : RowF w base g c xs) {a : Addr} (ha : a.block < base) (u : Value) : RowF (w.setCell a u) base g c xs := ownsRow_far h ha u
theorem RowsF.under {w : World} {base B c M : Nat} {vals : List Value} {gs : List Nat} {xss : List (List Int)} (h : RowsF w base B c M vals gs xss) {a : Addr} (ha : a.block < base) (u : Value) : RowsF (w.setCell a u) base B c M vals gs xss :=
 ⟨ownsRow_far h.own ha u, h.vlen, ⟨h.rows.len, h.rows.nodup, fun g hg => by simpa using h.rows.at' g hg, fun i xs g h1 h2 => by
   obtain ⟨c', e1, e2⟩ := h.rows.row i xs g h1 h2
   exact ⟨c', e1, e2.under ha u⟩⟩, Tab.other h.mark (by have := h.m.1; omega) _, h.m⟩
theorem MktF.under {w : World} {base s1 s2 g1 c1 B cB M g3 c3 : Nat} {vals : List Value} {gs : List Nat} {m : Mkt} (h : MktF w base s1 s2 g1 c1 B cB M g3 c3 vals gs m) {a : Addr} (ha : a.block < base) (u : Value) : MktF (w.setCell a u) base s1 s2 g1 c1 B cB M g3 c3 vals gs m :=
 ⟨h.res.under ha u, h.rows.under (Nat.lt_of_lt_of_le ha h.b1) u, h.ord.under (Nat.lt_of_lt_of_le ha (Nat.le_trans h.b1 h.b2)) u, h.l1, h.lB, h.lM, h.lg, h.b1, h.b2⟩
def TwinSaysF (w : World) (rn bn on : Nat) (m : Mkt) (e : Ending) (w' : World) : Prop :=
 ∃ (g1 c1 B cB M g3 c3 s1 s2 : Nat) (vals : List Value) (gs : List Nat), e = .returned (.agg #[.slice (some ⟨g1, 0, none⟩) rn c1, .slice (some ⟨B, 0, none⟩) bn cB, .slice (some ⟨g3, 0, none⟩) on c3]) ∧
   MktF w' w.heap.size s1 s2 g1 c1 B cB M g3 c3 vals gs m ∧ Below w.heap.size w w'

def TPF (H h : Nat) (ra ba oa : Option Addr) (rn rc bn bc on oc : Nat) (m : Mkt) (i : Nat) (v : Nat → Value) (w : World) : Prop := match i with
 | 0 => v 0 = .pointer (some ⟨h, 0, none⟩)
 | 1 => v 1 = .slice ra rn rc
 | 2 => ∃ g1 c1, v 2 = .slice (some ⟨g1, 0, none⟩) rn c1 ∧ RowF w H g1 c1 m.res
 | 3 => v 3 = .pointer (some ⟨h, 1, none⟩)
 | 4 => v 4 = .slice ba bn bc
 | 5 => ∃ g1 c1 B cB M s1 vals gs, (v 2 = .slice (some ⟨g1, 0, none⟩) rn c1 ∧ RowF w H g1 c1 m.res ∧ g1 < s1 ∧ H ≤ s1) ∧ v 5 = .slice (some ⟨B, 0, none⟩) bn cB ∧ RowsF w s1 B cB M vals gs m.bids
 | 6 => v 6 = .pointer (some ⟨h, 2, none⟩)
 | 7 => v 7 = .slice oa on oc
 | 8 => ∃ g1 c1 B cB M g3 c3 s1 s2 vals gs, v 2 = .slice (some ⟨g1, 0, none⟩) rn c1 ∧ v 5 = .slice (some ⟨B, 0, none⟩) bn cB ∧ v 8 = .slice (some ⟨g3, 0, none⟩) on c3 ∧ MktF w H s1 s2 g1 c1 B cB M g3 c3 vals gs m
 | 9 => ∃ g1 c1 B cB M g3 c3 s1 s2 vals gs, v 9 = .agg #[.slice (some ⟨g1, 0, none⟩) rn c1, .slice (some ⟨B, 0, none⟩) bn cB, .slice (some ⟨g3, 0, none⟩) on c3] ∧ MktF w H s1 s2 g1 c1 B cB M g3 c3 vals gs m
 | _ => True
def TPG (i : Nat) : List Nat := match i with
 | 5 => [2]
 | 8 => [2, 5]
 | _ => []
theorem TPF_congr {H h : Nat} {ra ba oa : Option Addr} {rn rc bn bc on oc : Nat} {m : Mkt} : ∀ j (v v' : Nat → Value) (w : World), v j = v' j → (∀ k, k ∈ TPG j → v k = v' k) → TPF H h ra ba oa rn rc bn bc on oc m j v w → TPF H h ra ba oa rn rc bn bc on oc m j v' w
 | 0, v, v', w, e, _, p => (e ▸ p : v' 0 = _)
 | 1, v, v', w, e, _, p => (e ▸ p : v' 1 = _)
 | 2, v, v', w, e, _, p => by obtain ⟨g1, c1, p1, p2⟩ := p; exact ⟨g1, c1, e ▸ p1, p2⟩
 | 3, v, v', w, e, _, p => (e ▸ p : v' 3 = _)
 | 4, v, v', w, e, _, p => (e ▸ p : v' 4 = _)
 | 5, v, v', w, e, d, p => by
   have d2 := d 2 (by simp [TPG])
   obtain ⟨g1, c1, B, cB, M, s1, vals, gs, ⟨p1, q⟩, p2, r⟩ := p
   exact ⟨g1, c1, B, cB, M, s1, vals, gs, ⟨d2 ▸ p1, q⟩, e ▸ p2, r⟩
 | 6, v, v', w, e, _, p => (e ▸ p : v' 6 = _)
 | 7, v, v', w, e, _, p => (e ▸ p : v' 7 = _)
 | 8, v, v', w, e, d, p => by
   have d2 := d 2 (by simp [TPG])
   have d5 := d 5 (by simp [TPG])
   obtain ⟨g1, c1, B, cB, M, g3, c3, s1, s2, vals, gs, p1, p2, p3, r⟩ := p
   exact ⟨g1, c1, B, cB, M, g3, c3, s1, s2, vals, gs, d2 ▸ p1, d5 ▸ p2, e ▸ p3, r⟩
 | 9, v, v', w, e, _, p => by
   obtain ⟨g1, c1, B, cB, M, g3, c3, s1, s2, vals, gs, p1, r⟩ := p
   exact ⟨g1, c1, B, cB, M, g3, c3, s1, s2, vals, gs, e ▸ p1, r⟩
 | (_ + 10), _, _, _, _, _, _ => trivial
theorem TPF_mono {H h : Nat} {ra ba oa : Option Addr} {rn rc bn bc on oc : Nat} {m : Mkt} : ∀ j (v : Nat → Value) (w w' : World), Below w.heap.size w w' → TPF H h ra ba oa rn rc bn bc on oc m j v w → TPF H h ra ba oa rn rc bn bc on oc m j v w'
 | 0, _, _, _, _, p => p
 | 1, _, _, _, _, p => p
 | 2, _, _, _, hb, p => by obtain ⟨g1, c1, p1, p2⟩ := p; exact ⟨g1, c1, p1, p2.below hb (Nat.le_refl _)⟩
 | 3, _, _, _, _, p => p
 | 4, _, _, _, _, p => p
 | 5, _, _, _, hb, p => by
   obtain ⟨g1, c1, B, cB, M, s1, vals, gs, ⟨p1, q1, q2⟩, p2, r1⟩ := p
   exact ⟨g1, c1, B, cB, M, s1, vals, gs, ⟨p1, q1.below hb (Nat.le_refl _), q2⟩, p2, r1.below hb (Nat.le_refl _)⟩
 | 6, _, _, _, _, p => p
 | 7, _, _, _, _, p => p
 | 8, _, _, _, hb, p => by
   obtain ⟨g1, c1, B, cB, M, g3, c3, s1, s2, vals, gs, p1, p2, p3, r4⟩ := p
   exact ⟨g1, c1, B, cB, M, g3, c3, s1, s2, vals, gs, p1, p2, p3, r4.below hb (Nat.le_refl _)⟩
 | 9, _, _, _, hb, p => by
   obtain ⟨g1, c1, B, cB, M, g3, c3, s1, s2, vals, gs, p1, r4⟩ := p
   exact ⟨g1, c1, B, cB, M, g3, c3, s1, s2, vals, gs, p1, r4.below hb (Nat.le_refl _)⟩
 | (_ + 10), _, _, _, _, _ => trivial

set_option maxRecDepth 100000 in
set_option maxHeartbeats 4000000 in
theorem twinMarketF_any (ra ba oa : Option Addr) (rn rc bn bc on oc : Nat) (m : Mkt) (w : World) (hm : MktAt w ra ba oa rn rc bn bc on oc m) (h1 : rn ≤ 100000) (h2 : bn ≤ 100000) (h3 : on ≤ 100000) (hx : ∀ xs, xs ∈ m.bids → xs.length ≤ 100000) :
   Calls Tryz.prog 25 #[.agg #[.slice ra rn rc, .slice ba bn bc, .slice oa on oc]] w (TwinSaysF w rn bn on m) := by
 obtain ⟨hv1, hv2, hb0, hz0⟩ := tm0_at w ra ba oa rn rc bn bc on oc
 obtain ⟨W0, hW0⟩ : ∃ W0, W0 = tm0 w ra ba oa rn rc bn bc on oc := ⟨_, rfl⟩
 rw [← hW0] at hv1 hv2 hb0 hz0
 have k0 := hv1.cell (k := 0) rfl
 have k1 := hv1.cell (k := 1) rfl
 have k2 := hv1.cell (k := 2) rfl
 have HM := Lib.hid (hm.below hb0 (Nat.le_refl _))
 have HX := Lib.hid hx
 have HL := Lib.hid (And.intro hm.res.len (And.intro hm.bids.len hm.ord.len))
 have HV := Lib.hid (And.intro hv2 (And.intro hb0 hz0))
 clear hv1 hv2 hb0 hm hx hz0
 go_enter Tryz.func25, Tryz.ntmps25
 go_upto_region 1 with fail
 rw [show (w.alloc (.cells #[.slice ra rn rc, .slice ba bn bc, .slice oa on oc] 57)).alloc (.cells #[.slice none 0 0, .slice none 0 0, .slice none 0 0] 57) = W0 from hW0.symm]
 clear hW0
 go_cut [12] (fun s12 wx => ∃ g1 c1 B cB M g3 c3 s1 s2 vals gs, VRow wx (w.heap.size + 1) 57 [.slice (some ⟨g1, 0, none⟩) rn c1, .slice (some ⟨B, 0, none⟩) bn cB, .slice (some ⟨g3, 0, none⟩) on c3] ∧ MktF wx W0.heap.size s1 s2 g1 c1 B cB M g3 c3 vals gs m ∧ Below w.heap.size w wx)
 case first =>
   refine wp_region_dep' (by kernel_rfl) [3, 4, 5, 6, 7, 8, 9, 10, 11, 12] TPG (TPF W0.heap.size w.heap.size ra ba oa rn rc bn bc on oc m) (fun w' => Below W0.heap.size W0 w') (by simp) (by kernel_rfl) (by simp) (by decide) (by simp [fold]) (by kernel_rfl) TPF_congr TPF_mono (Below.refl _ _).drew ?hstep ?hlast
   case hlast =>
     intro o v wx K ho hB hd hK
     simp only [List.length_cons, List.length_nil, Nat.reduceAdd, Nat.reduceSub, List.getElem?_cons_zero, List.getElem?_cons_succ, Option.some.injEq] at ho
     subst ho
     simp only [fold, Nat.zero_add, Nat.reduceAdd, List.setIfInBounds_toArray, List.set_cons_zero, List.set_cons_succ]
     obtain ⟨g1, c1, B, cB, M, g3, c3, s1, s2, vals, gs, d9, r4⟩ : TPF W0.heap.size w.heap.size ra ba oa rn rc bn bc on oc m 9 v wx := hd 9 (by simp)
     rw [d9]
     have hv := HV.out.1.below hB HV.out.1.lt
     have c0 := hv.cell (k := 0) rfl
     have c1' := hv.cell (k := 1) rfl
     have c2 := hv.cell (k := 2) rfl
     have f0 := hv.frozen 0
     have f1 := hv.frozen 1
     have f2 := hv.frozen 2
     have HVV := Lib.hid hv; clear hv
     have HR4 := Lib.hid r4; clear r4
     have HBB := Lib.hid hB; clear hB
     clear hd
     go_wp2_with fail
     go_meet
     have hz := HV.out.2.2
     have hp1 := HR4.out.res.parts.2.1
     have hp3 := HR4.out.ord.parts.2.1
     have hb1 := HR4.out.b1
     have hb2 := HR4.out.b2
     have hpB := (owns_tab HR4.out.rows.own).2.1
     have hpM := HR4.out.rows.m.1
     have far : ∀ (W : World) (k : Nat) (u : Value), MktF W W0.heap.size s1 s2 g1 c1 B cB M g3 c3 vals gs m → MktF (W.setCell ⟨w.heap.size + 1, k, none⟩ u) W0.heap.size s1 s2 g1 c1 B cB M g3 c3 vals gs m := fun W k u h =>
       h.under (by simp; omega) u
     refine ⟨g1, c1, B, cB, M, g3, c3, s1, s2, vals, gs, ((HVV.out.set 0 _).set 1 _).set 2 _, far _ _ _ (far _ _ _ (far _ _ _ HR4.out)), ?_⟩
     exact (((HV.out.2.1.trans (HBB.out.mono HV.out.2.1.size)).setCell (by simp) _).setCell (by simp) _).setCell (by simp) _
   case hstep =>
     intro i o v wx K hi ho hB hd hK
     simp only [List.length_cons, List.length_nil] at hi
     simp only [fold, Nat.zero_add, Nat.reduceAdd, List.setIfInBounds_toArray, List.set_cons_zero, List.set_cons_succ]
     rcases (by omega : i = 0 ∨ i = 1 ∨ i = 2 ∨ i = 3 ∨ i = 4 ∨ i = 5 ∨ i = 6 ∨ i = 7 ∨ i = 8 ∨ i = 9) with rfl | rfl | rfl | rfl | rfl | rfl | rfl | rfl | rfl | rfl
     all_goals
       simp only [List.getElem?_cons_zero, List.getElem?_cons_succ, Option.some.injEq] at ho
       subst ho
       simp only [fold, Nat.zero_add, Nat.reduceAdd, Act.put, List.setIfInBounds_toArray, List.set_cons_zero, List.set_cons_succ] at hK
     · clear hd
       go_wp2_with fail
       exact hK _ _ hB (Below.refl _ _) rfl
     · have d0 : v 0 = .pointer (some ⟨w.heap.size, 0, none⟩) := hd ⟨0, .data⟩ (by simp) rfl
       have hcc := cell_up hB k0
       rw [d0] at hK ⊢
       clear hd
       go_wp2_with fail
       exact hK _ _ hB (Below.refl _ _) rfl
     · have d1 : v 1 = .slice ra rn rc := hd ⟨1, .data⟩ (by simp) rfl
       rw [d1] at hK ⊢
       clear hd
       go_wp2_with fail
       refine (twinIntsF_any ra rn rc m.res _ (HM.out.res.below hB (Nat.le_refl _)) h1).mono ?_
       rintro e w' ⟨g1, c1, rfl, ht1, hb1⟩
       go_wp2_with fail
       exact hK _ _ (below_on hb1 hB) hb1 ⟨g1, c1, rfl, ht1.widen hB.size⟩
     · clear hd
       go_wp2_with fail
       exact hK _ _ hB (Below.refl _ _) rfl
     · have d3 : v 3 = .pointer (some ⟨w.heap.size, 1, none⟩) := hd ⟨3, .data⟩ (by simp) rfl
       have hcc := cell_up hB k1
       rw [d3] at hK ⊢
       clear hd
       go_wp2_with fail
       exact hK _ _ hB (Below.refl _ _) rfl
     · have d4 : v 4 = .slice ba bn bc := hd ⟨4, .data⟩ (by simp) rfl
       obtain ⟨g1, c1, d2, ht1⟩ : TPF W0.heap.size w.heap.size ra ba oa rn rc bn bc on oc m 2 v wx := hd ⟨2, .chain⟩ (by simp) rfl
       have D2 := Lib.hid d2; clear d2
       rw [d4] at hK ⊢
       clear hd
       go_wp2_with fail
       refine (twinListsF_any ba bn bc m.bids _ (HM.out.bids.below hB (Nat.le_refl _)) h2 HX.out).mono ?_
       rintro e w' ⟨B, cB, M, vals, gs, rfl, hR, hb2⟩
       go_wp2_with fail
       exact hK _ _ (below_on hb2 hB) hb2 ⟨g1, c1, B, cB, M, wx.heap.size, vals, gs, ⟨D2.out, ht1.below hb2 (Nat.le_refl _), ht1.parts.2.2.2, hB.size⟩, rfl, hR⟩
     · clear hd
       go_wp2_with fail
       exact hK _ _ hB (Below.refl _ _) rfl
     · have d6 : v 6 = .pointer (some ⟨w.heap.size, 2, none⟩) := hd ⟨6, .data⟩ (by simp) rfl
       have hcc := cell_up hB k2
       rw [d6] at hK ⊢
       clear hd
       go_wp2_with fail
       exact hK _ _ hB (Below.refl _ _) rfl
     · have d7 : v 7 = .slice oa on oc := hd ⟨7, .data⟩ (by simp) rfl
       obtain ⟨g1, c1, B, cB, M, s1, vals, gs, ⟨d2, ht1, hl1, hs1⟩, d5, hR⟩ : TPF W0.heap.size w.heap.size ra ba oa rn rc bn bc on oc m 5 v wx := hd ⟨5, .chain⟩ (by simp) rfl
       have D2 := Lib.hid d2; clear d2
       have D5 := Lib.hid d5; clear d5
       rw [d7] at hK ⊢
       clear hd
       go_wp2_with fail
       refine (twinIntsF_any oa on oc m.ord _ (HM.out.ord.below hB (Nat.le_refl _)) h3).mono ?_
       rintro e w' ⟨g3, c3, rfl, ht3, hb3⟩
       go_wp2_with fail
       have hBl := (owns_tab hR.own).1.lt
       have hBb := (owns_tab hR.own).2.1
       exact hK _ _ (below_on hb3 hB) hb3 ⟨g1, c1, B, cB, M, g3, c3, s1, wx.heap.size, vals, gs, D2.out, D5.out, rfl, ⟨ht1.below hb3 (Nat.le_refl _), hR.below hb3 (Nat.le_refl _), ht3, hl1, hBl, Tab.lt hR.mark, fun g hg => (hR.rows.at' g hg).2.2, hs1, by omega⟩⟩
     · obtain ⟨g1, c1, B, cB, M, g3, c3, s1, s2, vals, gs, d2, d5, d8, r⟩ : TPF W0.heap.size w.heap.size ra ba oa rn rc bn bc on oc m 8 v wx := hd ⟨8, .data⟩ (by simp) rfl
       rw [d2, d5, d8] at hK ⊢
       clear hd
       go_wp2_with fail
       exact hK _ _ hB (Below.refl _ _) ⟨g1, c1, B, cB, M, g3, c3, s1, s2, vals, gs, rfl, r⟩
 case rest =>
   obtain ⟨g1, c1, B, cB, M, g3, c3, s1, s2, vals, gs, hv, r4, hb⟩ := hcut
   have HR := Lib.hid (And.intro hv (And.intro r4 hb)); clear hv r4 hb k0 k1 k2
   go_wp2_with fail
   exact bodyPost_ret (tm_results rfl _ HR.out.1) rfl ⟨g1, c1, B, cB, M, g3, c3, s1, s2, vals, gs, rfl, { HR.out.2.1 with res := HR.out.2.1.res.widen (by have := HV.out.2.2; omega), b1 := by have := HR.out.2.1.b1; have := HV.out.2.2; omega }, HR.out.2.2⟩
end Go.Proofs.YtkddkkcfpnndlaaGreatDoor

namespace Go.Proofs.YtkddkkcfpnndlaaGreatDoor
open Go.RowKit Sale

theorem to_results {h : Nat} {v0 v1 : Value} {tmps : Array Value} (t2 : tmps[2]?.getD undef = .pointer (some ⟨h, 0, none⟩)) (W : World) (hO : VRow W h 70 [v0, v1]) :
   (results Tryz.f34 tmps).run Tryz.prog W = .ok (.agg #[v0, v1]) W := by
 have c0 := hO.cell (k := 0) rfl
 have c1 := hO.cell (k := 1) rfl
 simp [results, Tryz.results34, go_sem, t2, c0, c1]

def to0 (w : World) (ha pa : Option Addr) (hn hc pn pc : Nat) : World := (w.alloc (.cells #[.slice ha hn hc, .slice pa pn pc] 70)).alloc (.cells #[.slice none 0 0, .slice none 0 0] 70)
theorem to0_at (w : World) (ha pa : Option Addr) (hn hc pn pc : Nat) : VRow (to0 w ha pa hn hc pn pc) w.heap.size 70 [.slice ha hn hc, .slice pa pn pc] ∧
   VRow (to0 w ha pa hn hc pn pc) (w.heap.size + 1) 70 [.slice none 0 0, .slice none 0 0] ∧ Below w.heap.size w (to0 w ha pa hn hc pn pc) ∧ (to0 w ha pa hn hc pn pc).heap.size = w.heap.size + 2 := by
 have h1 := VRow.new w 70 [.slice ha hn hc, .slice pa pn pc]
 have h2 := VRow.new (w.alloc (.cells #[.slice ha hn hc, .slice pa pn pc] 70)) 70 [.slice none 0 0, .slice none 0 0]
 rw [show (w.alloc (.cells #[.slice ha hn hc, .slice pa pn pc] 70)).heap.size = w.heap.size + 1 by simp] at h2
 exact ⟨h1.alloc _, h2, ((Below.refl _ _).alloc (Nat.le_refl _) _).alloc (by simp) _, by simp [to0]⟩
end Go.Proofs.YtkddkkcfpnndlaaGreatDoor

namespace Go.Proofs.YtkddkkcfpnndlaaGreatDoor
open Go.RowKit Sale

structure OutF (w : World) (base g1 c1 g2 c2 : Nat) (o : Outc) : Prop where
 has : RowF w base g1 c1 o.has
 prices : RowF w base g2 c2 o.prices
 l : g1 < g2
theorem OutF.below {w w' : World} {base g1 c1 g2 c2 B' : Nat} {o : Outc} (h : OutF w base g1 c1 g2 c2 o) (hb : Below B' w w') (hB : w.heap.size ≤ B') : OutF w' base g1 c1 g2 c2 o := ⟨h.has.below hb hB, h.prices.below hb hB, h.l⟩
theorem OutF.step {w w' : World} {base g1 c1 g2 c2 : Nat} {o : Outc} (h : OutF w base g1 c1 g2 c2 o) (hb : Below w.heap.size w w') : OutF w' base g1 c1 g2 c2 o := h.below hb (Nat.le_refl _)
theorem OutF.under {w : World} {base g1 c1 g2 c2 : Nat} {o : Outc} (h : OutF w base g1 c1 g2 c2 o) {a : Addr} (ha : a.block < base) (u : Value) : OutF (w.setCell a u) base g1 c1 g2 c2 o := ⟨h.has.under ha u, h.prices.under ha u, h.l⟩
theorem OutF.out {w : World} {base g1 c1 g2 c2 hn pn : Nat} {o : Outc} (h : OutF w base g1 c1 g2 c2 o) (h1 : o.has.length = hn) (h2 : o.prices.length = pn) (hl1 : hn ≤ 100000) (hl2 : pn ≤ 100000)
   (hb1 : ∀ x, x ∈ o.has → -9223372036854775808 ≤ x ∧ x ≤ 9223372036854775807) (hb2 : ∀ x, x ∈ o.prices → -9223372036854775808 ≤ x ∧ x ≤ 9223372036854775807) : OutAt w (some ⟨g1, 0, none⟩) (some ⟨g2, 0, none⟩) hn c1 pn c2 o := by
 have a := h.has.ints (by omega) hb1
 have b := h.prices.ints (by omega) hb2
 rw [h1] at a
 rw [h2] at b
 exact ⟨a, b⟩
def TwinOSaysF (w : World) (hn pn : Nat) (o : Outc) (e : Ending) (w' : World) : Prop :=
 ∃ (g1 c1 g2 c2 : Nat), e = .returned (.agg #[.slice (some ⟨g1, 0, none⟩) hn c1, .slice (some ⟨g2, 0, none⟩) pn c2]) ∧ OutF w' w.heap.size g1 c1 g2 c2 o ∧ Below w.heap.size w w'

def TOF (H h : Nat) (ha pa : Option Addr) (hn hc pn pc : Nat) (o : Outc) (i : Nat) (v : Nat → Value) (w : World) : Prop := match i with
 | 0 => v 0 = .pointer (some ⟨h, 0, none⟩)
 | 1 => v 1 = .slice ha hn hc
 | 2 => ∃ g1 c1, v 2 = .slice (some ⟨g1, 0, none⟩) hn c1 ∧ RowF w H g1 c1 o.has
 | 3 => v 3 = .pointer (some ⟨h, 1, none⟩)
 | 4 => v 4 = .slice pa pn pc
 | 5 => ∃ g1 c1 g2 c2, v 2 = .slice (some ⟨g1, 0, none⟩) hn c1 ∧ v 5 = .slice (some ⟨g2, 0, none⟩) pn c2 ∧ OutF w H g1 c1 g2 c2 o
 | 6 => ∃ g1 c1 g2 c2, v 6 = .agg #[.slice (some ⟨g1, 0, none⟩) hn c1, .slice (some ⟨g2, 0, none⟩) pn c2] ∧ OutF w H g1 c1 g2 c2 o
 | _ => True
def TOG (i : Nat) : List Nat := match i with
 | 5 => [2]
 | _ => []
theorem TOF_congr {H h : Nat} {ha pa : Option Addr} {hn hc pn pc : Nat} {o : Outc} : ∀ j (v v' : Nat → Value) (w : World), v j = v' j → (∀ k, k ∈ TOG j → v k = v' k) → TOF H h ha pa hn hc pn pc o j v w → TOF H h ha pa hn hc pn pc o j v' w
 | 0, v, v', w, e, _, p => (e ▸ p : v' 0 = _)
 | 1, v, v', w, e, _, p => (e ▸ p : v' 1 = _)
 | 2, v, v', w, e, _, p => by obtain ⟨g1, c1, p1, p2⟩ := p; exact ⟨g1, c1, e ▸ p1, p2⟩
 | 3, v, v', w, e, _, p => (e ▸ p : v' 3 = _)
 | 4, v, v', w, e, _, p => (e ▸ p : v' 4 = _)
 | 5, v, v', w, e, d, p => by
   have d2 := d 2 (by simp [TOG])
   obtain ⟨g1, c1, g2, c2, p1, p2, r⟩ := p
   exact ⟨g1, c1, g2, c2, d2 ▸ p1, e ▸ p2, r⟩
 | 6, v, v', w, e, _, p => by
   obtain ⟨g1, c1, g2, c2, p1, r⟩ := p
   exact ⟨g1, c1, g2, c2, e ▸ p1, r⟩
 | (_ + 7), _, _, _, _, _, _ => trivial
theorem TOF_mono {H h : Nat} {ha pa : Option Addr} {hn hc pn pc : Nat} {o : Outc} : ∀ j (v : Nat → Value) (w w' : World), Below w.heap.size w w' → TOF H h ha pa hn hc pn pc o j v w → TOF H h ha pa hn hc pn pc o j v w'
 | 0, _, _, _, _, p => p
 | 1, _, _, _, _, p => p
 | 2, _, _, _, hb, p => by obtain ⟨g1, c1, p1, p2⟩ := p; exact ⟨g1, c1, p1, p2.below hb (Nat.le_refl _)⟩
 | 3, _, _, _, _, p => p
 | 4, _, _, _, _, p => p
 | 5, _, _, _, hb, p => by
   obtain ⟨g1, c1, g2, c2, p1, p2, r3⟩ := p
   exact ⟨g1, c1, g2, c2, p1, p2, r3.below hb (Nat.le_refl _)⟩
 | 6, _, _, _, hb, p => by
   obtain ⟨g1, c1, g2, c2, p1, r3⟩ := p
   exact ⟨g1, c1, g2, c2, p1, r3.below hb (Nat.le_refl _)⟩
 | (_ + 7), _, _, _, _, _ => trivial

set_option maxRecDepth 100000 in
set_option maxHeartbeats 4000000 in
theorem twinOutcomeF_any (ha pa : Option Addr) (hn hc pn pc : Nat) (o : Outc) (w : World) (ho : OutAt w ha pa hn hc pn pc o) (h1 : hn ≤ 100000) (h2 : pn ≤ 100000) :
   Calls Tryz.prog 34 #[.agg #[.slice ha hn hc, .slice pa pn pc]] w (TwinOSaysF w hn pn o) := by
 obtain ⟨hv1, hv2, hb0, hz0⟩ := to0_at w ha pa hn hc pn pc
 obtain ⟨W0, hW0⟩ : ∃ W0, W0 = to0 w ha pa hn hc pn pc := ⟨_, rfl⟩
 rw [← hW0] at hv1 hv2 hb0 hz0
 have k0 := hv1.cell (k := 0) rfl
 have k1 := hv1.cell (k := 1) rfl
 have HM := Lib.hid (ho.below hb0 (Nat.le_refl _))
 have HV := Lib.hid (And.intro hv2 (And.intro hb0 hz0))
 clear hv1 hv2 hb0 ho hz0
 go_enter Tryz.func34, Tryz.ntmps34
 go_upto_region 1 with fail
 rw [show (w.alloc (.cells #[.slice ha hn hc, .slice pa pn pc] 70)).alloc (.cells #[.slice none 0 0, .slice none 0 0] 70) = W0 from hW0.symm]
 clear hW0
 go_cut [9] (fun s9 wx => ∃ g1 c1 g2 c2, VRow wx (w.heap.size + 1) 70 [.slice (some ⟨g1, 0, none⟩) hn c1, .slice (some ⟨g2, 0, none⟩) pn c2] ∧ OutF wx W0.heap.size g1 c1 g2 c2 o ∧ Below w.heap.size w wx)
 case first =>
   refine wp_region_dep' (by kernel_rfl) [3, 4, 5, 6, 7, 8, 9] TOG (TOF W0.heap.size w.heap.size ha pa hn hc pn pc o) (fun w' => Below W0.heap.size W0 w') (by simp) (by kernel_rfl) (by simp) (by decide) (by simp [fold]) (by kernel_rfl) TOF_congr TOF_mono (Below.refl _ _).drew ?hstep ?hlast
   case hlast =>
     intro o' v wx K ho hB hd hK
     simp only [List.length_cons, List.length_nil, Nat.reduceAdd, Nat.reduceSub, List.getElem?_cons_zero, List.getElem?_cons_succ, Option.some.injEq] at ho
     subst ho
     simp only [fold, Nat.zero_add, Nat.reduceAdd, List.setIfInBounds_toArray, List.set_cons_zero, List.set_cons_succ]
     obtain ⟨g1, c1, g2, c2, d6, r4⟩ : TOF W0.heap.size w.heap.size ha pa hn hc pn pc o 6 v wx := hd 6 (by simp)
     rw [d6]
     have hv := HV.out.1.below hB HV.out.1.lt
     have c0 := hv.cell (k := 0) rfl
     have c1' := hv.cell (k := 1) rfl
     have f0 := hv.frozen 0
     have f1 := hv.frozen 1
     have HVV := Lib.hid hv; clear hv
     have HR4 := Lib.hid r4; clear r4
     have HBB := Lib.hid hB; clear hB
     clear hd
     go_wp2_with fail
     go_meet
     have hz := HV.out.2.2
     have far : ∀ (W : World) (k : Nat) (u : Value), OutF W W0.heap.size g1 c1 g2 c2 o → OutF (W.setCell ⟨w.heap.size + 1, k, none⟩ u) W0.heap.size g1 c1 g2 c2 o := fun W k u h => h.under (by simp; omega) u
     refine ⟨g1, c1, g2, c2, (HVV.out.set 0 _).set 1 _, far _ _ _ (far _ _ _ HR4.out), ?_⟩
     exact ((HV.out.2.1.trans (HBB.out.mono HV.out.2.1.size)).setCell (by simp) _).setCell (by simp) _
   case hstep =>
     intro i o' v wx K hi ho hB hd hK
     simp only [List.length_cons, List.length_nil] at hi
     simp only [fold, Nat.zero_add, Nat.reduceAdd, List.setIfInBounds_toArray, List.set_cons_zero, List.set_cons_succ]
     rcases (by omega : i = 0 ∨ i = 1 ∨ i = 2 ∨ i = 3 ∨ i = 4 ∨ i = 5 ∨ i = 6) with rfl | rfl | rfl | rfl | rfl | rfl | rfl
     all_goals
       simp only [List.getElem?_cons_zero, List.getElem?_cons_succ, Option.some.injEq] at ho
       subst ho
       simp only [fold, Nat.zero_add, Nat.reduceAdd, Act.put, List.setIfInBounds_toArray, List.set_cons_zero, List.set_cons_succ] at hK
     · clear hd
       go_wp2_with fail
       exact hK _ _ hB (Below.refl _ _) rfl
     · have d0 : v 0 = .pointer (some ⟨w.heap.size, 0, none⟩) := hd ⟨0, .data⟩ (by simp) rfl
       have hcc := cell_up hB k0
       rw [d0] at hK ⊢
       clear hd
       go_wp2_with fail
       exact hK _ _ hB (Below.refl _ _) rfl
     · have d1 : v 1 = .slice ha hn hc := hd ⟨1, .data⟩ (by simp) rfl
       rw [d1] at hK ⊢
       clear hd
       go_wp2_with fail
       refine (twinIntsF_any ha hn hc o.has _ (HM.out.has.below hB (Nat.le_refl _)) h1).mono ?_
       rintro e w' ⟨g1, c1, rfl, ht1, hb1⟩
       go_wp2_with fail
       exact hK _ _ (below_on hb1 hB) hb1 ⟨g1, c1, rfl, ht1.widen hB.size⟩
     · clear hd
       go_wp2_with fail
       exact hK _ _ hB (Below.refl _ _) rfl
     · have d3 : v 3 = .pointer (some ⟨w.heap.size, 1, none⟩) := hd ⟨3, .data⟩ (by simp) rfl
       have hcc := cell_up hB k1
       rw [d3] at hK ⊢
       clear hd
       go_wp2_with fail
       exact hK _ _ hB (Below.refl _ _) rfl
     · have d4 : v 4 = .slice pa pn pc := hd ⟨4, .data⟩ (by simp) rfl
       obtain ⟨g1, c1, d2, ht1⟩ : TOF W0.heap.size w.heap.size ha pa hn hc pn pc o 2 v wx := hd ⟨2, .chain⟩ (by simp) rfl
       have D2 := Lib.hid d2; clear d2
       rw [d4] at hK ⊢
       clear hd
       go_wp2_with fail
       refine (twinIntsF_any pa pn pc o.prices _ (HM.out.prices.below hB (Nat.le_refl _)) h2).mono ?_
       rintro e w' ⟨g2, c2, rfl, ht2, hb2⟩
       go_wp2_with fail
       have hl1 := ht1.parts.2.2.2
       have hl2 := ht2.parts.2.1
       exact hK _ _ (below_on hb2 hB) hb2 ⟨g1, c1, g2, c2, D2.out, rfl, ⟨ht1.below hb2 (Nat.le_refl _), ht2.widen hB.size, by omega⟩⟩
     · obtain ⟨g1, c1, g2, c2, d2, d5, r⟩ : TOF W0.heap.size w.heap.size ha pa hn hc pn pc o 5 v wx := hd ⟨5, .data⟩ (by simp) rfl
       rw [d2, d5] at hK ⊢
       clear hd
       go_wp2_with fail
       exact hK _ _ hB (Below.refl _ _) ⟨g1, c1, g2, c2, rfl, r⟩
 case rest =>
   obtain ⟨g1, c1, g2, c2, hv, r4, hb⟩ := hcut
   have HR := Lib.hid (And.intro hv (And.intro r4 hb)); clear hv r4 hb k0 k1
   go_wp2_with fail
   exact bodyPost_ret (to_results rfl _ HR.out.1) rfl ⟨g1, c1, g2, c2, rfl, ⟨HR.out.2.1.has.widen (by have := HV.out.2.2; omega), HR.out.2.1.prices.widen (by have := HV.out.2.2; omega), HR.out.2.1.l⟩, HR.out.2.2⟩
end Go.Proofs.YtkddkkcfpnndlaaGreatDoor

namespace Go.Proofs.YtkddkkcfpnndlaaGreatDoor
open Go.RowKit Sale

theorem cell_stp {w w' : World} {b o : Nat} {v : Value} (hb : Below w.heap.size w w') (h : w.cell? ⟨b, o, none⟩ = some v) : w'.cell? ⟨b, o, none⟩ = some v := by
 rw [hb.cell (p := ⟨b, o, none⟩) (block_lt_of_cell h)]; exact h
set_option maxHeartbeats 1000000 in
theorem leftInts_any (g c m d : Nat) (b : Option Addr) (n : Nat) (base : Nat) (xs : List Int) (w : World) (hx : RowF w base g c xs) (hl : xs.length = m) (hy : Ints w b n d xs) (hn : n ≤ 100000) :
   Calls Tryz.prog 15 #[.slice (some ⟨g, 0, none⟩) m c, .slice b n d] w fun e w' => e = .returned (.bool true) ∧ Below w.heap.size w w' := by
 have hyl := hy.len
 obtain rfl : m = n := by omega
 have hcap := hx.parts.2.2.1
 rw [hl] at hcap
 have cm := hx.mark
 rw [hl] at cm
 have HX := Lib.hid hx; clear hx
 have HY := Lib.hid hy; clear hy
 have HL := Lib.hid hl; clear hl hyl
 go_enter Tryz.func15, Tryz.ntmps15
 go_wp2_with fail
 go_loopg [5] m (fun g s5 wr => ∃ k : Nat, k + g = m ∧ s5 = .int .i64 k ∧ Below w.heap.size w wr)
 case atStart => exact ⟨0, by omega, rfl, Below.refl _ _⟩
 case round =>
   obtain ⟨k, hk, rfl, hB⟩ := hrel
   have HK := Lib.hid hk; clear hk
   have cmw := cell_stp hB cm
   by_cases hlt : k < m
   · obtain ⟨x, hx, _⟩ := HY.out.get hlt
     obtain ⟨b2, o2, rfl⟩ := HY.out.addr (by omega)
     have hc1 := cell_stp hB (HX.out.cell hx)
     have hc2 := cell_stp hB (HY.out.cell b2 o2 rfl k x hx)
     have HB := Lib.hid hB; clear hB
     have HXK := Lib.hid hx; clear hx
     have i1 : (k : Int) < (m : Int) := by omega
     go_wp2_with fail
     go_region
     go_wp2_with fail
     go_roundg (gk - 1)
     case measure => have := HK.out; omega
     case rel => exact ⟨k + 1, by have := HK.out; omega, by go_num, HB.out.drew⟩
   · obtain rfl : k = m := by have := HK.out; omega
     have HB := Lib.hid hB; clear hB
     go_wp2_with fail
     go_ret
     exact ⟨by simp, HB.out⟩

theorem leftInts_kept (W : World) (y : Kept (Below W.heap.size W)) (g c m d : Nat) (b : Option Addr) (n : Nat) (base : Nat) (xs : List Int) (hx : RowF W base g c xs) (hl : xs.length = m) (hy : Ints W b n d xs) (hn : n ≤ 100000) :
   Calls Tryz.prog 15 #[.slice (some ⟨g, 0, none⟩) m c, .slice b n d] y.w fun e w' => e = .returned (.bool true) ∧ ∃ z : Kept (Below W.heap.size W), w' = z.w :=
 Kept.call ((leftInts_any g c m d b n base xs y.w (hx.below y.h (Nat.le_refl _)) hl (hy.below y.h (Nat.le_refl _)) hn).mono fun _ _ ⟨h1, h2⟩ => ⟨h1, y.h.trans (h2.mono y.h.size)⟩)
set_option maxHeartbeats 1000000 in
theorem leftIntLists_any (B c M m d : Nat) (b : Option Addr) (n : Nat) (base : Nat) (vals : List Value) (gs : List Nat) (xss : List (List Int)) (w : World) (hx : RowsF w base B c M vals gs xss) (hl : xss.length = m) (hy : Rows w b n d xss) (hn : n ≤ 100000) (hlens : ∀ xs, xs ∈ xss → xs.length ≤ 100000) :
   Calls Tryz.prog 14 #[.slice (some ⟨B, 0, none⟩) m c, .slice b n d] w fun e w' => e = .returned (.bool true) ∧ Below w.heap.size w w' := by
 have hyl := hy.len
 obtain rfl : m = n := by omega
 obtain ⟨ht, _, _, hcap, _⟩ := owns_tab hx.own
 rw [hl] at hcap
 have hvl := hx.vlen
 have cm : w.cell? ⟨B, m, none⟩ = some (.slice (some ⟨M, 0, none⟩) 1 1) := Tab.cell ht (by rw [List.getElem?_append_right (by omega), show m - vals.length = 0 by omega]; rfl)
 have cm2 : w.cell? ⟨M, 0, none⟩ = some (.int .i64 77) := Tab.cell hx.mark rfl
 have HX := Lib.hid hx; clear hx
 have HT := Lib.hid ht; clear ht
 have HY := Lib.hid hy; clear hy
 have HL := Lib.hid hl; clear hl hyl
 have HLE := Lib.hid hlens; clear hlens hvl
 go_enter Tryz.func14, Tryz.ntmps14
 go_wp2_with fail
 go_loopg [5] m (fun g s5 wr => ∃ k : Nat, k + g = m ∧ s5 = .int .i64 k ∧ Below w.heap.size w wr)
 case atStart => exact ⟨0, by omega, rfl, Below.refl _ _⟩
 case round =>
   obtain ⟨k, hk, rfl, hB⟩ := hrel
   have HK := Lib.hid hk; clear hk
   by_cases hlt : k < m
   · obtain ⟨xs, hxs⟩ := HY.out.get hlt
     obtain ⟨b2, o2, rfl⟩ := HY.out.addr (by omega)
     obtain ⟨a', n', c', hc2, hi⟩ := HY.out.cell b2 o2 rfl k xs hxs
     obtain ⟨g, hg⟩ : ∃ g, gs[k]? = some g := ⟨_, List.getElem?_eq_getElem (by rw [HX.out.rows.len, HL.out]; exact hlt)⟩
     obtain ⟨cg, hv, hr⟩ := HX.out.rows.row k xs g hxs hg
     have hvk := (List.getElem?_eq_some_iff.1 hv).1
     have hc1 : w.cell? ⟨B, k, none⟩ = some (.slice (some ⟨g, 0, none⟩) xs.length cg) := Tab.cell HT.out (by rw [List.getElem?_append_left hvk]; exact hv)
     have hl8 := HLE.out xs (List.mem_of_getElem? hxs)
     have hil := hi.len
     have hcall : ∀ y : Kept (Below wr.heap.size wr), Calls Tryz.prog 15 #[.slice (some ⟨g, 0, none⟩) xs.length cg, .slice a' n' c'] y.w fun e w' => e = .returned (.bool true) ∧ ∃ z : Kept (Below wr.heap.size wr), w' = z.w :=
       fun y => leftInts_kept wr y g cg xs.length c' a' n' base xs (hr.below hB (Nat.le_refl _)) rfl (hi.below hB (Nat.le_refl _)) (by omega)
     have HA := Lib.hid hcall; clear hcall
     have hbd : Below wr.heap.size wr wr.drew := (Below.refl _ _).drew
     have hne' : Nonempty (Kept (Below wr.heap.size wr)) := ⟨⟨_, hbd⟩⟩
     have q1 := cell_stp hB hc1
     have q2 := cell_stp hB hc2
     have k1 : ∀ z : Kept (Below wr.heap.size wr), z.w.cell? ⟨B, k, none⟩ = some (.slice (some ⟨g, 0, none⟩) xs.length cg) := fun z => cell_stp z.h q1
     have k2 : ∀ z : Kept (Below wr.heap.size wr), z.w.cell? ⟨b2, o2 + k, none⟩ = some (.slice a' n' c') := fun z => cell_stp z.h q2
     have HB := Lib.hid hB; clear hB
     clear hil hl8 hr hvk hv hg hi hxs q1 q2 hc1 hc2
     have i1 : (k : Int) < (m : Int) := by omega
     go_wp2_with fail
     refine wp_region_kept (Below wr.heap.size wr) (by kernel_rfl) (by kernel_rfl) hbd ?_
     repeat (go_big_quiet_step ((go_at_call 15; with_reducible exact HA.out _)))
     refine wpQuiet_nil ?_
     intro w5 hw'
     obtain ⟨⟨wz, hz⟩, hwz⟩ := hw'
     obtain rfl : w5 = wz := hwz
     clear k1 k2 hne'
     go_wp2_with fail
     go_roundg (gk - 1)
     case measure => have := HK.out; omega
     case rel => exact ⟨k + 1, by have := HK.out; omega, by go_num, HB.out.trans (hz.mono HB.out.size)⟩
   · obtain rfl : k = m := by have := HK.out; omega
     have cmw := cell_stp hB cm
     have cmw2 := cell_stp hB cm2
     have HB := Lib.hid hB; clear hB
     go_wp2_with fail
     go_ret
     exact ⟨by simp, HB.out⟩
set_option maxHeartbeats 1000000 in
theorem leftMarket_any (base s1 s2 g1 c1 B cB M g3 c3 : Nat) (vals : List Value) (gs : List Nat) (ra ba oa : Option Addr) (rn rc bn bc on oc : Nat) (m : Mkt) (w : World) (h : MktF w base s1 s2 g1 c1 B cB M g3 c3 vals gs m) (hm : MktAt w ra ba oa rn rc bn bc on oc m) (h1 : rn ≤ 100000) (h2 : bn ≤ 100000) (h3 : on ≤ 100000) (hx : ∀ xs, xs ∈ m.bids → xs.length ≤ 100000) :
   Calls Tryz.prog 31 #[.agg #[.slice (some ⟨g1, 0, none⟩) rn c1, .slice (some ⟨B, 0, none⟩) bn cB, .slice (some ⟨g3, 0, none⟩) on c3], .agg #[.slice ra rn rc, .slice ba bn bc, .slice oa on oc]] w fun e w' => e = .returned (.bool true) ∧ Below w.heap.size w w' := by
 obtain ⟨w0, hw0⟩ : ∃ w0, w0 = (w.alloc (.cells #[.slice (some ⟨g1, 0, none⟩) rn c1, .slice (some ⟨B, 0, none⟩) bn cB, .slice (some ⟨g3, 0, none⟩) on c3] 57)).alloc (.cells #[.slice ra rn rc, .slice ba bn bc, .slice oa on oc] 57) := ⟨_, rfl⟩
 have hb0 : Below w.heap.size w w0 := by rw [hw0]; exact ((Below.refl _ _).alloc (Nat.le_refl _) _).alloc (by simp) _
 have hv1 : VRow w0 w.heap.size 57 [.slice (some ⟨g1, 0, none⟩) rn c1, .slice (some ⟨B, 0, none⟩) bn cB, .slice (some ⟨g3, 0, none⟩) on c3] := by rw [hw0]; exact VRow.alloc (heap_alloc_new w _) _
 have hv2 : VRow w0 (w.heap.size + 1) 57 [.slice ra rn rc, .slice ba bn bc, .slice oa on oc] := by
   rw [hw0]
   have := heap_alloc_new (w.alloc (.cells #[.slice (some ⟨g1, 0, none⟩) rn c1, .slice (some ⟨B, 0, none⟩) bn cB, .slice (some ⟨g3, 0, none⟩) on c3] 57)) (.cells #[.slice ra rn rc, .slice ba bn bc, .slice oa on oc] 57)
   rw [show (w.alloc (.cells #[.slice (some ⟨g1, 0, none⟩) rn c1, .slice (some ⟨B, 0, none⟩) bn cB, .slice (some ⟨g3, 0, none⟩) on c3] 57)).heap.size = w.heap.size + 1 by simp] at this
   exact this
 have h0 := h.step hb0
 have hm0 := hm.below hb0 (Nat.le_refl _)
 have hl1 : m.res.length = rn := hm.res.len
 have hl2 : m.bids.length = bn := hm.bids.len
 have hl3 : m.ord.length = on := hm.ord.len
 have hs0 : w0.heap.size = w.heap.size + 1 + 1 := by rw [hw0]; simp
 have hlt0 : w.heap.size + 1 < w0.heap.size := by omega
 clear h hm hs0
 have HB0 := Lib.hid hb0; clear hb0
 have hw0' := hw0.symm
 clear hw0
 have c10 : w0.cell? ⟨w.heap.size, 0, none⟩ = some (.slice (some ⟨g1, 0, none⟩) rn c1) := VRow.cell hv1 rfl
 have c20 : w0.cell? ⟨w.heap.size + 1, 0, none⟩ = some (.slice ra rn rc) := VRow.cell hv2 rfl
 have H0 := Lib.hid h0; clear h0
 have HM0 := Lib.hid hm0; clear hm0
 have HV1 := Lib.hid hv1; clear hv1
 have HV2 := Lib.hid hv2; clear hv2
 have HL1 := Lib.hid hl1; clear hl1
 have HL2 := Lib.hid hl2; clear hl2
 have HL3 := Lib.hid hl3; clear hl3
 have HX := Lib.hid hx; clear hx
 go_enter Tryz.func31, Tryz.ntmps31
 go_wp2_with fail
 try rw [hw0']
 clear hw0'
 refine (leftInts_any g1 c1 rn rc ra rn base m.res w0 H0.out.res HL1.out HM0.out.res h1).mono ?_
 rintro e w1 ⟨rfl, hb1⟩
 have c11 : w1.cell? ⟨w.heap.size, 1, none⟩ = some (.slice (some ⟨B, 0, none⟩) bn cB) := cell_stp hb1 (VRow.cell HV1.out rfl)
 have c21 : w1.cell? ⟨w.heap.size + 1, 1, none⟩ = some (.slice ba bn bc) := cell_stp hb1 (VRow.cell HV2.out rfl)
 clear c10 c20
 have HB1 := Lib.hid hb1; clear hb1
 go_wp2_with fail
 refine (leftIntLists_any B cB M bn bc ba bn s1 vals gs m.bids w1 (H0.out.rows.below HB1.out (Nat.le_refl _)) HL2.out (HM0.out.bids.below HB1.out (Nat.le_refl _)) h2 HX.out).mono ?_
 rintro e w2 ⟨rfl, hb2⟩
 have hb02 : Below w0.heap.size w0 w2 := HB1.out.trans (hb2.mono HB1.out.size)
 have c12 : w2.cell? ⟨w.heap.size, 2, none⟩ = some (.slice (some ⟨g3, 0, none⟩) on c3) := cell_stp hb02 (VRow.cell HV1.out rfl)
 have c22 : w2.cell? ⟨w.heap.size + 1, 2, none⟩ = some (.slice oa on oc) := cell_stp hb02 (VRow.cell HV2.out rfl)
 clear c11 c21 hb2
 have HB2 := Lib.hid hb02; clear hb02
 go_wp2_with fail
 refine (leftInts_any g3 c3 on oc oa on s2 m.ord w2 (H0.out.ord.below HB2.out (Nat.le_refl _)) HL3.out (HM0.out.ord.below HB2.out (Nat.le_refl _)) h3).mono ?_
 rintro e w3 ⟨rfl, hb3⟩
 have hb03 : Below w0.heap.size w0 w3 := HB2.out.trans (hb3.mono HB2.out.size)
 have HB3 := Lib.hid hb03; clear hb03 hb3
 go_wp2_with fail
 go_ret
 exact ⟨rfl, HB0.out.trans (HB3.out.mono HB0.out.size)⟩
set_option maxHeartbeats 1000000 in
theorem leftOutcome_any (base g1 c1 g2 c2 : Nat) (ha pa : Option Addr) (hn hc pn pc : Nat) (o : Outc) (w : World) (h : OutF w base g1 c1 g2 c2 o) (ho : OutAt w ha pa hn hc pn pc o) (h1 : hn ≤ 100000) (h2 : pn ≤ 100000) :
   Calls Tryz.prog 46 #[.agg #[.slice (some ⟨g1, 0, none⟩) hn c1, .slice (some ⟨g2, 0, none⟩) pn c2], .agg #[.slice ha hn hc, .slice pa pn pc]] w fun e w' => e = .returned (.bool true) ∧ Below w.heap.size w w' := by
 obtain ⟨w0, hw0⟩ : ∃ w0, w0 = (w.alloc (.cells #[.slice (some ⟨g1, 0, none⟩) hn c1, .slice (some ⟨g2, 0, none⟩) pn c2] 70)).alloc (.cells #[.slice ha hn hc, .slice pa pn pc] 70) := ⟨_, rfl⟩
 have hb0 : Below w.heap.size w w0 := by rw [hw0]; exact ((Below.refl _ _).alloc (Nat.le_refl _) _).alloc (by simp) _
 have hv1 : VRow w0 w.heap.size 70 [.slice (some ⟨g1, 0, none⟩) hn c1, .slice (some ⟨g2, 0, none⟩) pn c2] := by rw [hw0]; exact VRow.alloc (heap_alloc_new w _) _
 have hv2 : VRow w0 (w.heap.size + 1) 70 [.slice ha hn hc, .slice pa pn pc] := by
   rw [hw0]
   have := heap_alloc_new (w.alloc (.cells #[.slice (some ⟨g1, 0, none⟩) hn c1, .slice (some ⟨g2, 0, none⟩) pn c2] 70)) (.cells #[.slice ha hn hc, .slice pa pn pc] 70)
   rw [show (w.alloc (.cells #[.slice (some ⟨g1, 0, none⟩) hn c1, .slice (some ⟨g2, 0, none⟩) pn c2] 70)).heap.size = w.heap.size + 1 by simp] at this
   exact this
 have h0 := h.step hb0
 have hm0 := ho.below hb0 (Nat.le_refl _)
 have hl1 : o.has.length = hn := ho.has.len
 have hl2 : o.prices.length = pn := ho.prices.len
 have hs0 : w0.heap.size = w.heap.size + 1 + 1 := by rw [hw0]; simp
 have hlt0 : w.heap.size + 1 < w0.heap.size := by omega
 clear h ho hs0
 have HB0 := Lib.hid hb0; clear hb0
 have hw0' := hw0.symm
 clear hw0
 have c10 : w0.cell? ⟨w.heap.size, 0, none⟩ = some (.slice (some ⟨g1, 0, none⟩) hn c1) := VRow.cell hv1 rfl
 have c20 : w0.cell? ⟨w.heap.size + 1, 0, none⟩ = some (.slice ha hn hc) := VRow.cell hv2 rfl
 have H0 := Lib.hid h0; clear h0
 have HM0 := Lib.hid hm0; clear hm0
 have HV1 := Lib.hid hv1; clear hv1
 have HV2 := Lib.hid hv2; clear hv2
 have HL1 := Lib.hid hl1; clear hl1
 have HL2 := Lib.hid hl2; clear hl2
 go_enter Tryz.func46, Tryz.ntmps46
 go_wp2_with fail
 try rw [hw0']
 clear hw0'
 refine (leftInts_any g1 c1 hn hc ha hn base o.has w0 H0.out.has HL1.out HM0.out.has h1).mono ?_
 rintro e w1 ⟨rfl, hb1⟩
 have c11 : w1.cell? ⟨w.heap.size, 1, none⟩ = some (.slice (some ⟨g2, 0, none⟩) pn c2) := cell_stp hb1 (VRow.cell HV1.out rfl)
 have c21 : w1.cell? ⟨w.heap.size + 1, 1, none⟩ = some (.slice pa pn pc) := cell_stp hb1 (VRow.cell HV2.out rfl)
 clear c10 c20
 have HB1 := Lib.hid hb1; clear hb1
 go_wp2_with fail
 refine (leftInts_any g2 c2 pn pc pa pn base o.prices w1 (H0.out.prices.below HB1.out (Nat.le_refl _)) HL2.out (HM0.out.prices.below HB1.out (Nat.le_refl _)) h2).mono ?_
 rintro e w2 ⟨rfl, hb2⟩
 have hb02 : Below w0.heap.size w0 w2 := HB1.out.trans (hb2.mono HB1.out.size)
 clear hb2
 have HB2 := Lib.hid hb02; clear hb02
 go_wp2_with fail
 go_ret
 exact ⟨rfl, HB0.out.trans (HB2.out.mono HB0.out.size)⟩
end Go.Proofs.YtkddkkcfpnndlaaGreatDoor
