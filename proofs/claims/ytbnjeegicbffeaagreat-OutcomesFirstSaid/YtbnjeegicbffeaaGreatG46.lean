/- Walks: the law OutcomesNone. Walks: the law OutcomesNone. -/
import Derived.Test.YtbnjeegicbffeaaGreatG44
import Derived.BigRegion
/- Walks: the law OutcomesNone. -/
namespace Go.Proofs.YtbnjeegicbffeaaGreat
open Go.RowKit Sale

/-- nil entries, the first i of them -/
def nilTo (i n : Nat) (vals : List Value) : Prop := vals.length = n ∧ ∀ k, k < i → vals[k]? = some (Value.slice none 0 0)
theorem nilTo_set {i n : Nat} {vals : List Value} (h : nilTo i n vals) (hi : i < n) : nilTo (i + 1) n (vals.set i (.slice none 0 0)) :=
  ⟨by rw [List.length_set]; exact h.1, fun k hk => by
    by_cases e : i = k
    · subst e; simp [h.1, hi]
    · rw [List.getElem?_set_ne e]; exact h.2 k (by omega)⟩
theorem nil_rows {w : World} {B n c : Nat} {vals : List Value} (ht : Tab w B 23 vals) (h : nilTo n n vals) (hc : n ≤ c) (hn : n ≤ 100000) : Rows w (some ⟨B, 0, none⟩) n c (List.replicate n []) :=
  ⟨by simp, hc, by omega, fun _ => ⟨_, _, rfl⟩, fun b o e j xs hj => by
    cases e
    have hjn : j < n := by have := (List.getElem?_eq_some_iff.1 hj).1; simpa using this
    obtain rfl : xs = [] := by simpa [hjn] using hj.symm
    exact ⟨none, 0, 0, by rw [Nat.zero_add]; exact ht.cell (h.2 j hjn), Ints.empty _ _ _⟩⟩

/-- a twin whose lists are made nil, the first i of them -/
structure NoneAt (w : World) (base s1 s2 g1 B g3 i : Nat) (vals : List Value) (m : Mkt) : Prop where
  res : TabI w g1 m.res
  tab : Tab w B 23 vals
  nils : nilTo i m.bids.length vals
  ord : TabI w g3 m.ord
  b1 : base ≤ g1
  l1 : g1 < s1
  bB : s1 ≤ B
  lB : B < s2
  l3 : s2 ≤ g3
theorem NoneAt.step {w w' : World} {base s1 s2 g1 B g3 i : Nat} {vals : List Value} {m : Mkt} (h : NoneAt w base s1 s2 g1 B g3 i vals m) (hb : Below w.heap.size w w') : NoneAt w' base s1 s2 g1 B g3 i vals m :=
  ⟨Tab.below h.res hb (Tab.lt h.res), h.tab.below hb h.tab.lt, h.nils, Tab.below h.ord hb (Tab.lt h.ord), h.b1, h.l1, h.bB, h.lB, h.l3⟩
theorem NoneAt.other {w : World} {base s1 s2 g1 B g3 i : Nat} {vals : List Value} {m : Mkt} (h : NoneAt w base s1 s2 g1 B g3 i vals m) {a : Addr} (h1 : g1 ≠ a.block) (h2 : B ≠ a.block) (h3 : g3 ≠ a.block) (v : Value) : NoneAt (w.setCell a v) base s1 s2 g1 B g3 i vals m :=
  ⟨Tab.other h.res h1 _, h.tab.other h2 _, h.nils, Tab.other h.ord h3 _, h.b1, h.l1, h.bB, h.lB, h.l3⟩
theorem NoneAt.poke {w : World} {base s1 s2 g1 B g3 i : Nat} {vals : List Value} {m : Mkt} (h : NoneAt w base s1 s2 g1 B g3 i vals m) (hi : i < m.bids.length) : NoneAt (w.setCell ⟨B, i, none⟩ (.slice none 0 0)) base s1 s2 g1 B g3 (i + 1) (vals.set i (.slice none 0 0)) m :=
  ⟨Tab.other h.res (by have := h.l1; have := h.bB; simp; omega) _, h.tab.set i _, nilTo_set h.nils hi, Tab.other h.ord (by have := h.lB; have := h.l3; simp; omega) _, h.b1, h.l1, h.bB, h.lB, h.l3⟩
theorem NoneAt.mkt {w : World} {base s1 s2 g1 B g3 rn c1 bn cB on c3 : Nat} {vals : List Value} {m : Mkt} (h : NoneAt w base s1 s2 g1 B g3 bn vals m) (hm : MBd m) (h1 : m.res.length = rn) (h2 : m.bids.length = bn) (h3 : m.ord.length = on) (hc1 : rn ≤ c1) (hcB : bn ≤ cB) (hc3 : on ≤ c3) :
    MktAt w (some ⟨g1, 0, none⟩) (some ⟨B, 0, none⟩) (some ⟨g3, 0, none⟩) rn c1 bn cB on c3 (noBids m) := by
  have a1 := hm.res.1
  have a3 := hm.ord.1
  refine ⟨?_, ?_, ?_⟩
  · have := TabI.ints h.res (c := c1) (by omega) (by omega) hm.res.2
    rw [h1] at this; exact this
  · have hn := h.nils
    rw [h2] at hn
    have := nil_rows h.tab hn hcB (by have := hm.bids.1; omega)
    unfold noBids
    rw [h2]; exact this
  · have := TabI.ints h.ord (c := c3) (by omega) (by omega) hm.ord.2
    rw [h3] at this; exact this
theorem TwinMkt.start {w : World} {base s1 s2 g1 B g3 : Nat} {vals : List Value} {gs : List Nat} {m : Mkt} (h : TwinMkt w base s1 s2 g1 B g3 vals gs m) : NoneAt w base s1 s2 g1 B g3 0 vals m :=
  ⟨h.res, h.tab, ⟨h.vlen, fun k hk => by omega⟩, h.ord, h.b1, h.l1, h.bB, h.lB, h.l3⟩
/-- another block is written -/
theorem TwinMkt.other {w : World} {base s1 s2 g1 B g3 : Nat} {vals : List Value} {gs : List Nat} {m : Mkt} (h : TwinMkt w base s1 s2 g1 B g3 vals gs m) {a : Addr} (h1 : g1 ≠ a.block) (h2 : B ≠ a.block) (h3 : g3 ≠ a.block) (h4 : a.block ∉ gs) (v : Value) : TwinMkt (w.setCell a v) base s1 s2 g1 B g3 vals gs m :=
  ⟨Tab.other h.res h1 _, h.tab.other h2 _, h.vlen, h.rows.other h4 _, Tab.other h.ord h3 _, h.b1, h.l1, h.bB, h.lB, h.lg, h.l3⟩
theorem TwinMkt.before {w : World} {base s1 s2 g1 B g3 : Nat} {vals : List Value} {gs : List Nat} {m : Mkt} (h : TwinMkt w base s1 s2 g1 B g3 vals gs m) {a : Addr} (ha : a.block < base) (v : Value) : TwinMkt (w.setCell a v) base s1 s2 g1 B g3 vals gs m :=
  h.other (by have := h.b1; omega) (by have := h.b1; have := h.l1; have := h.bB; omega) (by have := h.b1; have := h.l1; have := h.bB; have := h.lB; have := h.l3; omega) (fun hm => by have := (h.rows.at' _ hm).1; have := h.b1; have := h.l1; omega) v
/-- an entry of a twin's bid is written -/
theorem TwinMkt.poke {w : World} {base s1 s2 g1 B g3 : Nat} {vals : List Value} {gs : List Nat} {m : Mkt} (h : TwinMkt w base s1 s2 g1 B g3 vals gs m) {i g : Nat} {xs : List Int} (hi : m.bids[i]? = some xs) (hg : gs[i]? = some g) (k : Nat) (v : Int) :
    TwinMkt (w.setCell ⟨g, k, none⟩ (.int .i64 v)) base s1 s2 g1 B g3 vals gs { m with bids := m.bids.set i (xs.set k v) } := by
  have hm := List.mem_of_getElem? hg
  have ha := h.rows.at' g hm
  have hl := h.lg g hm
  exact ⟨Tab.other h.res (by have := h.l1; simp; omega) _, h.tab.other (by simp; exact Ne.symm ha.2.1) _, by rw [List.length_set]; exact h.vlen, h.rows.poke hi hg k v, Tab.other h.ord (by have := h.l3; simp; omega) _, h.b1, h.l1, h.bB, h.lB, h.lg, h.l3⟩
/-- row i of a twin -/
theorem TwinMkt.at' {w : World} {base s1 s2 g1 B g3 : Nat} {vals : List Value} {gs : List Nat} {m : Mkt} (h : TwinMkt w base s1 s2 g1 B g3 vals gs m) {i : Nat} {xs : List Int} (hi : m.bids[i]? = some xs) :
    ∃ g c, gs[i]? = some g ∧ w.cell? ⟨B, i, none⟩ = some (Value.slice (some ⟨g, 0, none⟩) xs.length c) ∧ xs.length ≤ c ∧ TabI w g xs ∧ s1 ≤ g ∧ g < s2 := by
  obtain ⟨g, hg⟩ : ∃ g, gs[i]? = some g := ⟨_, List.getElem?_eq_getElem (by rw [h.rows.len]; exact (List.getElem?_eq_some_iff.1 hi).1)⟩
  obtain ⟨c, h1, h2, h3⟩ := h.rows.row i xs g hi hg
  exact ⟨g, c, hg, h.tab.cell h1, h2, h3, (h.rows.at' g (List.mem_of_getElem? hg)).1, h.lg g (List.mem_of_getElem? hg)⟩

/-- the i first rows are low, and j entries of the one behind them -/
def lowAt (m : Mkt) (t : Int) (i j : Nat) : Mkt := { m with bids := (lowRows m t i).set i (lowTo m.res (m.bids.getD i []) t j) }
theorem lowAt_zero {m : Mkt} {t : Int} {i : Nat} : lowAt m t i 0 = { m with bids := lowRows m t i } := by
  unfold lowAt
  rw [lowTo_zero]
  congr 1
  apply List.ext_getElem?
  intro k
  rw [List.getElem?_set]
  by_cases e : i = k
  · subst e
    by_cases hk : i < m.bids.length
    · rw [if_pos rfl, if_pos (by rw [lowRows_length]; exact hk), lowRows_get hk, if_neg (by omega)]
    · rw [if_pos rfl, if_neg (by rw [lowRows_length]; exact hk), List.getElem?_eq_none (by rw [lowRows_length]; omega)]
  · rw [if_neg e]
theorem lowAt_get {m : Mkt} {t : Int} {i j : Nat} (hi : i < m.bids.length) : (lowAt m t i j).bids[i]? = some (lowTo m.res (m.bids.getD i []) t j) := by
  unfold lowAt
  simp [lowRows_length, hi]
theorem lowAt_set {m : Mkt} {t : Int} {i j : Nat} {v : Int} (hv : min ((m.bids.getD i []).getD j 0) (m.res.getD j 0 - 1 - t) = v) : ({ lowAt m t i j with bids := (lowAt m t i j).bids.set i ((lowTo m.res (m.bids.getD i []) t j).set j v) } : Mkt) = lowAt m t i (j + 1) := by
  unfold lowAt
  simp only [List.set_set]
  rw [lowTo_set v hv]
theorem lowAt_full {m : Mkt} {t : Int} {i : Nat} (hi : i < m.bids.length) : lowAt m t i (m.bids.getD i []).length = { m with bids := lowRows m t (i + 1) } := by
  unfold lowAt
  rw [← lowRows_set hi]; rfl
theorem lowM_bd {m : Mkt} (hm : MOk m) {t : Int} (ht : 0 ≤ t ∧ t ≤ 2) : MBd (lowM m t) := by
  have h8 := hm.n8
  have m8 := hm.m8
  have hb := hm.mbd
  refine ⟨hb.res, ⟨by rw [lowM_length]; omega, fun xs hxs => ?_⟩, hb.ord⟩
  obtain ⟨i, hi, rfl⟩ := List.mem_map.1 hxs
  have hi' := List.mem_range.1 hi
  rw [if_pos hi']
  have hbi := hm.bid_at hi'
  refine ⟨by unfold lowRow; rw [lowTo_length]; (rcases hbi with e | ⟨e, _⟩ <;> rw [e] <;> first | exact Nat.zero_le _ | omega), fun x hx => ?_⟩
  obtain ⟨k, hk, rfl⟩ := List.mem_map.1 hx
  have hk' := List.mem_range.1 hk
  rw [if_pos hk']
  rcases hbi with e | ⟨e1, e2⟩
  · rw [e] at hk'; simp at hk'
  · have h1 := e2 k (by omega)
    have h2 := hm.res _ (getD_mem (l := m.res) (k := k) (by omega) 0)
    unfold bidAt at h1
    omega
end Go.Proofs.YtbnjeegicbffeaaGreat

/- Walks: the law OutcomesNone. -/
namespace Go.Proofs.YtbnjeegicbffeaaGreat
open Go.RowKit Sale

/-- x, whose bids are made nil, and y, whose bids are made low, in boxes of their own -/
structure XyAt (w1 : World) (Bx s1 s2 g1 B g3 rn c1 bn cB on c3 By baseY s3 s4 g4 D g6 c4 cD c6 : Nat) (valsY : List Value) (gsY : List Nat) (m my : Mkt) (i : Nat) (vals : List Value) (wr : World) : Prop where
  bx : VRow wr Bx 28 [.slice (some ⟨g1, 0, none⟩) rn c1, .slice (some ⟨B, 0, none⟩) bn cB, .slice (some ⟨g3, 0, none⟩) on c3]
  by' : VRow wr By 28 [.slice (some ⟨g4, 0, none⟩) rn c4, .slice (some ⟨D, 0, none⟩) bn cD, .slice (some ⟨g6, 0, none⟩) on c6]
  x : NoneAt wr w1.heap.size s1 s2 g1 B g3 i vals m
  y : TwinMkt wr baseY s3 s4 g4 D g6 valsY gsY my
  g3x : g3 < Bx
  xy : Bx < baseY
  g6y : g6 < By
  below : Below w1.heap.size w1 wr
section
variable {w1 : World} {Bx s1 s2 g1 B g3 rn c1 bn cB on c3 By baseY s3 s4 g4 D g6 c4 cD c6 : Nat} {valsY : List Value} {gsY : List Nat} {m my : Mkt} {i : Nat} {vals : List Value} {wr : World}
theorem XyAt.drew (h : XyAt w1 Bx s1 s2 g1 B g3 rn c1 bn cB on c3 By baseY s3 s4 g4 D g6 c4 cD c6 valsY gsY m my i vals wr) : XyAt w1 Bx s1 s2 g1 B g3 rn c1 bn cB on c3 By baseY s3 s4 g4 D g6 c4 cD c6 valsY gsY m my i vals wr.drew :=
  ⟨h.bx.drew, h.by'.drew, h.x.step ((Below.refl _ _).drew), h.y.below ((Below.refl _ _).drew) (Nat.le_refl _), h.g3x, h.xy, h.g6y, h.below.drew⟩
theorem XyAt.pokeX (h : XyAt w1 Bx s1 s2 g1 B g3 rn c1 bn cB on c3 By baseY s3 s4 g4 D g6 c4 cD c6 valsY gsY m my i vals wr) (hi : i < m.bids.length) :
    XyAt w1 Bx s1 s2 g1 B g3 rn c1 bn cB on c3 By baseY s3 s4 g4 D g6 c4 cD c6 valsY gsY m my (i + 1) (vals.set i (.slice none 0 0)) (wr.setCell ⟨B, i, none⟩ (.slice none 0 0)) := by
  have a1 := h.x.b1
  have a2 := h.x.l1
  have a3 := h.x.bB
  have a4 := h.x.lB
  have a5 := h.x.l3
  have a6 := h.g3x
  have a7 := h.xy
  have a8 := h.y.b1
  have a9 := h.y.l1
  have b1 := h.y.bB
  have b2 := h.y.lB
  have b3 := h.y.l3
  have b4 := h.g6y
  exact ⟨vrow_far h.bx (by simp; omega) _, vrow_far h.by' (by simp; omega) _, h.x.poke hi, h.y.before (by simp; omega) _, h.g3x, h.xy, h.g6y, h.below.setCell (by simp; omega) _⟩
theorem XyAt.pokeY (h : XyAt w1 Bx s1 s2 g1 B g3 rn c1 bn cB on c3 By baseY s3 s4 g4 D g6 c4 cD c6 valsY gsY m my i vals wr) {k g j : Nat} {xs : List Int} (hk : my.bids[k]? = some xs) (hg : gsY[k]? = some g) (hl : s3 ≤ g ∧ g < s4) (v : Int) :
    XyAt w1 Bx s1 s2 g1 B g3 rn c1 bn cB on c3 By baseY s3 s4 g4 D g6 c4 cD c6 valsY gsY m { my with bids := my.bids.set k (xs.set j v) } i vals (wr.setCell ⟨g, j, none⟩ (.int .i64 v)) := by
  have a1 := h.x.b1
  have a2 := h.x.l1
  have a3 := h.x.bB
  have a4 := h.x.lB
  have a5 := h.x.l3
  have a6 := h.g3x
  have a7 := h.xy
  have a8 := h.y.b1
  have a9 := h.y.l1
  have b1 := h.y.bB
  have b2 := h.y.lB
  have b3 := h.y.l3
  have b4 := h.g6y
  exact ⟨vrow_far h.bx (by simp; omega) _, vrow_far h.by' (by simp; omega) _, h.x.other (by simp; omega) (by simp; omega) (by simp; omega) _, h.y.poke hk hg j v, h.g3x, h.xy, h.g6y, h.below.setCell (by simp; omega) _⟩
end

/-- a market in its box -/
structure BoxM (N : Nat) (ra ba oa : Option Addr) (rn rc bn bc on oc : Nat) (m : Mkt) (W : World) : Prop where
  row : VRow W N 28 [.slice ra rn rc, .slice ba bn bc, .slice oa on oc]
  mkt : MktAt W ra ba oa rn rc bn bc on oc m
theorem BoxM.step {N : Nat} {ra ba oa : Option Addr} {rn rc bn bc on oc : Nat} {m : Mkt} {W W' : World} (h : BoxM N ra ba oa rn rc bn bc on oc m W) (hb : Below W.heap.size W W') : BoxM N ra ba oa rn rc bn bc on oc m W' :=
  ⟨h.row.step hb, h.mkt.below hb (Nat.le_refl _)⟩
theorem MOk.bids_le {m : Mkt} (h : MOk m) : ∀ xs, xs ∈ m.bids → xs.length ≤ 100000 := fun xs hx => (h.mbd.bids.2 xs hx).1
theorem MOk.ord_len {m : Mkt} (h : MOk m) : m.ord.length = m.bids.length := by
  have hord := h.ord
  unfold isOrd at hord
  rw [List.isPerm_iff] at hord
  rw [hord.length_eq]; simp [upTo]

set_option maxRecDepth 100000 in
set_option maxHeartbeats 1000000 in
theorem outcomesNone_any (ra ba oa : Option Addr) (rn rc bn bc on oc : Nat) (m : Mkt) (bd : Nat) (w : World) (hm : MktAt w ra ba oa rn rc bn bc on oc m) (hbd : bd < 256) :
    Calls Tryz.prog 8 #[.agg #[.slice ra rn rc, .slice ba bn bc, .slice oa on oc], .int .u8 (bd : Int)] w fun e w' => e = .returned (.bool true) ∧ Below w.heap.size w w' := by
  have hb0 : Below w.heap.size w (mw w ra ba oa rn rc bn bc on oc) := (Below.refl _ _).alloc (Nat.le_refl _) _
  have hm0 : BoxM w.heap.size ra ba oa rn rc bn bc on oc m (mw w ra ba oa rn rc bn bc on oc) := ⟨VRow.new w _ _, hm.below hb0 (Nat.le_refl _)⟩
  have hrl := hm.res.len
  have hbl := hm.bids.len
  have hol := hm.ord.len
  have k0 := hm0.row.cell (k := 0) rfl
  have k1 := hm0.row.cell (k := 1) rfl
  have k2 := hm0.row.cell (k := 2) rfl
  have HK := Lib.hid (mcheck_any ra ba oa rn rc bn bc on oc m _ hm0.mkt.res hm0.mkt.bids hm0.mkt.ord)
  have H0 := Lib.hid (And.intro hm0 hb0); clear hm0 hb0 hm
  by_cases hc : mcheck m = true
  · have hok := mcheck_ok hc
    have hn8 := hok.n8
    have hm8 := hok.m8
    have hon := hok.ord_len
    rw [hrl] at hn8
    rw [hbl] at hm8
    rw [hbl, hol] at hon
    rw [hc] at HK
    have HC := Lib.hid (And.intro hc hok)
    have HL := Lib.hid (And.intro hrl (And.intro hbl hol)); clear hok hc hrl hbl hol
    obtain rfl : bn = on := hon.symm
    go_enter Tryz.func8, Tryz.ntmps8
    go_wp2_with fail
    refine HK.out.mono ?_
    rintro e w1 ⟨rfl, hb⟩
    have hm1 := H0.out.1.step hb
    have hb1 := H0.out.2.trans (hb.mono H0.out.2.size)
    clear k0 k1 k2
    have k0 := hm1.row.cell (k := 0) rfl
    have k1 := hm1.row.cell (k := 1) rfl
    have k2 := hm1.row.cell (k := 2) rfl
    have HT := Lib.hid (twinMarket_any ra ba oa rn rc bn bc bn oc m w1 hm1.mkt (by omega) (by omega) (by omega) HC.out.2.bids_le)
    have HM1 := Lib.hid (And.intro hm1 hb1)
    have H1 := Lib.hid (And.intro hm1 hb1); clear hm1 hb1 hb HK H0
    go_wp2_with fail
    refine HT.out.mono ?_
    rintro e w2 ⟨g1, c1, B, cB, g3, c3, s1, s2, vals, gs, rfl, hc1, hcB, hc3, htw, hb2⟩
    have hal : Below w2.heap.size w2 (w2.alloc (.cells #[.slice (some ⟨g1, 0, none⟩) rn c1, .slice (some ⟨B, 0, none⟩) bn cB, .slice (some ⟨g3, 0, none⟩) bn c3] 28)) := (Below.refl _ _).alloc (Nat.le_refl _) _
    have hm3 := (H1.out.1.step hb2).step hal
    have ht3 := htw.below hal (Nat.le_refl _)
    have bx3 := VRow.new w2 28 [.slice (some ⟨g1, 0, none⟩) rn c1, .slice (some ⟨B, 0, none⟩) bn cB, .slice (some ⟨g3, 0, none⟩) bn c3]
    have hg3 := Tab.lt htw.ord
    have hb3 := H1.out.2.trans ((hb2.trans (hal.mono hb2.size)).mono H1.out.2.size)
    have hbw := hb2.trans (hal.mono hb2.size)
    clear k0 k1 k2
    have k0 := hm3.row.cell (k := 0) rfl
    have k1 := hm3.row.cell (k := 1) rfl
    have k2 := hm3.row.cell (k := 2) rfl
    have hz3 : (w2.alloc (.cells #[.slice (some ⟨g1, 0, none⟩) rn c1, .slice (some ⟨B, 0, none⟩) bn cB, .slice (some ⟨g3, 0, none⟩) bn c3] 28)).heap.size = w2.heap.size + 1 := by simp
    have HT2 := Lib.hid (twinMarket_any ra ba oa rn rc bn bc bn oc m _ hm3.mkt (by omega) (by omega) (by omega) HC.out.2.bids_le)
    have H3 := Lib.hid (And.intro hm3 (And.intro ht3.start (And.intro bx3 (And.intro hb3 (And.intro hbw hz3))))); clear hm3 ht3 bx3 hb3 hbw htw hb2 hal HT H1 hz3
    go_wp2_with fail
    refine HT2.out.mono ?_
    rintro e w4 ⟨g4, c4, D, cD, g6, c6, s3, s4, valsY, gsY, rfl, hc4, hcD, hc6, htw, hb4⟩
    have hal : Below w4.heap.size w4 (w4.alloc (.cells #[.slice (some ⟨g4, 0, none⟩) rn c4, .slice (some ⟨D, 0, none⟩) bn cD, .slice (some ⟨g6, 0, none⟩) bn c6] 28)) := (Below.refl _ _).alloc (Nat.le_refl _) _
    have hbw := hb4.trans (hal.mono hb4.size)
    have hX : XyAt w1 w2.heap.size s1 s2 g1 B g3 rn c1 bn cB bn c3 w4.heap.size (w2.heap.size + 1) s3 s4 g4 D g6 c4 cD c6 valsY gsY m m 0 vals (w4.alloc (.cells #[.slice (some ⟨g4, 0, none⟩) rn c4, .slice (some ⟨D, 0, none⟩) bn cD, .slice (some ⟨g6, 0, none⟩) bn c6] 28)) :=
      ⟨H3.out.2.2.1.step hbw, VRow.new w4 _ _, H3.out.2.1.step hbw, by rw [← H3.out.2.2.2.2.2]; exact htw.below hal (Nat.le_refl _), hg3, by omega, Tab.lt htw.ord, H3.out.2.2.2.2.1.trans (hbw.mono H3.out.2.2.2.2.1.size)⟩
    have hm5 := H3.out.1.step hbw
    have hb5 := H3.out.2.2.2.1.trans (hbw.mono H3.out.2.2.2.1.size)
    have q1 := hX.bx.cell (k := 1) rfl
    obtain ⟨W5, hW5⟩ : ∃ W5, W5 = w4.alloc (.cells #[.slice (some ⟨g4, 0, none⟩) rn c4, .slice (some ⟨D, 0, none⟩) bn cD, .slice (some ⟨g6, 0, none⟩) bn c6] 28) := ⟨_, rfl⟩
    have H5 := Lib.hid (And.intro hX (And.intro hm5 hb5)); clear hX hm5 hb5 hbw htw hb4 hal HT2 k0 k1 k2
    go_wp2_with fail
    rw [show w4.alloc (.cells #[.slice (some ⟨g4, 0, none⟩) rn c4, .slice (some ⟨D, 0, none⟩) bn cD, .slice (some ⟨g6, 0, none⟩) bn c6] 28) = W5 from hW5.symm] at q1 H5 ⊢
    clear hW5 q1
    obtain ⟨t, ht⟩ : ∃ t : Int, t = (bd : Int) % 3 := ⟨_, rfl⟩
    have ht0 : 0 ≤ t ∧ t ≤ 2 := by omega
    go_loopg [7] bn (fun g' s7 wr => ∃ (i : Nat) (vals : List Value), i + g' = bn ∧ s7 = .int .i64 i ∧ XyAt w1 w2.heap.size s1 s2 g1 B g3 rn c1 bn cB bn c3 w4.heap.size (w2.heap.size + 1) s3 s4 g4 D g6 c4 cD c6 valsY gsY m { m with bids := lowRows m t i } i vals wr)
    case atStart => exact ⟨0, vals, by omega, rfl, by rw [lowRows_zero]; exact H5.out.1⟩
    case round =>
      obtain ⟨i, vals, hi, rfl, hX⟩ := hrel
      have HI := Lib.hid hi; clear hi
      by_cases hlt : i < bn
      · have him : i < m.bids.length := by rw [HL.out.2.1]; exact hlt
        have q1 := hX.bx.cell (k := 1) rfl
        obtain ⟨v0, hv0⟩ : ∃ v0, vals[i]? = some v0 := ⟨_, List.getElem?_eq_getElem (by rw [hX.x.nils.1]; exact him)⟩
        have cv := hX.x.tab.cell hv0
        have fv := hX.x.tab.frozen i
        have hX2 := hX.pokeX him
        have i0 : (0 : Int) ≤ (i : Int) := by omega
        have i1 : (i : Int) < (bn : Int) := by omega
        have q2 := hX2.by'.cell (k := 1) rfl
        have hl0 := lowAt_zero (m := m) (t := t) (i := i)
        rw [← hl0] at hX2
        obtain ⟨gy, cy, hgy, cgy, hcy, hty, hgl⟩ := hX2.y.at' (lowAt_get him)
        rw [lowTo_length] at cgy hcy
        obtain ⟨ln, hln⟩ : ∃ ln, ln = (m.bids.getD i []).length := ⟨_, rfl⟩
        rw [← hln] at cgy hcy
        have HLN := Lib.hid hln; clear hln
        have hln8 : ln ≤ 8 := by
          rcases HC.out.2.bid_at him with e | ⟨e, _⟩
          · have := HLN.out; rw [e] at this; simp at this; omega
          · have := HLN.out; have := HL.out.1; omega
        have HX2 := Lib.hid (And.intro hX2 hgy); clear hX2 hX hl0 hv0 hty
        go_wp2_with fail
        obtain ⟨go, rfl⟩ : ∃ go : Nat, go = gk := ⟨_, rfl⟩
        clear q1 cv fv q2 cgy
        go_loopg [8] ln (fun g' s8 wr => ∃ j : Nat, j + g' = ln ∧ s8 = .int .i64 j ∧ XyAt w1 w2.heap.size s1 s2 g1 B g3 rn c1 bn cB bn c3 w4.heap.size (w2.heap.size + 1) s3 s4 g4 D g6 c4 cD c6 valsY gsY m (lowAt m t i j) (i + 1) (vals.set i (.slice none 0 0)) wr)
        case atStart => exact ⟨0, by omega, rfl, HX2.out.1⟩
        case round =>
          obtain ⟨j, hj, rfl, hX⟩ := hrel
          have HJ := Lib.hid hj; clear hj
          have q2 := hX.by'.cell (k := 1) rfl
          have q3 := hX.by'.cell (k := 0) rfl
          obtain ⟨gy2, cy2, hgy2, cgy, hcy2, hty, hgl2⟩ := hX.y.at' (lowAt_get him)
          rw [lowTo_length, ← HLN.out] at cgy
          by_cases hltj : j < ln
          · have hbl : (m.bids.getD i []).length = m.res.length := by
              rcases HC.out.2.bid_at him with e | ⟨e, _⟩
              · have := HLN.out; rw [e] at this; simp at this; omega
              · exact e
            obtain ⟨_, hbb⟩ := (HC.out.2.bid_at him).resolve_left (fun e => by have := HLN.out; rw [e] at this; simp at this; omega)
            have hjr : j < m.res.length := by rw [← hbl, ← HLN.out]; exact hltj
            have hy := hbb j hjr
            have hr := HC.out.2.res _ (getD_mem hjr 0)
            have cy := Tab.cell hty (k := j) (v := .int .i64 ((m.bids.getD i []).getD j 0)) (by rw [List.getElem?_map, lowTo_get (by rw [hbl]; exact hjr), if_neg (by omega)]; rfl)
            have fy := Tab.frozen hty j
            have cr := Tab.cell hX.y.res (k := j) (v := .int .i64 (m.res.getD j 0)) (by rw [List.getElem?_map, show (lowAt m t i j).res = m.res from rfl, getD_some hjr 0]; rfl)
            have hset := hX.pokeY (lowAt_get him) hgy2 hgl2 (j := j) (min ((m.bids.getD i []).getD j 0) (m.res.getD j 0 - 1 - t))
            rw [lowAt_set rfl] at hset
            unfold bidAt at hy
            obtain ⟨y, hyy⟩ : ∃ y, y = (m.bids.getD i []).getD j 0 := ⟨_, rfl⟩
            obtain ⟨r, hrr⟩ : ∃ r, r = m.res.getD j 0 := ⟨_, rfl⟩
            rw [← hyy] at hy cy hset
            rw [← hrr] at hr cr hset
            clear hyy hrr
            obtain ⟨hy0, hy1⟩ := hy
            obtain ⟨hr0, hr1⟩ := hr
            obtain ⟨ht1, ht2⟩ := ht0
            have j0 : (0 : Int) ≤ (j : Int) := by omega
            have j1 : (j : Int) < (ln : Int) := by omega
            have j2 : (j : Int) < (rn : Int) := by have := HL.out.1; omega
            have e1 : IntKind.i64.wrap (r - 1) = r - 1 := IntWalk.i64_in _ (by omega)
            have e2 : IntKind.i64.wrap (r - 1 - t) = r - 1 - t := IntWalk.i64_in _ (by omega)
            have e3 : IntKind.i64.wrap (bd : Int) = (bd : Int) := IntWalk.i64_in _ (by omega)
            have HS := Lib.hid hset; clear hset hX hty hbb hbl hgy2
            subst ht
            go_wp2_with fail
            go_region
            go_wp2_with fail
            go_roundg (gk - 1)
            case measure => have := HJ.out; omega
            case rel => exact ⟨j + 1, by have := HJ.out; omega, by go_num, HS.out.drew⟩
          · obtain rfl : j = ln := by have := HJ.out; omega
            rw [show lowAt m t i j = { m with bids := lowRows m t (i + 1) } by rw [HLN.out]; exact lowAt_full him] at hX
            have HX := Lib.hid hX; clear hX hty hgy2
            go_wp2_with fail
            go_roundg (go - 1)
            case measure => have := HI.out; omega
            case rel => exact ⟨i + 1, _, by have := HI.out; omega, by go_num, HX.out⟩
      · obtain rfl : i = bn := by have := HI.out; omega
        have hmb := HC.out.2.mbd
        have hMx : BoxM w2.heap.size (some ⟨g1, 0, none⟩) (some ⟨B, 0, none⟩) (some ⟨g3, 0, none⟩) rn c1 i cB i c3 (noBids m) wr := ⟨hX.bx, hX.x.mkt hmb HL.out.1 HL.out.2.1 HL.out.2.2 hc1 hcB hc3⟩
        have hyl : ({ m with bids := lowRows m t i } : Mkt) = lowM m t := by unfold lowM; rw [HL.out.2.1]
        have hMy : BoxM w4.heap.size (some ⟨g4, 0, none⟩) (some ⟨D, 0, none⟩) (some ⟨g6, 0, none⟩) rn c4 i cD i c6 (lowM m t) wr := by
          have hy := hX.y
          rw [hyl] at hy
          exact ⟨hX.by', hy.mkt (lowM_bd HC.out.2 ht0) HL.out.1 (by rw [lowM_length]; exact HL.out.2.1) HL.out.2.2 hc4 hcD hc6⟩
        have hMm := HM1.out.1.step hX.below
        have hbw := HM1.out.2.trans (hX.below.mono HM1.out.2.size)
        have hO := Oof_yes _ _ _ rn c1 i cB i c3 (noBids m) wr hMx.mkt (mcheck_of (noBids_ok HC.out.2))
        rw [noBids_out HC.out.2] at hO
        have HO := Lib.hid hO
        have q0 := hMx.row.cell (k := 0) rfl
        have q1 := hMx.row.cell (k := 1) rfl
        have q2 := hMx.row.cell (k := 2) rfl
        have HH := Lib.hid (And.intro hMy (And.intro hMm hbw)); clear hMx hMy hMm hbw hX hO hmb hyl
        have HT0 := Lib.hid (And.intro ht ht0); clear ht ht0
        go_wp2_with fail
        refine HO.out.mono ?_
        rintro e w6 ⟨ha', pa, hcp, rfl, ho, hb6⟩
        have hal : Below w6.heap.size w6 (w6.alloc (.cells #[.slice ha' i hcp, .slice pa rn rn] 30)) := (Below.refl _ _).alloc (Nat.le_refl _) _
        have hMy := (HH.out.1.step hb6).step hal
        have hMm := (HH.out.2.1.step hb6).step hal
        have hbw := HH.out.2.2.trans ((hb6.trans (hal.mono hb6.size)).mono HH.out.2.2.size)
        have ha7 := BoxO.new ho
        clear q0 q1 q2
        have p0 := ha7.row.cell (k := 0) rfl
        have p1 := ha7.row.cell (k := 1) rfl
        have m0 := hMm.row.cell (k := 0) rfl
        have m1 := hMm.row.cell (k := 1) rfl
        have hS := same_any pa ra rn rn rn rc m.res m.res _ ha7.out.prices hMm.mkt.res
        rw [decide_eq_true rfl] at hS
        have HS := Lib.hid hS
        have H7 := Lib.hid (And.intro hMy (And.intro hMm (And.intro hbw ha7))); clear hMy hMm hbw ha7 hb6 hal hS HH HO ho
        go_wp2_with fail
        refine HS.out.mono ?_
        rintro e w8 ⟨rfl, hb⟩
        have hMy := H7.out.1.step hb
        have hMm := H7.out.2.1.step hb
        have ha8 := H7.out.2.2.2.step hb
        have hbw := H7.out.2.2.1.trans (hb.mono H7.out.2.2.1.size)
        clear p0 p1 m0 m1
        have p0 := ha8.row.cell (k := 0) rfl
        have m1 := hMm.row.cell (k := 1) rfl
        have H8 := Lib.hid (And.intro hMy (And.intro hbw ha8)); clear hMy hMm hbw ha8 hb HS H7
        go_wp2_with fail
        clear p0 m1
        go_loopg [11] i (fun g' s11 wr => ∃ k : Nat, k + g' = i ∧ s11 = .int .i64 k ∧ Below w8.heap.size w8 wr)
        case atStart => exact ⟨0, by omega, rfl, Below.refl _ _⟩
        case round =>
          obtain ⟨k, hk, rfl, hb⟩ := hrel
          have HKK := Lib.hid hk; clear hk
          have ha := H8.out.2.2.step hb
          have p0 := ha.row.cell (k := 0) rfl
          by_cases hltk : k < i
          · obtain ⟨xb, xo, hxe⟩ := ha.out.has.addr (by omega)
            subst hxe
            have cx := ha.out.has.cell xb xo rfl k (-1) (by simp [HL.out.2.1, hltk])
            have i0 : (0 : Int) ≤ (k : Int) := by omega
            have i1 : (k : Int) < (i : Int) := by omega
            have HB := Lib.hid hb; clear hb ha
            go_wp2_with fail
            go_roundg (gk - 1)
            case measure => have := HKK.out; omega
            case rel => exact ⟨k + 1, by have := HKK.out; omega, by go_num, HB.out⟩
          · have hMy := H8.out.1.step hb
            have hbw := H8.out.2.1.trans (hb.mono H8.out.2.1.size)
            have q0 := hMy.row.cell (k := 0) rfl
            have q1 := hMy.row.cell (k := 1) rfl
            have q2 := hMy.row.cell (k := 2) rfl
            by_cases hcy : mcheck (lowM m t) = true
            · have hO := Oof_yes _ _ _ rn c4 i cD i c6 (lowM m t) wr hMy.mkt hcy
              rw [lowM_out (mcheck_ok hcy) HT0.out.2.1] at hO
              have HO := Lib.hid hO
              have H9 := Lib.hid (And.intro ha hbw); clear ha hMy hbw hO hb hcy
              go_wp2_with fail
              refine HO.out.mono ?_
              rintro e w9 ⟨ha2, pa2, hcp2, rfl, ho, hb⟩
              have hal : Below w9.heap.size w9 (w9.alloc (.cells #[.slice ha2 i hcp2, .slice pa2 rn rn] 30)) := (Below.refl _ _).alloc (Nat.le_refl _) _
              have ha := (H9.out.1.step hb).step hal
              have hbb := BoxO.new ho
              have hbw := H9.out.2.trans ((hb.trans (hal.mono hb.size)).mono H9.out.2.size)
              clear q0 q1 q2 p0
              have p0 := ha.row.cell (k := 0) rfl
              have p1 := ha.row.cell (k := 1) rfl
              have r0 := hbb.row.cell (k := 0) rfl
              have r1 := hbb.row.cell (k := 1) rfl
              have hS := sameO_any ha' pa ha2 pa2 i hcp rn rn i hcp2 rn rn _ _ _ ha.out hbb.out
              rw [show sameO (⟨List.replicate m.bids.length (-1), m.res⟩ : Outc) ⟨List.replicate m.bids.length (-1), m.res⟩ = true by simp [sameO]] at hS
              have HS := Lib.hid hS
              have H10 := Lib.hid hbw; clear ha hbb hbw hS hal hb ho HO
              go_wp2_with fail
              refine HS.out.mono ?_
              rintro e w10 ⟨rfl, hb⟩
              have H11 := Lib.hid (H10.out.trans (hb.mono H10.out.size)); clear hb
              go_wp2_with fail
              refine (lives15_any w10).mono ?_
              rintro e w11 ⟨rfl, hb⟩
              have H12 := Lib.hid (H11.out.trans (hb.mono H11.out.size)); clear hb
              go_wp2_with fail
              go_ret
              exact ⟨rfl, H12.out⟩
            · have hcy : mcheck (lowM m t) = false := by simpa using hcy
              have HO := Lib.hid (Oof_no _ _ _ rn c4 i cD i c6 (lowM m t) wr hMy.mkt hcy)
              have HCY := Lib.hid hcy
              have H9 := Lib.hid (And.intro hMy hbw); clear ha hMy hbw hb hcy
              go_wp2_with fail
              refine HO.out.mono ?_
              rintro e w9 ⟨rfl, hb⟩
              have hal : Below w9.heap.size w9 (w9.alloc (.cells #[.slice none 0 0, .slice none 0 0] 30)) := (Below.refl _ _).alloc (Nat.le_refl _) _
              have hMy := (H9.out.1.step hb).step hal
              have hbw := H9.out.2.trans ((hb.trans (hal.mono hb.size)).mono H9.out.2.size)
              clear q0 q1 q2 p0
              have q0 := hMy.row.cell (k := 0) rfl
              have q1 := hMy.row.cell (k := 1) rfl
              have q2 := hMy.row.cell (k := 2) rfl
              have hK := mcheck_any _ _ _ rn c4 i cD i c6 (lowM m t) _ hMy.mkt.res hMy.mkt.bids hMy.mkt.ord
              rw [HCY.out] at hK
              have HK := Lib.hid hK
              have H10 := Lib.hid hbw; clear hMy hbw hK hal hb HO
              go_wp2_with fail
              refine HK.out.mono ?_
              rintro e w10 ⟨rfl, hb⟩
              have H11 := Lib.hid (H10.out.trans (hb.mono H10.out.size)); clear hb
              go_wp2_with fail
              refine (lives15_any w10).mono ?_
              rintro e w11 ⟨rfl, hb⟩
              have H12 := Lib.hid (H11.out.trans (hb.mono H11.out.size)); clear hb
              go_wp2_with fail
              go_ret
              exact ⟨rfl, H12.out⟩
  · have hc : mcheck m = false := by simpa using hc
    rw [hc] at HK
    clear hrl hbl hol hc
    go_enter Tryz.func8, Tryz.ntmps8
    go_wp2_with fail
    refine HK.out.mono ?_
    rintro e w1 ⟨rfl, hb⟩
    have H1 := Lib.hid (H0.out.2.trans (hb.mono H0.out.2.size)); clear hb HK k0 k1 k2
    go_wp2_with fail
    refine (lives15_any _).mono ?_
    rintro e w2 ⟨rfl, hb⟩
    have H2 := Lib.hid (H1.out.trans (hb.mono H1.out.size)); clear hb
    go_wp2_with fail
    go_ret
    exact ⟨rfl, H2.out⟩
end Go.Proofs.YtbnjeegicbffeaaGreat
