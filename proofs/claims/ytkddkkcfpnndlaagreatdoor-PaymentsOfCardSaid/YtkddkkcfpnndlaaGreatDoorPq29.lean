/- The laws of outcomes in the words of the plain texts. Twins of lists, of a market: what a write leaves, and how they are read. Walks: how far a set may rise. Walks: halls.Few: the least set that too many want. Walks: one step of a rise. Walks: the steps of a rise, one after the other. Walks: salesroomlaw01.TwinMarket. Walks: salesroomlaw01.TwinMarket, with the marks in the room behind. -/
import Derived.Test.YtkddkkcfpnndlaaGreatDoorPq28
import Derived.Test.YtkddkkcfpnndlaaGreatDoorPq08
import Derived.Test.YtkddkkcfpnndlaaGreatDoorPq19
import Derived.Test.YtkddkkcfpnndlaaGreatDoorPq26
import Derived.Test.YtkddkkcfpnndlaaGreatDoorPq27
import Derived.Test.YtkddkkcfpnndlaaGreatDoorPq20
import Derived.Test.YtkddkkcfpnndlaaGreatDoorPq25
import Derived.RegionCalls
import Derived.Deep.RegionHeld3
namespace Go.Proofs.YtkddkkcfpnndlaaGreatDoor
open Go.RowKit Sale

theorem even_congr {g : Nat → Nat → Int} {N M : Nat} {q q' : Nat → Int} {m : Nat → Option Nat} (h : ∀ k, k < N → q k = q' k) (he : Even g N M q m) : Even g N M q' m := by
  have hs : ∀ i, i < M → sur g q m i = sur g q' m i := fun i hi => by
    cases hm : m i with
    | none => rw [sur_none hm, sur_none hm]
    | some k => rw [sur_some hm, sur_some hm, h k (he.inj.lt i hi k hm)]
  exact ⟨fun k hk => by rw [← h k hk]; exact he.nonneg k hk, he.inj, fun i hi => by rw [← hs i hi]; exact he.zero i hi, fun i hi k hk => by rw [← h k hk, ← hs i hi]; exact he.best i hi k hk, fun k hk hp => he.sold k hk (by rw [h k hk]; exact hp)⟩

/-! ### no price is lower -/
theorem EvOk.low {m : Mkt} {o : Outc} (h : EvOk m o) {k : Nat} (hk : k < m.res.length) : (leastM m).getD k 0 ≤ o.prices.getD k 0 := by
  have := h.fit.mok.least.low (qOf m o.prices) h.even.nonneg h.even.valid.cover k hk
  unfold qOf at this
  omega
theorem EvOk.most {m : Mkt} {o : Outc} (h : EvOk m o) : total (gi (gainsM m)) (slotOf o.has) (List.range m.bids.length) = opt (gi (gainsM m)) m.res.length (List.range m.bids.length) (fun _ => true) := h.even.opt
/-! ### of two the lesser and the greater ones -/
theorem EvOk.join {m : Mkt} {hs a b l : List Int} (ha : EvOk m ⟨hs, a⟩) (hb : EvOk m ⟨hs, b⟩) (hl : l.length = m.res.length) (h : ∀ k, k < m.res.length → l.getD k 0 = max (a.getD k 0) (b.getD k 0)) : EvOk m ⟨hs, l⟩ := by
  refine ⟨⟨ha.fit.mok, ha.fit.chk, ha.fit.hlen, hl, ha.fit.item⟩, fun k hk => ?_, ?_⟩
  · have h1 := ha.pr k hk
    have h2 := hb.pr k hk
    simp only at h1 h2 ⊢
    rw [h k hk]; omega
  · refine even_congr (fun k hk => ?_) (ha.even.join hb.even)
    unfold qOf
    simp only
    rw [h k hk]; omega

/-! ### another order -/
/-! ### where nobody gains -/
/-! ### without one -/
/-! ### what is paid -/
end Go.Proofs.YtkddkkcfpnndlaaGreatDoor

namespace Go.Proofs.YtkddkkcfpnndlaaGreatDoor
open Go.RowKit Sale

/-- another block is written -/
theorem TwinsOf.other {w : World} {base B : Nat} {vals : List Value} {gs : List Nat} {xss : List (List Int)} (h : TwinsOf w base B vals gs xss) {a : Addr} (ha : a.block ∉ gs) (v : Value) : TwinsOf (w.setCell a v) base B vals gs xss :=
  ⟨h.len, h.nodup, fun x hx => by simpa using h.at' x hx, fun j ys g' hj hg' => by
    obtain ⟨c, h1, h2, h3⟩ := h.row j ys g' hj hg'
    exact ⟨c, h1, h2, Tab.other h3 (fun e => ha (e ▸ List.mem_of_getElem? hg')) _⟩⟩
theorem TwinsOf.rows {w : World} {base B n c : Nat} {vals : List Value} {gs : List Nat} {xss : List (List Int)} (h : TwinsOf w base B vals gs xss) (ht : Tab w B 25 vals) (hn : xss.length = n) (hc : n ≤ c) (hbig : n ≤ 100000)
    (hbd : ∀ xs, xs ∈ xss → xs.length ≤ 100000 ∧ ∀ x, x ∈ xs → -9223372036854775808 ≤ x ∧ x ≤ 9223372036854775807) : Rows w (some ⟨B, 0, none⟩) n c xss :=
  ⟨hn, hc, by omega, fun _ => ⟨_, _, rfl⟩, fun b o e j xs hj => by
    cases e
    have hjn := (List.getElem?_eq_some_iff.1 hj).1
    obtain ⟨g, hg⟩ : ∃ g, gs[j]? = some g := ⟨_, List.getElem?_eq_getElem (by rw [h.len]; exact hjn)⟩
    obtain ⟨c', h1, h2, h3⟩ := h.row j xs g hj hg
    have hb := hbd xs (List.mem_of_getElem? hj)
    exact ⟨_, _, c', by rw [Nat.zero_add]; exact ht.cell h1, h3.ints h2 (by omega) hb.2⟩⟩

/-- a market's twin: five regions of new memory, one behind the other -/
structure TwinMkt (w : World) (base s1 s2 g1 B g3 : Nat) (vals : List Value) (gs : List Nat) (m : Mkt) : Prop where
  res : TabI w g1 m.res
  tab : Tab w B 25 vals
  vlen : vals.length = m.bids.length
  rows : TwinsOf w s1 B vals gs m.bids
  ord : TabI w g3 m.ord
  b1 : base ≤ g1
  l1 : g1 < s1
  bB : s1 ≤ B
  lB : B < s2
  lg : ∀ g, g ∈ gs → g < s2
  l3 : s2 ≤ g3

theorem TwinMkt.below {w w' : World} {base s1 s2 g1 B g3 B' : Nat} {vals : List Value} {gs : List Nat} {m : Mkt} (h : TwinMkt w base s1 s2 g1 B g3 vals gs m) (hb : Below B' w w') (hB : w.heap.size ≤ B') : TwinMkt w' base s1 s2 g1 B g3 vals gs m :=
  ⟨Tab.below h.res hb (by have := Tab.lt h.res; omega), h.tab.below hb (by have := h.tab.lt; omega), h.vlen, h.rows.below hb hB, Tab.below h.ord hb (by have := Tab.lt h.ord; omega), h.b1, h.l1, h.bB, h.lB, h.lg, h.l3⟩

/-- bounds of what a market has, as it is read -/
structure MBd (m : Mkt) : Prop where
  res : m.res.length ≤ 100000 ∧ ∀ x, x ∈ m.res → -9223372036854775808 ≤ x ∧ x ≤ 9223372036854775807
  bids : m.bids.length ≤ 100000 ∧ ∀ xs, xs ∈ m.bids → xs.length ≤ 100000 ∧ ∀ x, x ∈ xs → -9223372036854775808 ≤ x ∧ x ≤ 9223372036854775807
  ord : m.ord.length ≤ 100000 ∧ ∀ x, x ∈ m.ord → -9223372036854775808 ≤ x ∧ x ≤ 9223372036854775807
theorem TwinMkt.mkt {w : World} {base s1 s2 g1 B g3 rn c1 bn cB on c3 : Nat} {vals : List Value} {gs : List Nat} {m : Mkt} (h : TwinMkt w base s1 s2 g1 B g3 vals gs m) (hm : MBd m) (h1 : m.res.length = rn) (h2 : m.bids.length = bn) (h3 : m.ord.length = on) (hc1 : rn ≤ c1) (hcB : bn ≤ cB) (hc3 : on ≤ c3) :
    MktAt w (some ⟨g1, 0, none⟩) (some ⟨B, 0, none⟩) (some ⟨g3, 0, none⟩) rn c1 bn cB on c3 m := by
  have a1 := hm.res.1
  have a3 := hm.ord.1
  refine ⟨?_, h.rows.rows h.tab h2 hcB (by have := hm.bids.1; omega) hm.bids.2, ?_⟩
  · have := TabI.ints h.res (c := c1) (by omega) (by omega) hm.res.2
    rw [h1] at this; exact this
  · have := TabI.ints h.ord (c := c3) (by omega) (by omega) hm.ord.2
    rw [h3] at this; exact this

/-! ### where nobody gains -/
end Go.Proofs.YtkddkkcfpnndlaaGreatDoor

namespace Go.Proofs.YtkddkkcfpnndlaaGreatDoor
open Go.RowKit Go.Shelf Sale

/-- a world behind the call's beginning: the set's box and the function's box -/
structure FarAt (w : World) (B1 B2 : Nat) (la : Option Addr) (ln lc : Nat) (wr : World) : Prop where
  b1 : Boxed wr B1 25 (.slice la ln lc)
  b2 : Boxed wr B2 205 (.func (.func 218) #[] #[.pointer (some ⟨B1, 0, none⟩)])
  below : Below w.heap.size w wr
theorem FarAt.step {w : World} {B1 B2 : Nat} {la : Option Addr} {ln lc : Nat} {wr wr' : World} (h : FarAt w B1 B2 la ln lc wr) (hb : Below wr.heap.size wr wr') : FarAt w B1 B2 la ln lc wr' :=
  ⟨boxed_on h.b1 hb, boxed_on h.b2 hb, h.below.trans (hb.mono h.below.size)⟩
theorem FarAt.upTo {w : World} {B1 B2 B : Nat} {la : Option Addr} {ln lc : Nat} {wr wr' : World} (h : FarAt w B1 B2 la ln lc wr) (hb : Below B wr wr') (h1 : B1 < B) (h2 : B2 < B) (hB : w.heap.size ≤ B) : FarAt w B1 B2 la ln lc wr' :=
  ⟨by have := h.b1; unfold Boxed at *; rw [hb.block B1 h1]; exact this, by have := h.b2; unfold Boxed at *; rw [hb.block B2 h2]; exact this, h.below.trans (hb.mono hB)⟩

end Go.Proofs.YtkddkkcfpnndlaaGreatDoor

namespace Go.Proofs.YtkddkkcfpnndlaaGreatDoor
open Go.RowKit Go.Shelf

attribute [local go_sem] Oper.semAt_some

/-- what is known of what is handed in -/
structure FewIn (w : World) (ga sa : Option Addr) (gn gc sn sc : Nat) (G : List (List Nat)) (N : Nat) (sm : List Nat) : Prop where
  g : Rows w ga gn gc (G.map nats)
  s : Ints w sa sn sc (nats sm)
  chk : gcheck (G.map nats) (N : Int) = true
  ris : risesFrom (G.map nats).length (-1) (nats sm) = true
  nd : sm.Nodup
  lt : ∀ i, i ∈ sm → i < gn
  n8 : N ≤ 8
  s8 : sn ≤ 8
  b8 : ∀ w, w < gn → ∀ k, k ∈ nbOf G w → k < N
theorem FewIn.len {w : World} {ga sa : Option Addr} {gn gc sn sc : Nat} {G : List (List Nat)} {N : Nat} {sm : List Nat} (h : FewIn w ga sa gn gc sn sc G N sm) : G.length = gn := by have := h.g.len; simpa using this

end Go.Proofs.YtkddkkcfpnndlaaGreatDoor

namespace Go.Proofs.YtkddkkcfpnndlaaGreatDoor
open Go.RowKit Go.Shelf Sale

/-! ### a list of the call's own that is written -/
structure Wrt (w : World) (g n : Nat) (xs : List Int) : Prop where
  len : xs.length = n
  row : ∃ cur : Array Value, w.heap[g]? = some (.cells cur 3 (0, 0)) ∧ n ≤ cur.size ∧ cur.toList.take n = xs.map (Value.int .i64)
theorem Wrt.lt {w : World} {g n : Nat} {xs : List Int} (h : Wrt w g n xs) : g < w.heap.size := by
  obtain ⟨cur, h1, _⟩ := h.row
  exact (Array.getElem?_eq_some_iff.1 h1).1
theorem Wrt.cell {w : World} {g n : Nat} {xs : List Int} (h : Wrt w g n xs) {k : Nat} {x : Int} (hx : xs[k]? = some x) : w.cell? ⟨g, k, none⟩ = some (.int .i64 x) := by
  obtain ⟨cur, h1, h2, h3⟩ := h.row
  have hk : k < xs.length := (List.getElem?_eq_some_iff.1 hx).1
  rw [cell_of_row w g k cur _ _ h1]
  have h4 : (cur.toList.take n)[k]? = some (.int .i64 x) := by rw [h3]; simp [hx]
  rw [List.getElem?_take_of_lt (by have := h.len; omega)] at h4
  simpa using h4
theorem Wrt.frozen {w : World} {g n : Nat} {xs : List Int} (h : Wrt w g n xs) (k : Nat) : w.frozen? ⟨g, k, none⟩ = false := by
  obtain ⟨cur, h1, _⟩ := h.row
  exact frozen_of_row w g k cur _ h1
theorem Wrt.set {w : World} {g n : Nat} {xs : List Int} (h : Wrt w g n xs) (k : Nat) (x : Int) : Wrt (w.setCell ⟨g, k, none⟩ (.int .i64 x)) g n (xs.set k x) := by
  obtain ⟨cur, h1, h2, h3⟩ := h.row
  refine ⟨by rw [List.length_set]; exact h.len, _, heap_setCell_same w g k _ _ _ h1, by simpa using h2, ?_⟩
  rw [Array.toList_setIfInBounds, List.take_set, h3, List.map_set]
theorem Wrt.below {w w' : World} {g n B : Nat} {xs : List Int} (h : Wrt w g n xs) (hb : Below B w w') (hB : g < B) : Wrt w' g n xs := by
  obtain ⟨cur, h1, h2, h3⟩ := h.row
  exact ⟨h.len, cur, by rw [hb.block g hB]; exact h1, h2, h3⟩
theorem Wrt.ints {w : World} {g n : Nat} {xs : List Int} (h : Wrt w g n xs) {c : Nat} (hc : n ≤ c) (hbig : n ≤ 4611686018427387904) (hbd : ∀ x, x ∈ xs → -9223372036854775808 ≤ x ∧ x ≤ 9223372036854775807) : Ints w (some ⟨g, 0, none⟩) n c xs :=
  ⟨h.len, hc, hbig, fun _ => ⟨_, _, rfl⟩, fun b o e k x hx => by cases e; rw [Nat.zero_add]; exact h.cell hx, hbd, fun e => by cases e⟩
/-! ### what is asked of Few and of far -/
/-! ### the set rises, item by item -/
end Go.Proofs.YtkddkkcfpnndlaaGreatDoor

namespace Go.Proofs.YtkddkkcfpnndlaaGreatDoor
open Go.RowKit Go.Shelf Sale

/-! ### what is read stays where its cells stay -/
theorem Ints.on {w w' : World} {a : Option Addr} {n c : Nat} {xs : List Int} (h : Ints w a n c xs) (hc : ∀ (b o : Nat) (v : Value), w.cell? ⟨b, o, Option.none⟩ = some v → w'.cell? ⟨b, o, Option.none⟩ = some v) : Ints w' a n c xs :=
  ⟨h.len, h.cap, h.big, h.addr, fun b o e k x hx => hc _ _ _ (h.cell b o e k x hx), h.bd, h.nil⟩
theorem Rows.on {w w' : World} {a : Option Addr} {n c : Nat} {xss : List (List Int)} (h : Rows w a n c xss) (hc : ∀ (b o : Nat) (v : Value), w.cell? ⟨b, o, Option.none⟩ = some v → w'.cell? ⟨b, o, Option.none⟩ = some v) : Rows w' a n c xss :=
  ⟨h.len, h.cap, h.big, h.addr, fun b o e k xs hx => by
    obtain ⟨a', n', c', h1, h2⟩ := h.cell b o e k xs hx
    exact ⟨a', n', c', hc _ _ _ h1, h2.on hc⟩⟩
theorem MktAt.on {w w' : World} {ra ba oa : Option Addr} {rn rc bn bc on oc : Nat} {m : Mkt} (h : MktAt w ra ba oa rn rc bn bc on oc m) (hc : ∀ (b o : Nat) (v : Value), w.cell? ⟨b, o, Option.none⟩ = some v → w'.cell? ⟨b, o, Option.none⟩ = some v) : MktAt w' ra ba oa rn rc bn bc on oc m :=
  ⟨h.res.on hc, h.bids.on hc, h.ord.on hc⟩

/-- prices that are handed over -/
structure Pl where
  a : Option Addr
  n : Nat
  c : Nat
  l : List Int
end Go.Proofs.YtkddkkcfpnndlaaGreatDoor

namespace Go.Proofs.YtkddkkcfpnndlaaGreatDoor
open Go.RowKit Sale

def tm0 (w : World) (ra ba oa : Option Addr) (rn rc bn bc on oc : Nat) : World := (mw w ra ba oa rn rc bn bc on oc).alloc (.cells #[.slice none 0 0, .slice none 0 0, .slice none 0 0] 57)
theorem tm0_at (w : World) (ra ba oa : Option Addr) (rn rc bn bc on oc : Nat) : VRow (tm0 w ra ba oa rn rc bn bc on oc) w.heap.size 57 [.slice ra rn rc, .slice ba bn bc, .slice oa on oc] ∧
    VRow (tm0 w ra ba oa rn rc bn bc on oc) (w.heap.size + 1) 57 [.slice none 0 0, .slice none 0 0, .slice none 0 0] ∧ Below w.heap.size w (tm0 w ra ba oa rn rc bn bc on oc) ∧ (tm0 w ra ba oa rn rc bn bc on oc).heap.size = w.heap.size + 2 := by
  have h1 := VRow.new w 57 [.slice ra rn rc, .slice ba bn bc, .slice oa on oc]
  have h2 := VRow.new (mw w ra ba oa rn rc bn bc on oc) 57 [.slice none 0 0, .slice none 0 0, .slice none 0 0]
  rw [show (mw w ra ba oa rn rc bn bc on oc).heap.size = w.heap.size + 1 by simp [mw]] at h2
  exact ⟨h1.alloc _, h2, ((Below.refl _ _).alloc (Nat.le_refl _) _).alloc (by simp) _, by simp [tm0, mw]⟩

theorem tm_results {h : Nat} {v0 v1 v2 : Value} {tmps : Array Value} (t2 : tmps[2]?.getD undef = .pointer (some ⟨h, 0, none⟩)) (W : World) (hO : VRow W h 57 [v0, v1, v2]) :
    (results Tryz.f25 tmps).run Tryz.prog W = .ok (.agg #[v0, v1, v2]) W := by
  have c0 := hO.cell (k := 0) rfl
  have c1 := hO.cell (k := 1) rfl
  have c2 := hO.cell (k := 2) rfl
  simp [results, Tryz.results25, go_sem, t2, c0, c1, c2]

end Go.Proofs.YtkddkkcfpnndlaaGreatDoor

namespace Go.Proofs.YtkddkkcfpnndlaaGreatDoor
open Go.RowKit Sale

/-- a market's twin, its marks too -/
structure MktF (w : World) (base s1 s2 g1 c1 B cB M g3 c3 : Nat) (vals : List Value) (gs : List Nat) (m : Mkt) : Prop where
  res : RowF w base g1 c1 m.res
  rows : RowsF w s1 B cB M vals gs m.bids
  ord : RowF w s2 g3 c3 m.ord
  l1 : g1 < s1
  lB : B < s2
  lM : M < s2
  lg : ∀ g, g ∈ gs → g < s2
  b1 : base ≤ s1
  b2 : s1 ≤ s2
theorem RowsF.below {w w' : World} {base B c M B' : Nat} {vals : List Value} {gs : List Nat} {xss : List (List Int)} (h : RowsF w base B c M vals gs xss) (hb : Below B' w w') (hB : w.heap.size ≤ B') : RowsF w' base B c M vals gs xss := by
  obtain ⟨⟨r1, r2⟩, h2, h3, h4, h5⟩ := h
  refine ⟨⟨r1, ?_⟩, h2, h3.below hb hB, Tab.below h4 hb (by have := Tab.lt h4; omega), h5⟩
  rcases r2 with ⟨e, _⟩ | ⟨g, cap, cur, e, hg, hh, r⟩
  · cases e
  · exact .inr ⟨g, cap, cur, e, hg, by rw [hb.block g (by have := (Array.getElem?_eq_some_iff.1 hh).1; omega)]; exact hh, r⟩
theorem MktF.below {w w' : World} {base s1 s2 g1 c1 B cB M g3 c3 B' : Nat} {vals : List Value} {gs : List Nat} {m : Mkt} (h : MktF w base s1 s2 g1 c1 B cB M g3 c3 vals gs m) (hb : Below B' w w') (hB : w.heap.size ≤ B') : MktF w' base s1 s2 g1 c1 B cB M g3 c3 vals gs m :=
  ⟨h.res.below hb hB, h.rows.below hb hB, h.ord.below hb hB, h.l1, h.lB, h.lM, h.lg, h.b1, h.b2⟩
theorem MktF.step {w w' : World} {base s1 s2 g1 c1 B cB M g3 c3 : Nat} {vals : List Value} {gs : List Nat} {m : Mkt} (h : MktF w base s1 s2 g1 c1 B cB M g3 c3 vals gs m) (hb : Below w.heap.size w w') : MktF w' base s1 s2 g1 c1 B cB M g3 c3 vals gs m := h.below hb (Nat.le_refl _)
theorem RowsF.rows' {w : World} {base B c M n : Nat} {vals : List Value} {gs : List Nat} {xss : List (List Int)} (h : RowsF w base B c M vals gs xss) (hn : xss.length = n) (hbig : n ≤ 100000) (hbd : ∀ xs, xs ∈ xss → xs.length ≤ 100000 ∧ ∀ x, x ∈ xs → -9223372036854775808 ≤ x ∧ x ≤ 9223372036854775807) : Rows w (some ⟨B, 0, none⟩) n c xss := by
  obtain ⟨ht, _, _, hc, _⟩ := owns_tab h.own
  refine ⟨hn, by omega, by omega, fun _ => ⟨_, _, rfl⟩, fun b o e j xs hj => ?_⟩
  cases e
  have hjn := (List.getElem?_eq_some_iff.1 hj).1
  obtain ⟨g, hg⟩ : ∃ g, gs[j]? = some g := ⟨_, List.getElem?_eq_getElem (by rw [h.rows.len]; exact hjn)⟩
  obtain ⟨c', h1, h3⟩ := h.rows.row j xs g hj hg
  have hb := hbd xs (List.mem_of_getElem? hj)
  exact ⟨_, _, c', by rw [Nat.zero_add]; exact ht.head.cell h1, h3.ints (by omega) hb.2⟩
theorem MktF.mkt {w : World} {base s1 s2 g1 c1 B cB M g3 c3 rn bn on : Nat} {vals : List Value} {gs : List Nat} {m : Mkt} (h : MktF w base s1 s2 g1 c1 B cB M g3 c3 vals gs m) (hm : MBd m) (h1 : m.res.length = rn) (h2 : m.bids.length = bn) (h3 : m.ord.length = on) :
    MktAt w (some ⟨g1, 0, none⟩) (some ⟨B, 0, none⟩) (some ⟨g3, 0, none⟩) rn c1 bn cB on c3 m := by
  have a := h.res.ints (by have := hm.res.1; omega) hm.res.2
  have b := h.ord.ints (by have := hm.ord.1; omega) hm.ord.2
  rw [h1] at a
  rw [h3] at b
  exact ⟨a, h.rows.rows' h2 (by have := hm.bids.1; omega) hm.bids.2, b⟩
theorem ownsRow_far {w : World} {base : Nat} {T : TypeId} {v : Value} {n : Nat} {vals : List Value} (h : w.ownsRow base T 1 v n vals) {a : Addr} (ha : a.block < base) (u : Value) : (w.setCell a u).ownsRow base T 1 v n vals := by
  obtain ⟨r1, r2⟩ := h
  refine ⟨r1, ?_⟩
  rcases r2 with e | ⟨g, cap, cur, e, hg, hh, r⟩
  · exact .inl e
  · exact .inr ⟨g, cap, cur, e, hg, by rw [heap_setCell_other w a g u (by omega)]; exact hh, r⟩
theorem RowF.under {w : World} {base g c : Nat} {xs : List Int} (h : RowF w base g c xs) {a : Addr} (ha : a.block < base) (u : Value) : RowF (w.setCell a u) base g c xs := ownsRow_far h ha u
theorem RowsF.under {w : World} {base B c M : Nat} {vals : List Value} {gs : List Nat} {xss : List (List Int)} (h : RowsF w base B c M vals gs xss) {a : Addr} (ha : a.block < base) (u : Value) : RowsF (w.setCell a u) base B c M vals gs xss :=
  ⟨ownsRow_far h.own ha u, h.vlen, ⟨h.rows.len, h.rows.nodup, fun g hg => by simpa using h.rows.at' g hg, fun i xs g h1 h2 => by
    obtain ⟨c', e1, e2⟩ := h.rows.row i xs g h1 h2
    exact ⟨c', e1, e2.under ha u⟩⟩, Tab.other h.mark (by have := h.m.1; omega) _, h.m⟩
theorem MktF.under {w : World} {base s1 s2 g1 c1 B cB M g3 c3 : Nat} {vals : List Value} {gs : List Nat} {m : Mkt} (h : MktF w base s1 s2 g1 c1 B cB M g3 c3 vals gs m) {a : Addr} (ha : a.block < base) (u : Value) : MktF (w.setCell a u) base s1 s2 g1 c1 B cB M g3 c3 vals gs m :=
  ⟨h.res.under ha u, h.rows.under (Nat.lt_of_lt_of_le ha h.b1) u, h.ord.under (Nat.lt_of_lt_of_le ha (Nat.le_trans h.b1 h.b2)) u, h.l1, h.lB, h.lM, h.lg, h.b1, h.b2⟩
def TwinSaysF (w : World) (rn bn on : Nat) (m : Mkt) (e : Ending) (w' : World) : Prop :=
  ∃ (g1 c1 B cB M g3 c3 s1 s2 : Nat) (vals : List Value) (gs : List Nat), e = .returned (.agg #[.slice (some ⟨g1, 0, none⟩) rn c1, .slice (some ⟨B, 0, none⟩) bn cB, .slice (some ⟨g3, 0, none⟩) on c3]) ∧
    MktF w' w.heap.size s1 s2 g1 c1 B cB M g3 c3 vals gs m ∧ Below w.heap.size w w'

/-- what each operation of the literal yields -/
def TPF (H h : Nat) (ra ba oa : Option Addr) (rn rc bn bc on oc : Nat) (m : Mkt) (i : Nat) (v : Nat → Value) (w : World) : Prop := match i with
  | 0 => v 0 = .pointer (some ⟨h, 0, none⟩)
  | 1 => v 1 = .slice ra rn rc
  | 2 => ∃ g1 c1, v 2 = .slice (some ⟨g1, 0, none⟩) rn c1 ∧ RowF w H g1 c1 m.res
  | 3 => v 3 = .pointer (some ⟨h, 1, none⟩)
  | 4 => v 4 = .slice ba bn bc
  | 5 => ∃ g1 c1 B cB M s1 vals gs, (v 2 = .slice (some ⟨g1, 0, none⟩) rn c1 ∧ RowF w H g1 c1 m.res ∧ g1 < s1 ∧ H ≤ s1) ∧ v 5 = .slice (some ⟨B, 0, none⟩) bn cB ∧ RowsF w s1 B cB M vals gs m.bids
  | 6 => v 6 = .pointer (some ⟨h, 2, none⟩)
  | 7 => v 7 = .slice oa on oc
  | 8 => ∃ g1 c1 B cB M g3 c3 s1 s2 vals gs, v 2 = .slice (some ⟨g1, 0, none⟩) rn c1 ∧ v 5 = .slice (some ⟨B, 0, none⟩) bn cB ∧ v 8 = .slice (some ⟨g3, 0, none⟩) on c3 ∧ MktF w H s1 s2 g1 c1 B cB M g3 c3 vals gs m
  | 9 => ∃ g1 c1 B cB M g3 c3 s1 s2 vals gs, v 9 = .agg #[.slice (some ⟨g1, 0, none⟩) rn c1, .slice (some ⟨B, 0, none⟩) bn cB, .slice (some ⟨g3, 0, none⟩) on c3] ∧ MktF w H s1 s2 g1 c1 B cB M g3 c3 vals gs m
  | _ => True
def TPG (i : Nat) : List Nat := match i with
  | 5 => [2]
  | 8 => [2, 5]
  | _ => []
theorem TPF_congr {H h : Nat} {ra ba oa : Option Addr} {rn rc bn bc on oc : Nat} {m : Mkt} : ∀ j (v v' : Nat → Value) (w : World), v j = v' j → (∀ k, k ∈ TPG j → v k = v' k) → TPF H h ra ba oa rn rc bn bc on oc m j v w → TPF H h ra ba oa rn rc bn bc on oc m j v' w
  | 0, v, v', w, e, _, p => (e ▸ p : v' 0 = _)
  | 1, v, v', w, e, _, p => (e ▸ p : v' 1 = _)
  | 2, v, v', w, e, _, p => by obtain ⟨g1, c1, p1, p2⟩ := p; exact ⟨g1, c1, e ▸ p1, p2⟩
  | 3, v, v', w, e, _, p => (e ▸ p : v' 3 = _)
  | 4, v, v', w, e, _, p => (e ▸ p : v' 4 = _)
  | 5, v, v', w, e, d, p => by
    have d2 := d 2 (by simp [TPG])
    obtain ⟨g1, c1, B, cB, M, s1, vals, gs, ⟨p1, q⟩, p2, r⟩ := p
    exact ⟨g1, c1, B, cB, M, s1, vals, gs, ⟨d2 ▸ p1, q⟩, e ▸ p2, r⟩
  | 6, v, v', w, e, _, p => (e ▸ p : v' 6 = _)
  | 7, v, v', w, e, _, p => (e ▸ p : v' 7 = _)
  | 8, v, v', w, e, d, p => by
    have d2 := d 2 (by simp [TPG])
    have d5 := d 5 (by simp [TPG])
    obtain ⟨g1, c1, B, cB, M, g3, c3, s1, s2, vals, gs, p1, p2, p3, r⟩ := p
    exact ⟨g1, c1, B, cB, M, g3, c3, s1, s2, vals, gs, d2 ▸ p1, d5 ▸ p2, e ▸ p3, r⟩
  | 9, v, v', w, e, _, p => by
    obtain ⟨g1, c1, B, cB, M, g3, c3, s1, s2, vals, gs, p1, r⟩ := p
    exact ⟨g1, c1, B, cB, M, g3, c3, s1, s2, vals, gs, e ▸ p1, r⟩
  | (_ + 10), _, _, _, _, _, _ => trivial
theorem TPF_mono {H h : Nat} {ra ba oa : Option Addr} {rn rc bn bc on oc : Nat} {m : Mkt} : ∀ j (v : Nat → Value) (w w' : World), Below w.heap.size w w' → TPF H h ra ba oa rn rc bn bc on oc m j v w → TPF H h ra ba oa rn rc bn bc on oc m j v w'
  | 0, _, _, _, _, p => p
  | 1, _, _, _, _, p => p
  | 2, _, _, _, hb, p => by obtain ⟨g1, c1, p1, p2⟩ := p; exact ⟨g1, c1, p1, p2.below hb (Nat.le_refl _)⟩
  | 3, _, _, _, _, p => p
  | 4, _, _, _, _, p => p
  | 5, _, _, _, hb, p => by
    obtain ⟨g1, c1, B, cB, M, s1, vals, gs, ⟨p1, q1, q2⟩, p2, r1⟩ := p
    exact ⟨g1, c1, B, cB, M, s1, vals, gs, ⟨p1, q1.below hb (Nat.le_refl _), q2⟩, p2, r1.below hb (Nat.le_refl _)⟩
  | 6, _, _, _, _, p => p
  | 7, _, _, _, _, p => p
  | 8, _, _, _, hb, p => by
    obtain ⟨g1, c1, B, cB, M, g3, c3, s1, s2, vals, gs, p1, p2, p3, r4⟩ := p
    exact ⟨g1, c1, B, cB, M, g3, c3, s1, s2, vals, gs, p1, p2, p3, r4.below hb (Nat.le_refl _)⟩
  | 9, _, _, _, hb, p => by
    obtain ⟨g1, c1, B, cB, M, g3, c3, s1, s2, vals, gs, p1, r4⟩ := p
    exact ⟨g1, c1, B, cB, M, g3, c3, s1, s2, vals, gs, p1, r4.below hb (Nat.le_refl _)⟩
  | (_ + 10), _, _, _, _, _ => trivial

set_option maxRecDepth 100000 in
set_option maxHeartbeats 4000000 in
theorem twinMarketF_any (ra ba oa : Option Addr) (rn rc bn bc on oc : Nat) (m : Mkt) (w : World) (hm : MktAt w ra ba oa rn rc bn bc on oc m) (h1 : rn ≤ 100000) (h2 : bn ≤ 100000) (h3 : on ≤ 100000) (hx : ∀ xs, xs ∈ m.bids → xs.length ≤ 100000) :
    Calls Tryz.prog 25 #[.agg #[.slice ra rn rc, .slice ba bn bc, .slice oa on oc]] w (TwinSaysF w rn bn on m) := by
  obtain ⟨hv1, hv2, hb0, hz0⟩ := tm0_at w ra ba oa rn rc bn bc on oc
  obtain ⟨W0, hW0⟩ : ∃ W0, W0 = tm0 w ra ba oa rn rc bn bc on oc := ⟨_, rfl⟩
  rw [← hW0] at hv1 hv2 hb0 hz0
  have k0 := hv1.cell (k := 0) rfl
  have k1 := hv1.cell (k := 1) rfl
  have k2 := hv1.cell (k := 2) rfl
  have HM := Lib.hid (hm.below hb0 (Nat.le_refl _))
  have HX := Lib.hid hx
  have HL := Lib.hid (And.intro hm.res.len (And.intro hm.bids.len hm.ord.len))
  have HV := Lib.hid (And.intro hv2 (And.intro hb0 hz0))
  clear hv1 hv2 hb0 hm hx hz0
  go_enter Tryz.func25, Tryz.ntmps25
  go_upto_region 1 with fail
  rw [show (w.alloc (.cells #[.slice ra rn rc, .slice ba bn bc, .slice oa on oc] 57)).alloc (.cells #[.slice none 0 0, .slice none 0 0, .slice none 0 0] 57) = W0 from hW0.symm]
  clear hW0
  go_cut [12] (fun s12 wx => ∃ g1 c1 B cB M g3 c3 s1 s2 vals gs, VRow wx (w.heap.size + 1) 57 [.slice (some ⟨g1, 0, none⟩) rn c1, .slice (some ⟨B, 0, none⟩) bn cB, .slice (some ⟨g3, 0, none⟩) on c3] ∧ MktF wx W0.heap.size s1 s2 g1 c1 B cB M g3 c3 vals gs m ∧ Below w.heap.size w wx)
  case first =>
    refine wp_region_dep' (by kernel_rfl) [3, 4, 5, 6, 7, 8, 9, 10, 11, 12] TPG (TPF W0.heap.size w.heap.size ra ba oa rn rc bn bc on oc m) (fun w' => Below W0.heap.size W0 w') (by simp) (by kernel_rfl) (by simp) (by decide) (by simp [fold]) (by kernel_rfl) TPF_congr TPF_mono (Below.refl _ _).drew ?hstep ?hlast
    case hlast =>
      intro o v wx K ho hB hd hK
      simp only [List.length_cons, List.length_nil, Nat.reduceAdd, Nat.reduceSub, List.getElem?_cons_zero, List.getElem?_cons_succ, Option.some.injEq] at ho
      subst ho
      simp only [fold, Nat.zero_add, Nat.reduceAdd, List.setIfInBounds_toArray, List.set_cons_zero, List.set_cons_succ]
      obtain ⟨g1, c1, B, cB, M, g3, c3, s1, s2, vals, gs, d9, r4⟩ : TPF W0.heap.size w.heap.size ra ba oa rn rc bn bc on oc m 9 v wx := hd 9 (by simp)
      rw [d9]
      have hv := HV.out.1.below hB HV.out.1.lt
      have c0 := hv.cell (k := 0) rfl
      have c1' := hv.cell (k := 1) rfl
      have c2 := hv.cell (k := 2) rfl
      have f0 := hv.frozen 0
      have f1 := hv.frozen 1
      have f2 := hv.frozen 2
      have HVV := Lib.hid hv; clear hv
      have HR4 := Lib.hid r4; clear r4
      have HBB := Lib.hid hB; clear hB
      clear hd
      go_wp2_with fail
      go_meet
      have hz := HV.out.2.2
      have hp1 := HR4.out.res.parts.2.1
      have hp3 := HR4.out.ord.parts.2.1
      have hb1 := HR4.out.b1
      have hb2 := HR4.out.b2
      have hpB := (owns_tab HR4.out.rows.own).2.1
      have hpM := HR4.out.rows.m.1
      have far : ∀ (W : World) (k : Nat) (u : Value), MktF W W0.heap.size s1 s2 g1 c1 B cB M g3 c3 vals gs m → MktF (W.setCell ⟨w.heap.size + 1, k, none⟩ u) W0.heap.size s1 s2 g1 c1 B cB M g3 c3 vals gs m := fun W k u h =>
        h.under (by simp; omega) u
      refine ⟨g1, c1, B, cB, M, g3, c3, s1, s2, vals, gs, ((HVV.out.set 0 _).set 1 _).set 2 _, far _ _ _ (far _ _ _ (far _ _ _ HR4.out)), ?_⟩
      exact (((HV.out.2.1.trans (HBB.out.mono HV.out.2.1.size)).setCell (by simp) _).setCell (by simp) _).setCell (by simp) _
    case hstep =>
      intro i o v wx K hi ho hB hd hK
      simp only [List.length_cons, List.length_nil] at hi
      simp only [fold, Nat.zero_add, Nat.reduceAdd, List.setIfInBounds_toArray, List.set_cons_zero, List.set_cons_succ]
      rcases (by omega : i = 0 ∨ i = 1 ∨ i = 2 ∨ i = 3 ∨ i = 4 ∨ i = 5 ∨ i = 6 ∨ i = 7 ∨ i = 8 ∨ i = 9) with rfl | rfl | rfl | rfl | rfl | rfl | rfl | rfl | rfl | rfl
      all_goals
        simp only [List.getElem?_cons_zero, List.getElem?_cons_succ, Option.some.injEq] at ho
        subst ho
        simp only [fold, Nat.zero_add, Nat.reduceAdd, Act.put, List.setIfInBounds_toArray, List.set_cons_zero, List.set_cons_succ] at hK
      · clear hd
        go_wp2_with fail
        exact hK _ _ hB (Below.refl _ _) rfl
      · have d0 : v 0 = .pointer (some ⟨w.heap.size, 0, none⟩) := hd ⟨0, .data⟩ (by simp) rfl
        have hcc := cell_up hB k0
        rw [d0] at hK ⊢
        clear hd
        go_wp2_with fail
        exact hK _ _ hB (Below.refl _ _) rfl
      · have d1 : v 1 = .slice ra rn rc := hd ⟨1, .data⟩ (by simp) rfl
        rw [d1] at hK ⊢
        clear hd
        go_wp2_with fail
        refine (twinIntsF_any ra rn rc m.res _ (HM.out.res.below hB (Nat.le_refl _)) h1).mono ?_
        rintro e w' ⟨g1, c1, rfl, ht1, hb1⟩
        go_wp2_with fail
        exact hK _ _ (below_on hb1 hB) hb1 ⟨g1, c1, rfl, ht1.widen hB.size⟩
      · clear hd
        go_wp2_with fail
        exact hK _ _ hB (Below.refl _ _) rfl
      · have d3 : v 3 = .pointer (some ⟨w.heap.size, 1, none⟩) := hd ⟨3, .data⟩ (by simp) rfl
        have hcc := cell_up hB k1
        rw [d3] at hK ⊢
        clear hd
        go_wp2_with fail
        exact hK _ _ hB (Below.refl _ _) rfl
      · have d4 : v 4 = .slice ba bn bc := hd ⟨4, .data⟩ (by simp) rfl
        obtain ⟨g1, c1, d2, ht1⟩ : TPF W0.heap.size w.heap.size ra ba oa rn rc bn bc on oc m 2 v wx := hd ⟨2, .chain⟩ (by simp) rfl
        have D2 := Lib.hid d2; clear d2
        rw [d4] at hK ⊢
        clear hd
        go_wp2_with fail
        refine (twinListsF_any ba bn bc m.bids _ (HM.out.bids.below hB (Nat.le_refl _)) h2 HX.out).mono ?_
        rintro e w' ⟨B, cB, M, vals, gs, rfl, hR, hb2⟩
        go_wp2_with fail
        exact hK _ _ (below_on hb2 hB) hb2 ⟨g1, c1, B, cB, M, wx.heap.size, vals, gs, ⟨D2.out, ht1.below hb2 (Nat.le_refl _), ht1.parts.2.2.2, hB.size⟩, rfl, hR⟩
      · clear hd
        go_wp2_with fail
        exact hK _ _ hB (Below.refl _ _) rfl
      · have d6 : v 6 = .pointer (some ⟨w.heap.size, 2, none⟩) := hd ⟨6, .data⟩ (by simp) rfl
        have hcc := cell_up hB k2
        rw [d6] at hK ⊢
        clear hd
        go_wp2_with fail
        exact hK _ _ hB (Below.refl _ _) rfl
      · have d7 : v 7 = .slice oa on oc := hd ⟨7, .data⟩ (by simp) rfl
        obtain ⟨g1, c1, B, cB, M, s1, vals, gs, ⟨d2, ht1, hl1, hs1⟩, d5, hR⟩ : TPF W0.heap.size w.heap.size ra ba oa rn rc bn bc on oc m 5 v wx := hd ⟨5, .chain⟩ (by simp) rfl
        have D2 := Lib.hid d2; clear d2
        have D5 := Lib.hid d5; clear d5
        rw [d7] at hK ⊢
        clear hd
        go_wp2_with fail
        refine (twinIntsF_any oa on oc m.ord _ (HM.out.ord.below hB (Nat.le_refl _)) h3).mono ?_
        rintro e w' ⟨g3, c3, rfl, ht3, hb3⟩
        go_wp2_with fail
        have hBl := (owns_tab hR.own).1.lt
        have hBb := (owns_tab hR.own).2.1
        exact hK _ _ (below_on hb3 hB) hb3 ⟨g1, c1, B, cB, M, g3, c3, s1, wx.heap.size, vals, gs, D2.out, D5.out, rfl, ⟨ht1.below hb3 (Nat.le_refl _), hR.below hb3 (Nat.le_refl _), ht3, hl1, hBl, Tab.lt hR.mark, fun g hg => (hR.rows.at' g hg).2.2, hs1, by omega⟩⟩
      · obtain ⟨g1, c1, B, cB, M, g3, c3, s1, s2, vals, gs, d2, d5, d8, r⟩ : TPF W0.heap.size w.heap.size ra ba oa rn rc bn bc on oc m 8 v wx := hd ⟨8, .data⟩ (by simp) rfl
        rw [d2, d5, d8] at hK ⊢
        clear hd
        go_wp2_with fail
        exact hK _ _ hB (Below.refl _ _) ⟨g1, c1, B, cB, M, g3, c3, s1, s2, vals, gs, rfl, r⟩
  case rest =>
    obtain ⟨g1, c1, B, cB, M, g3, c3, s1, s2, vals, gs, hv, r4, hb⟩ := hcut
    have HR := Lib.hid (And.intro hv (And.intro r4 hb)); clear hv r4 hb k0 k1 k2
    go_wp2_with fail
    exact bodyPost_ret (tm_results rfl _ HR.out.1) rfl ⟨g1, c1, B, cB, M, g3, c3, s1, s2, vals, gs, rfl, { HR.out.2.1 with res := HR.out.2.1.res.widen (by have := HV.out.2.2; omega), b1 := by have := HR.out.2.1.b1; have := HV.out.2.2; omega }, HR.out.2.2⟩
end Go.Proofs.YtkddkkcfpnndlaaGreatDoor
