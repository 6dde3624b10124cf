/- Walks: demands: may prices be; what one gains by each item at prices. Walks: paths.More. Walks: matchings.Most. Walks: graphs.edges: each bidder with each item that it may have. Walks: halls.Few: of some, how many want nothing but what is in a list. Walks: halls.Few. Walks: demands.Of. Walks: demands.All. -/
import Derived.Test.YtkddkkcfpnndlaaGreatDoorPq11
import Derived.Test.YtkddkkcfpnndlaaGreatDoorPq23
import Derived.Test.YtkddkkcfpnndlaaGreatDoorPq21
import Derived.Test.YtkddkkcfpnndlaaGreatDoorPq05
import Derived.Test.YtkddkkcfpnndlaaGreatDoorPq20
import Derived.Test.YtkddkkcfpnndlaaGreatDoorPq08
import Derived.Test.YtkddkkcfpnndlaaGreatDoorPq19
import Derived.Laws.CopyOwn
import Derived.Deep.MidRow
import Derived.Laws.EntriesVeiled
import Derived.RegionCalls
import Derived.Maps.AppendAt
namespace Go.Proofs.YtkddkkcfpnndlaaGreatDoor
open Go.RowKit Go.Shelf

attribute [local go_sem] Oper.semAt_some

/-- an item, and what is gained by it -/
structure Gn where
  k : Nat
  d : Int
def gainsTo (bid prices : List Int) (n : Nat) : List Gn := (List.range n).map fun k => ⟨k, bid.getD k 0 - prices.getD k 0⟩
end Go.Proofs.YtkddkkcfpnndlaaGreatDoor

namespace Go.Proofs.YtkddkkcfpnndlaaGreatDoor
open Go.RowKit

theorem mem_nats {L : List Nat} {k : Nat} : (k : Int) ∈ nats L ↔ k ∈ L := by
  unfold nats
  rw [List.mem_map]
  constructor
  · rintro ⟨a, ha, e⟩
    obtain rfl : a = k := by omega
    exact ha
  · exact fun h => ⟨k, h, rfl⟩

theorem nbOf_map {G : List (List Nat)} {i : Nat} : (G.map nats)[i]?.getD [] = nats (nbOf G i) := by
  unfold nbOf
  rw [List.getElem?_map]
  cases G[i]? <;> rfl

theorem hasAt_some {has : List Int} {i k : Nat} (h : hasAt has i = some k) : ∃ x, has[i]? = some x ∧ x ≠ -1 ∧ x.toNat = k := by
  unfold hasAt at h
  cases hx : has[i]? with
  | none => rw [hx] at h; cases h
  | some x =>
    rw [hx] at h
    simp only at h
    split at h
    · cases h
    · rename_i hne; exact ⟨x, rfl, hne, by simpa using h⟩

/-- what fits is a matching -/
theorem fits_mat {G : List (List Nat)} {items : Int} {has : List Int} (h : fitsB (G.map nats) items has = true) : Way.Mat (nbOf G) has.length (hasAt has) := by
  refine ⟨fun w k e => ?_, fun w w' k e e' => ?_, fun w k e => ?_⟩
  · obtain ⟨x, hx, _⟩ := hasAt_some e
    exact (List.getElem?_eq_some_iff.1 hx).1
  · obtain ⟨x, hx, hne, ex⟩ := hasAt_some e
    obtain ⟨x', hx', hne', ex'⟩ := hasAt_some e'
    have b1 := fits_item h hx hne
    have b2 := fits_item h hx' hne'
    obtain rfl : x = x' := by omega
    have h3 := (fitsB_parts h).2.2
    rcases Nat.lt_trichotomy w w' with hlt | rfl | hlt
    · have := (okFit_at h3 (List.getElem?_eq_some_iff.1 hx').1 hx' hne).2
      exact absurd (List.mem_iff_getElem?.2 ⟨w, by rw [List.getElem?_take_of_lt hlt, hx]⟩) this
    · rfl
    · have := (okFit_at h3 (List.getElem?_eq_some_iff.1 hx).1 hx hne).2
      exact absurd (List.mem_iff_getElem?.2 ⟨w', by rw [List.getElem?_take_of_lt hlt, hx']⟩) this
  · obtain ⟨x, hx, hne, ex⟩ := hasAt_some e
    have b1 := fits_item h hx hne
    have hm := b1.2.2.2
    rw [nbOf_map] at hm
    obtain ⟨y, rfl⟩ := Int.eq_ofNat_of_zero_le b1.1
    rw [mem_nats] at hm
    simpa [← ex] using hm

theorem MyRow.drew {w : World} {base : Nat} {a : Option Addr} {n c : Nat} {xs : List Int} (h : MyRow w base a n c xs) : MyRow w.drew base a n c xs := ⟨h.len, h.cap, h.nil, h.own⟩
theorem VRow.other {w : World} {B : Nat} {T : TypeId} {vals : List Value} (h : VRow w B T vals) {a : Addr} (ha : B ≠ a.block) (v : Value) : VRow (w.setCell a v) B T vals := by
  unfold VRow; rw [heap_setCell_other w a B v ha]; exact h

theorem MyRow.keep {w w' : World} {base B : Nat} {a : Option Addr} {n c : Nat} {xs : List Int} (h : MyRow w base a n c xs) (hb : Below B w w') (hlt : 0 < n → ∀ b o, a = some ⟨b, o, none⟩ → b < B) : MyRow w' base a n c xs :=
  ⟨h.len, h.cap, h.nil, fun hn => by
    obtain ⟨g, cur, e, hg, hh, r⟩ := h.own hn
    exact ⟨g, cur, e, hg, by rw [hb.block g (hlt hn g 0 e)]; exact hh, r⟩⟩

end Go.Proofs.YtkddkkcfpnndlaaGreatDoor

namespace Go.Proofs.YtkddkkcfpnndlaaGreatDoor
open Go.RowKit

theorem boxed_on {W W' : World} {b : Nat} {t : TypeId} {v : Value} (h : Boxed W b t v) (hb : Below W.heap.size W W') : Boxed W' b t v := by unfold Boxed; rw [hb.block _ h.lt]; exact h
/-- what the goer's boxes hold -/
structure GoAt (W : World) (B2 B3 B6 : Nat) (ga : Option Addr) (gn gc : Nat) (items : Int) (ha : Option Addr) (hn hc : Nat) : Prop where
  b2 : Boxed W B2 22 (.slice ga gn gc)
  b3 : Boxed W B3 3 (.int .i64 items)
  b6 : Boxed W B6 25 (.slice ha hn hc)
theorem GoAt.step {W W' : World} {B2 B3 B6 : Nat} {ga : Option Addr} {gn gc : Nat} {items : Int} {ha : Option Addr} {hn hc : Nat} (h : GoAt W B2 B3 B6 ga gn gc items ha hn hc) (hb : Below W.heap.size W W') : GoAt W' B2 B3 B6 ga gn gc items ha hn hc :=
  ⟨by unfold Boxed; rw [hb.block _ h.b2.lt]; exact h.b2, by unfold Boxed; rw [hb.block _ h.b3.lt]; exact h.b3, by unfold Boxed; rw [hb.block _ h.b6.lt]; exact h.b6⟩

end Go.Proofs.YtkddkkcfpnndlaaGreatDoor

namespace Go.Proofs.YtkddkkcfpnndlaaGreatDoor
open Go.RowKit Go.Shelf

attribute [local go_sem] Oper.semAt_some

def rowEdges (i : Nat) (L : List Nat) : List (Nat × Nat) := L.map fun k => (i, k)
def edgesTo (G : List (List Nat)) (n : Nat) : List (Nat × Nat) := (List.range n).flatMap fun i => rowEdges i (nbOf G i)
def edgesOf (G : List (List Nat)) : List (Nat × Nat) := edgesTo G G.length
/-- an edge -/
abbrev Edge (G : List (List Nat)) := { x : Nat × Nat // x ∈ edgesOf G }
end Go.Proofs.YtkddkkcfpnndlaaGreatDoor

namespace Go.Proofs.YtkddkkcfpnndlaaGreatDoor
open Go.RowKit

/-- what the function value has taken in -/
structure InAt (W : World) (B5 B3 B4 : Nat) (sa : Option Addr) (sn sc : Nat) (ga : Option Addr) (gn gc : Nat) (items : Int) : Prop where
  b5 : Boxed W B5 25 (.slice sa sn sc)
  b3 : Boxed W B3 22 (.slice ga gn gc)
  b4 : Boxed W B4 3 (.int .i64 items)
theorem InAt.step {W W' : World} {B5 B3 B4 : Nat} {sa : Option Addr} {sn sc : Nat} {ga : Option Addr} {gn gc : Nat} {items : Int} (h : InAt W B5 B3 B4 sa sn sc ga gn gc items) (hb : Below W.heap.size W W') : InAt W' B5 B3 B4 sa sn sc ga gn gc items :=
  ⟨boxed_on h.b5 hb, boxed_on h.b3 hb, boxed_on h.b4 hb⟩

end Go.Proofs.YtkddkkcfpnndlaaGreatDoor

namespace Go.Proofs.YtkddkkcfpnndlaaGreatDoor
open Go.RowKit Go.Shelf

attribute [local go_sem] Oper.semAt_some

/-- all boxes of the call -/
structure FewAt (w : World) (h : Nat) (ga sa : Option Addr) (gn gc sn sc : Nat) (N : Nat) (W : World) : Prop where
  inn : InAt W (h + 1 + 1) h (h + 1) sa sn sc ga gn gc (N : Int)
  below : Below w.heap.size w W
structure OutAt3 (W : World) (h : Nat) (v : Value) (b : Bool) (e : Int) : Prop where
  b6 : Boxed W (h + 1 + 1 + 1) 25 v
  b7 : Boxed W (h + 1 + 1 + 1 + 1) 4 (.bool b)
  b8 : Boxed W (h + 1 + 1 + 1 + 1 + 1) 29 (.int .i64 e)
theorem FewAt.step {w : World} {h : Nat} {ga sa : Option Addr} {gn gc sn sc N : Nat} {W W' : World} (hA : FewAt w h ga sa gn gc sn sc N W) (hb : Below W.heap.size W W') : FewAt w h ga sa gn gc sn sc N W' := ⟨hA.inn.step hb, hA.below.trans (hb.mono hA.below.size)⟩
theorem OutAt3.step {W W' : World} {h : Nat} {v : Value} {b : Bool} {e : Int} (hA : OutAt3 W h v b e) (hb : Below W.heap.size W W') : OutAt3 W' h v b e := ⟨boxed_on hA.b6 hb, boxed_on hA.b7 hb, boxed_on hA.b8 hb⟩
/-- the three results, all set -/
theorem OutAt3.set {W : World} {h : Nat} {v : Value} {b : Bool} {e : Int} (hA : OutAt3 W h v b e) (v' : Value) (b' : Bool) (e' : Int) :
    OutAt3 (((W.setCell ⟨h + 1 + 1 + 1, 0, none⟩ v').setCell ⟨h + 1 + 1 + 1 + 1, 0, none⟩ (.bool b')).setCell ⟨h + 1 + 1 + 1 + 1 + 1, 0, none⟩ (.int .i64 e')) h v' b' e' :=
  ⟨((hA.b6.set v').other (by omega) _).other (by omega) _, ((hA.b7.other (by omega) _).set _).other (by omega) _, ((hA.b8.other (by omega) _).other (by omega) _).set _⟩
end Go.Proofs.YtkddkkcfpnndlaaGreatDoor

namespace Go.Proofs.YtkddkkcfpnndlaaGreatDoor
open Go.RowKit Go.Shelf

attribute [local go_sem] Oper.semAt_some

/-- what one would have, item by item -/
def dStep (s : List Nat × Int) (x : Gn) : List Nat × Int := if s.2 < x.d then ([x.k], x.d) else if x.d = s.2 then (s.1 ++ [x.k], s.2) else s
def dState (pre : List Gn) : List Nat × Int := pre.foldl dStep ([], 0)
def demOf (bid prices : List Int) : List Nat × Int := dState (gainsTo bid prices bid.length)

/-- the three results that lie in boxes -/
structure Of3 (W : World) (h : Nat) (v : Value) (b : Bool) (g : Int) : Prop where
  b4 : Boxed W h 25 v
  b5 : Boxed W (h + 1) 4 (.bool b)
  b6 : Boxed W (h + 1 + 1) 3 (.int .i64 g)
theorem Of3.step {W W' : World} {h : Nat} {v : Value} {b : Bool} {g : Int} (hA : Of3 W h v b g) (hb : Below W.heap.size W W') : Of3 W' h v b g := ⟨boxed_on hA.b4 hb, boxed_on hA.b5 hb, boxed_on hA.b6 hb⟩
/-- what grows in a block of the body's own -/
theorem Kx.grown {X : Nat → Prop} {W W' : World} {row : Option Nat} (h : W.grownBy W' row) (hr : ∀ k, row = some k → X k) : Kx X W W' :=
  ⟨h.size, fun b _o hb hx => (h.block b (Array.getElem?_eq_some_iff.1 hb).1 (fun e => hx (hr b e.symm))).trans hb⟩
theorem own_lit {W : World} {base : Nat} {v : Value} {xs : List Int} (h : Own W base v xs) : ∃ a c, v = .slice a xs.length c := by
  obtain ⟨h1, h2⟩ := h
  rcases h2 with ⟨hv, hn⟩ | ⟨g, cap, cur, hv, _⟩
  · exact ⟨none, 0, by rw [hv, hn]⟩
  · exact ⟨_, cap, hv⟩
end Go.Proofs.YtkddkkcfpnndlaaGreatDoor

namespace Go.Proofs.YtkddkkcfpnndlaaGreatDoor
open Go.RowKit Go.Shelf

attribute [local go_sem] Oper.semAt_some
/-- a table of lists that is filled, list by list; the lists lie from lo on, the table below -/
structure Filled (w : World) (B lo n : Nat) (xss : List (List Int)) (vals : List Value) : Prop where
  row : VRow w B 25 vals
  len : vals.length = n
  blt : B < lo
  done : ∀ (j : Nat) (xs : List Int), xss[j]? = some xs → ∃ (a : Option Addr) (c : Nat), vals[j]? = some (Value.slice a xs.length c) ∧ Ints w a xs.length c xs ∧ (0 < xs.length → ∀ b o : Nat, a = some ⟨b, o, none⟩ → lo ≤ b)
theorem Filled.under {w : World} {B lo n : Nat} {xss : List (List Int)} {vals : List Value} (h : Filled w B lo n xss vals) {p : Addr} (hp : p.block < lo) (hB : p.block ≠ B) (u : Value) : Filled (w.setCell p u) B lo n xss vals := by
  refine ⟨?_, h.len, h.blt, fun j xs hj => ?_⟩
  · unfold VRow; rw [heap_setCell_other w p B u (fun e => hB e.symm)]; exact h.row
  · obtain ⟨a, c, h1, h2, h3⟩ := h.done j xs hj
    exact ⟨a, c, h1, h2.far (fun hn b o e => by have := h3 hn b o e; omega) u, h3⟩
theorem Filled.below {w w' : World} {B lo n B' : Nat} {xss : List (List Int)} {vals : List Value} (h : Filled w B lo n xss vals) (hb : Below B' w w') (ht : w.heap.size ≤ B') : Filled w' B lo n xss vals := by
  refine ⟨h.row.below hb (Nat.lt_of_lt_of_le h.row.lt ht), h.len, h.blt, fun j xs hj => ?_⟩
  obtain ⟨a, c, h1, h2, h3⟩ := h.done j xs hj
  exact ⟨a, c, h1, h2.below hb ht, h3⟩
theorem Filled.grown {w w' : World} {B lo n top : Nat} {xss : List (List Int)} {vals : List Value} (h : Filled w B lo n xss vals) (hb : Below top w w') (hB : B < top) (ht : ∀ (j : Nat) (xs : List Int), xss[j]? = some xs → ∀ a c, vals[j]? = some (Value.slice a xs.length c) → 0 < xs.length → ∀ b o : Nat, a = some ⟨b, o, none⟩ → b < top) : Filled w' B lo n xss vals := by
  refine ⟨h.row.below hb hB, h.len, h.blt, fun j xs hj => ?_⟩
  obtain ⟨a, c, h1, h2, h3⟩ := h.done j xs hj
  exact ⟨a, c, h1, h2.upTo hb (fun hn b o e => ht j xs hj a c h1 hn b o e), h3⟩
/-- one more -/
theorem Filled.put {w : World} {B lo n : Nat} {xss : List (List Int)} {vals : List Value} (h : Filled w B lo n xss vals) {i : Nat} (hi : i = xss.length) (hn : i < n) {a : Option Addr} {c : Nat} {xs : List Int} (hI : Ints w a xs.length c xs) (hlo : 0 < xs.length → ∀ b o : Nat, a = some ⟨b, o, none⟩ → lo ≤ b) :
    Filled (w.setCell ⟨B, i, none⟩ (.slice a xs.length c)) B lo n (xss ++ [xs]) (vals.set i (.slice a xs.length c)) := by
  refine ⟨h.row.set i _, by rw [List.length_set]; exact h.len, h.blt, fun j ys hj => ?_⟩
  have hblt := h.blt
  have hl := h.len
  by_cases e : j < xss.length
  · rw [List.getElem?_append_left e] at hj
    obtain ⟨a', c', h1, h2, h3⟩ := h.done j ys hj
    exact ⟨a', c', by rw [List.getElem?_set_ne (by omega)]; exact h1, h2.far (fun hn b o e => by have := h3 hn b o e; show b ≠ B; omega) _, h3⟩
  · have : j = xss.length := by have := (List.getElem?_eq_some_iff.1 hj).1; simp at this; omega
    subst this
    rw [List.getElem?_append_right (Nat.le_refl _), Nat.sub_self] at hj
    cases hj
    exact ⟨a, c, by rw [hi, List.getElem?_set_self (by omega)], hI.far (fun hn b o e => by have := hlo hn b o e; show b ≠ B; omega) _, hlo⟩
/-- one is none -/
theorem Filled.clear {w : World} {B lo n : Nat} {xss : List (List Int)} {vals : List Value} (h : Filled w B lo n xss vals) {i : Nat} (hn : i < n) : Filled (w.setCell ⟨B, i, none⟩ (.slice none 0 0)) B lo n (xss.set i []) (vals.set i (.slice none 0 0)) := by
  refine ⟨h.row.set i _, by rw [List.length_set]; exact h.len, h.blt, fun j ys hj => ?_⟩
  have hblt := h.blt
  have hl := h.len
  by_cases e : i = j
  · subst e
    have hlt : i < xss.length := by have := (List.getElem?_eq_some_iff.1 hj).1; simpa using this
    rw [List.getElem?_set_self hlt] at hj
    cases hj
    exact ⟨none, 0, by rw [List.getElem?_set_self (by omega)]; rfl, Ints.empty _ _ _, fun h => by simp at h⟩
  · rw [List.getElem?_set_ne e] at hj
    obtain ⟨a', c', h1, h2, h3⟩ := h.done j ys hj
    exact ⟨a', c', by rw [List.getElem?_set_ne e]; exact h1, h2.far (fun hn b o e => by have := h3 hn b o e; show b ≠ B; omega) _, h3⟩
theorem Filled.rows {w : World} {B lo n : Nat} {xss : List (List Int)} {vals : List Value} (h : Filled w B lo n xss vals) (hn : xss.length = n) (hbig : n ≤ 4611686018427387904) : Rows w (some ⟨B, 0, none⟩) n n xss := by
  have := h.row.rows (xss := xss) (by omega) fun j xs hj => by
    obtain ⟨a, c, h1, h2, _⟩ := h.done j xs hj
    exact ⟨a, xs.length, c, h1, h2⟩
  rwa [hn] at this

def demItems (m : Mkt) (prices : List Int) : List (List Int) := m.bids.map fun b => nats (demOf b prices).1
def demNone (m : Mkt) (prices : List Int) : List Value := m.bids.map fun b => .bool ((demOf b prices).2 == 0)

/-- what the loop holds -/
structure AllAt (w : World) (ra ba oa : Option Addr) (rn rc bn bc on oc : Nat) (m : Mkt) (prices : List Int) (B1 B2 lo i : Nat) (vals : List Value) (wr : World) : Prop where
  fill : Filled wr B1 lo bn ((demItems m prices).take i) vals
  none' : VRow wr B2 4 ((demNone m prices).take i ++ List.replicate (bn - i) (.bool false))
  b2 : B2 < lo
  ne : B1 ≠ B2
  b1l : w.heap.size + 1 ≤ B1
  b2l : w.heap.size + 1 ≤ B2
  lo' : lo ≤ wr.heap.size
  mw' : Below (w.heap.size + 1) (mw w ra ba oa rn rc bn bc on oc) wr

theorem set_none {α : Type} (l : List α) (z x : α) {i n : Nat} (hi : i < n) (hl : l.length = n) (hx : l[i]? = some x) : (l.take i ++ List.replicate (n - i) z).set i x = l.take (i + 1) ++ List.replicate (n - (i + 1)) z := by
  have h1 : (l.take i).length = i := by rw [List.length_take]; omega
  rw [List.set_append_right _ _ (by omega), h1, Nat.sub_self, List.take_add_one, hx, List.append_assoc]
  congr 1
  obtain ⟨d, hd⟩ : ∃ d, n - i = d + 1 := ⟨n - i - 1, by omega⟩
  rw [hd, show n - (i + 1) = d from by omega]
  rfl
theorem AllAt.next {w : World} {ra ba oa : Option Addr} {rn rc bn bc on oc : Nat} {m : Mkt} {prices : List Int} {B1 B2 lo i : Nat} {vals : List Value} {wr w3 : World} (h : AllAt w ra ba oa rn rc bn bc on oc m prices B1 B2 lo i vals wr) (hi : i < bn) (hl : m.bids.length = bn) {bid : List Int} (hb : m.bids[i]? = some bid)
    (h3 : Below wr.heap.size wr w3) {a : Option Addr} {n : Nat} (hI : Ints w3 a n n (nats (demOf bid prices).1)) (hlo : ∀ b o, a = some ⟨b, o, none⟩ → wr.heap.size ≤ b) :
    AllAt w ra ba oa rn rc bn bc on oc m prices B1 B2 lo (i + 1) (vals.set i (.slice a n n)) ((w3.setCell ⟨B1, i, none⟩ (.slice a n n)).setCell ⟨B2, i, none⟩ (.bool ((demOf bid prices).2 == 0))) := by
  have hn := hI.len
  subst hn
  have hdl : (demItems m prices).length = bn := by unfold demItems; rw [List.length_map, hl]
  have hnl : (demNone m prices).length = bn := by unfold demNone; rw [List.length_map, hl]
  have hdi : (demItems m prices)[i]? = some (nats (demOf bid prices).1) := by unfold demItems; rw [List.getElem?_map, hb]; rfl
  have hni : (demNone m prices)[i]? = some (.bool ((demOf bid prices).2 == 0)) := by unfold demNone; rw [List.getElem?_map, hb]; rfl
  have hB1 := h.fill.row.lt
  have hB2 := h.none'.lt
  have hs := h3.size
  have hlo' := h.lo'
  have hb2 := h.b2
  have hb1l := h.b1l
  have hb2l := h.b2l
  have hfp := (h.fill.below h3 (Nat.le_refl _)).put (i := i) (by rw [List.length_take, hdl]; omega) hi hI (fun _ b o e => by have := hlo b o e; omega)
  refine ⟨?_, ?_, h.b2, h.ne, h.b1l, h.b2l, by simp; omega, ?_⟩
  · rw [List.take_add_one, hdi]
    exact hfp.under (by show B2 < lo; omega) (by show B2 ≠ B1; exact fun e => h.ne e.symm) _
  · rw [← set_none (demNone m prices) (.bool false) _ hi hnl hni]
    exact ((h.none'.below h3 hB2).other (by show B2 ≠ B1; exact fun e => h.ne e.symm) _).set i _
  · exact (((h.mw'.trans (h3.mono (by omega))).setCell (p := ⟨B1, i, none⟩) (by show _ ≤ B1; omega) _).setCell (p := ⟨B2, i, none⟩) (by show _ ≤ B2; omega) _)

end Go.Proofs.YtkddkkcfpnndlaaGreatDoor
