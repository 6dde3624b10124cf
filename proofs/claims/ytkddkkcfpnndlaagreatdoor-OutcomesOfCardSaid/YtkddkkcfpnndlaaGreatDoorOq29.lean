/- Walks: a rise's state in memory; what a bidder has by an item. Walks: how far a set may rise: what its closures say. Walks: markets.Without. Walks: payments: the book of a market, and what all have but one. Prices that rise, as the code reckons them, and in the words of the plain texts. Walks: rises.at. Walks: how far a set may rise. Walks: the reference's halls: the least set that too many want. Walks: the reference's halls.Few: all sets of items. Walks: one step of a rise. Walks: one step of a rise. -/
import Derived.Test.YtkddkkcfpnndlaaGreatDoorOq09
import Derived.Test.YtkddkkcfpnndlaaGreatDoorOq28
import Derived.Test.YtkddkkcfpnndlaaGreatDoorOq23
import Derived.Test.YtkddkkcfpnndlaaGreatDoorOq13
import Derived.Test.YtkddkkcfpnndlaaGreatDoorOq10
import Derived.Test.YtkddkkcfpnndlaaGreatDoorOq05
import Derived.Test.YtkddkkcfpnndlaaGreatDoorOq27
import Derived.Test.YtkddkkcfpnndlaaGreatDoorOq11
import Derived.Test.YtkddkkcfpnndlaaGreatDoorOq02
import Derived.Test.YtkddkkcfpnndlaaGreatDoorOq14
import Derived.Test.YtkddkkcfpnndlaaGreatDoorOq03
import Derived.BigRegion
import Derived.Laws.EntriesVeiled
import Derived.Deep.RegionHeld3
import Derived.Deep.DeepCutAuto
import Derived.RegionCalls
namespace Go.Proofs.YtkddkkcfpnndlaaGreatDoor
open Go.RowKit

structure StAt (w : World) (S : Nat) (ra ba oa qa wa ua : Option Addr) (rn rc bn bc on oc qn qc un uc : Nat) (m : Mkt) (q : List Int) (wants : List (List Int)) (must : List Int) : Prop where
 c0 : w.cell? ⟨S, 0, none⟩ = some (.slice ra rn rc)
 c1 : w.cell? ⟨S, 1, none⟩ = some (.slice ba bn bc)
 c2 : w.cell? ⟨S, 2, none⟩ = some (.slice oa on oc)
 c3 : w.cell? ⟨S, 3, none⟩ = some (.slice qa qn qc)
 c4 : w.cell? ⟨S, 4, none⟩ = some (.slice wa bn bn)
 c5 : w.cell? ⟨S, 5, none⟩ = some (.slice ua un uc)
 mkt : MktAt w ra ba oa rn rc bn bc on oc m
 pr : Ints w qa qn qc q
 wants : Rows w wa bn bn wants
 must : Ints w ua un uc must
theorem StAt.below {w w' : World} {S : Nat} {ra ba oa qa wa ua : Option Addr} {rn rc bn bc on oc qn qc un uc : Nat} {m : Mkt} {q : List Int} {wants : List (List Int)} {must : List Int}
   (h : StAt w S ra ba oa qa wa ua rn rc bn bc on oc qn qc un uc m q wants must) {B : Nat} (hb : Below B w w') (hB : w.heap.size ≤ B) : StAt w' S ra ba oa qa wa ua rn rc bn bc on oc qn qc un uc m q wants must := by
 have hs := block_lt_of_cell h.c0
 have hc : ∀ k, w'.cell? ⟨S, k, none⟩ = w.cell? ⟨S, k, none⟩ := fun k => hb.cell (p := ⟨S, k, none⟩) (by simp at hs ⊢; omega)
 exact ⟨(hc _).trans h.c0, (hc _).trans h.c1, (hc _).trans h.c2, (hc _).trans h.c3, (hc _).trans h.c4, (hc _).trans h.c5, h.mkt.below hb hB, h.pr.below hb hB, h.wants.below hb hB, h.must.below hb hB⟩

set_option maxHeartbeats 1000000 in
theorem rhas_any {w : World} {S : Nat} {ra ba oa qa wa ua : Option Addr} {rn rc bn bc on oc qn qc un uc : Nat} {m : Mkt} {q : List Int} {wants : List (List Int)} {must : List Int}
   (h : StAt w S ra ba oa qa wa ua rn rc bn bc on oc qn qc un uc m q wants must) {i k : Nat} {bid : List Int} {x y : Int} (hb : m.bids[i]? = some bid) (hx : bid[k]? = some x) (hy : q[k]? = some y) (hx1 : 0 ≤ x ∧ x ≤ 1000000) (hy1 : 0 ≤ y ∧ y ≤ 2000000) :
   Calls Tryz.prog 220 #[.pointer (some ⟨S, 0, none⟩), .int .i64 i, .int .i64 k] w fun e w' => e = .returned (.int .i64 (x - y)) ∧ Below w.heap.size w w' := by
 have hib : i < m.bids.length := (List.getElem?_eq_some_iff.1 hb).1
 have hbl := h.mkt.bids.len
 obtain ⟨bb, bo, rfl⟩ := h.mkt.bids.addr (by omega)
 obtain ⟨la, ln, lc, hcl, hli⟩ := h.mkt.bids.row (Below.refl w.heap.size w) (Nat.le_refl _) rfl hb
 have hll := hli.len
 have hkl : k < bid.length := (List.getElem?_eq_some_iff.1 hx).1
 have hkq : k < q.length := (List.getElem?_eq_some_iff.1 hy).1
 have hql := h.pr.len
 obtain ⟨lb, lo, rfl⟩ := hli.addr (by omega)
 obtain ⟨qb, qo, rfl⟩ := h.pr.addr (by omega)
 have cx := hli.cell lb lo rfl k x hx
 have cy := h.pr.cell qb qo rfl k y hy
 have c1 := h.c1
 have c3 := h.c3
 have i1 : (i : Int) < (bn : Int) := by omega
 have i2 : (k : Int) < (ln : Int) := by omega
 have i3 : (k : Int) < (qn : Int) := by omega
 clear h hli hb hx hy hib hbl hll hkl hkq hql
 obtain ⟨x1, x2⟩ := hx1
 obtain ⟨y1, y2⟩ := hy1
 go_enter Tryz.func220, Tryz.ntmps220
 go_wp2_with fail
 go_region
 all_goals
   go_wp2_with fail
   go_ret
   exact ⟨rfl, (Below.refl _ _).drew⟩
end Go.Proofs.YtkddkkcfpnndlaaGreatDoor

namespace Go.Proofs.YtkddkkcfpnndlaaGreatDoor
open Go.RowKit

theorem farIn_any (B : Nat) (a : Option Addr) (n c : Nat) (l : List Nat) (x : Int) (w : World) (hB : w.cell? ⟨B, 0, none⟩ = some (.slice a n c)) (h : Ints w a n c (nats l)) :
   Calls Tryz.prog 218 #[.int .i64 x, .pointer (some ⟨B, 0, none⟩)] w fun e w' => e = .returned (.bool ((nats l).contains x)) ∧ Below w.heap.size w w' := by
 have H := Lib.hid (contains_any a n c (nats l) x w h); clear h
 go_enter Tryz.func218, Tryz.ntmps218
 go_wp2_with fail
 refine H.out.mono ?_
 rintro e w1 ⟨rfl, rfl⟩
 go_wp2_with fail
 go_ret
 exact ⟨(ret_bool (by simp) : Ending.returned (.bool (decide (x ∈ nats l))) = _), Below.refl _ _⟩
theorem farOut_any (B B2 : Nat) (a : Option Addr) (n c : Nat) (l : List Nat) (x : Int) (w : World) (hB : w.cell? ⟨B, 0, none⟩ = some (.slice a n c)) (h2 : w.cell? ⟨B2, 0, none⟩ = some (.func (.func 218) #[] #[.pointer (some ⟨B, 0, none⟩)])) (h : Ints w a n c (nats l)) :
   Calls Tryz.prog 219 #[.int .i64 x, .pointer (some ⟨B2, 0, none⟩)] w fun e w' => e = .returned (.bool (!(nats l).contains x)) ∧ Below w.heap.size w w' := by
 have H := Lib.hid (farIn_any B a n c l x w hB h); clear h hB
 have hen := enters_of Tryz.func218 (by kernel_rfl) rfl
 go_enter Tryz.func219, Tryz.ntmps219
 go_wp2_with fail
 refine H.out.mono ?_
 rintro e w1 ⟨rfl, hb⟩
 have HB := Lib.hid hb; clear hb
 go_wp2_with fail
 go_ret
 exact ⟨(ret_bool (by simp) : Ending.returned (.bool !decide (x ∈ nats l)) = _), HB.out⟩

/-! ### how far -/
def gnOf (bids : List (List Int)) (q : List Int) (i k : Nat) : Int := (bids.getD i []).getD k 0 - q.getD k 0
def farRow (bids : List (List Int)) (q : List Int) (wants : List (List Nat)) (l : List Nat) (i : Nat) : List Int :=
 if ((wants.getD i []).any fun k => !l.contains k) then [] else
   gnOf bids q i ((wants.getD i []).getD 0 0) :: ((List.range q.length).filter fun k => !l.contains k).map fun k => gnOf bids q i ((wants.getD i []).getD 0 0) - gnOf bids q i k
def farAll (bids : List (List Int)) (q : List Int) (wants : List (List Nat)) (l mu : List Nat) : List Int := mu.flatMap (farRow bids q wants l)
structure FarOk (m : Mkt) (q : List Int) (wants : List (List Nat)) (mu : List Nat) : Prop where
 q8 : q.length ≤ 8
 mu8 : mu.length ≤ 8
 lt : ∀ i, i ∈ mu → i < m.bids.length
 wl : wants.length = m.bids.length
 row : ∀ i, i ∈ mu → (m.bids.getD i []).length = q.length ∧ ∀ x, x ∈ m.bids.getD i [] → 0 ≤ x ∧ x ≤ 1000000
 pr : ∀ x, x ∈ q → 0 ≤ x ∧ x ≤ 2000000
 ne : ∀ i, i ∈ mu → wants.getD i [] ≠ []
 want : ∀ i, i ∈ mu → ∀ k, k ∈ wants.getD i [] → k < q.length
theorem FarOk.gn {m : Mkt} {q : List Int} {wants : List (List Nat)} {mu : List Nat} (h : FarOk m q wants mu) {i k : Nat} (hi : i ∈ mu) (hk : k < q.length) :
   ∃ bid x y, m.bids[i]? = some bid ∧ bid[k]? = some x ∧ q[k]? = some y ∧ (0 ≤ x ∧ x ≤ 1000000) ∧ (0 ≤ y ∧ y ≤ 2000000) ∧ gnOf m.bids q i k = x - y := by
 have h1 := h.lt i hi
 have hb : m.bids[i]? = some (m.bids[i]) := List.getElem?_eq_getElem h1
 have hg : m.bids.getD i [] = m.bids[i] := by rw [List.getD_eq_getElem?_getD, hb]; rfl
 obtain ⟨h2, h3⟩ := h.row i hi
 rw [hg] at h2 h3
 have hx : (m.bids[i])[k]? = some ((m.bids[i])[k]) := List.getElem?_eq_getElem (by omega)
 have hy : q[k]? = some (q[k]) := List.getElem?_eq_getElem hk
 refine ⟨_, _, _, hb, hx, hy, h3 _ (List.mem_of_getElem? hx), h.pr _ (List.mem_of_getElem? hy), ?_⟩
 unfold gnOf
 rw [hg, List.getD_eq_getElem?_getD, hx, List.getD_eq_getElem?_getD, hy]; rfl
theorem nats_any (L l : List Nat) : ((nats L).any fun x => !(nats l).contains x) = L.any fun k => !l.contains k := by
 rw [Bool.eq_iff_iff]
 simp only [List.any_eq_true, nats, List.mem_map, Bool.not_eq_true', List.contains_eq_mem, decide_eq_false_iff_not]
 constructor
 · rintro ⟨x, ⟨k, hk, rfl⟩, h⟩
   exact ⟨k, hk, fun hm => h ⟨k, hm, rfl⟩⟩
 · rintro ⟨k, hk, h⟩
   refine ⟨k, ⟨k, hk, rfl⟩, ?_⟩
   rintro ⟨k', hk', e⟩
   have e2 : k' = k := by omega
   rw [e2] at hk'
   exact h hk'
theorem farRow_len (bids : List (List Int)) (q : List Int) (wants : List (List Nat)) (l : List Nat) (i : Nat) : (farRow bids q wants l i).length ≤ q.length + 1 := by
 unfold farRow
 split
 · simp
 · have := List.length_filter_le (fun k => !l.contains k) (List.range q.length)
   simp at this ⊢
   omega
theorem farAll_len (bids : List (List Int)) (q : List Int) (wants : List (List Nat)) (l mu : List Nat) : (farAll bids q wants l mu).length ≤ mu.length * (q.length + 1) := by
 unfold farAll
 induction mu with
 | nil => simp
 | cons i mu ih =>
   have := farRow_len bids q wants l i
   rw [List.flatMap_cons, List.length_append, List.length_cons, Nat.add_mul]
   omega
end Go.Proofs.YtkddkkcfpnndlaaGreatDoor

namespace Go.Proofs.YtkddkkcfpnndlaaGreatDoor
open Go.RowKit

def Cloned (n : Nat) (xs : List Int) (w : World) (e : Ending) (w' : World) : Prop :=
 ∃ a c, e = .returned (.slice a n c) ∧ n ≤ c ∧ Ints w' a n c xs ∧ (∀ b o, a = some ⟨b, o, none⟩ → w.heap.size ≤ b ∧ b < w'.heap.size) ∧ Below w.heap.size w w'
theorem cloned_any (a : Option Addr) (n c : Nat) (xs : List Int) (w : World) (h : Ints w a n c xs) (hsz : n < 17592186044000) :
   Calls Tryz.prog 111 #[.slice a n c] w (Cloned n xs w) := by
 refine (clone_any a n c xs w h hsz).mono ?_
 rintro e w' ⟨v, rfl, ho, hb⟩
 obtain ⟨a2, c2, rfl, hi⟩ := ho.ints (by rw [h.len]; exact h.big) h.bd
 rw [h.len] at hi ho ⊢
 refine ⟨a2, c2, rfl, hi.cap, hi, fun b o e => ?_, hb⟩
 subst e
 have h1 := World.ownsRow.lt ho b rfl
 exact h1

theorem Ints.toClip {w : World} {a : Option Addr} {n c : Nat} {xs : List Int} (h : Ints w a n c xs) : Ints w a n n xs :=
 ⟨h.len, Nat.le_refl _, h.big, h.addr, h.cell, h.bd, fun e => ⟨(h.nil e).1, (h.nil e).1⟩⟩
theorem below_on {w w1 w2 : World} (hb : Below w1.heap.size w1 w2) (h : Below w.heap.size w w1) : Below w.heap.size w w2 := h.trans (hb.mono h.size)
theorem cell_up {w w' : World} {b o : Nat} {v : Value} (hb : Below w.heap.size w w') (h : w.cell? ⟨b, o, none⟩ = some v) : w'.cell? ⟨b, o, none⟩ = some v := cell_step hb h
theorem Ints.apartV {w : World} {a : Option Addr} {n c B : Nat} {T : TypeId} {xs : List Int} {vals : List Value} (h : Ints w a n c xs) (hV : VRow w B T vals) (hs : ∀ v, v ∈ vals → ∃ a n c, v = .slice a n c) : 0 < n → ∀ b o, a = some ⟨b, o, none⟩ → b ≠ B := by
 intro hn b o e eb
 subst eb
 obtain ⟨x, hx, _⟩ := h.get hn
 have h1 := h.cell b o e 0 x hx
 unfold VRow at hV
 rw [cell_of_row w b (o + 0) _ T _ hV] at h1
 obtain ⟨a', n', c', e'⟩ := hs (.int .i64 x) (by
   have : vals[o + 0]? = some (.int .i64 x) := by simpa using h1
   exact List.mem_of_getElem? this)
 cases e'
end Go.Proofs.YtkddkkcfpnndlaaGreatDoor

namespace Go.Proofs.YtkddkkcfpnndlaaGreatDoor
open Go.RowKit Sale

def ordN (m : Mkt) : List Nat := m.ord.map Int.toNat
def hasM (m : Mkt) : List Int := firstOf (gainsM m) m.res.length (ordN m)
theorem hasM_length (m : Mkt) : (hasM m).length = m.bids.length := by unfold hasM; rw [firstOf_length, gainsM_length]
theorem MOk.ordN {m : Mkt} (h : MOk m) : m.ord = (ordN m).map (fun k : Nat => (k : Int)) ∧ (ordN m).Perm (List.range m.bids.length) := by
 obtain ⟨on, e, hp⟩ := h.order
 have : Go.Proofs.YtkddkkcfpnndlaaGreatDoor.ordN m = on := by
   unfold Go.Proofs.YtkddkkcfpnndlaaGreatDoor.ordN
   rw [e, List.map_map]
   conv => rhs; rw [← List.map_id on]
   exact List.map_congr_left fun x _ => by simp
 rw [this]
 exact ⟨e, hp⟩
theorem FirstM {m : Mkt} (h : MOk m) (ga oa : Option Addr) (gn gc on oc : Nat) (w : World) (hg : Rows w ga gn gc (gainsM m)) (ho : Ints w oa on oc m.ord) :
   Calls Tryz.prog 11 #[.slice ga gn gc, .int .i64 (m.res.length : Nat), .slice oa on oc] w (RetList 0 (hasM m) w) := by
 have h1 := h.ordN.1
 have h2 := h.ord
 rw [h1] at ho h2
 exact First_yes ga oa gn gc on oc (gainsM m) m.res.length (ordN m) w hg ho h.wcheck (by rw [gainsM_length]; exact h2)

end Go.Proofs.YtkddkkcfpnndlaaGreatDoor

namespace Go.Proofs.YtkddkkcfpnndlaaGreatDoor
open Go.RowKit Sale

def isNone (b prices : List Int) : Bool := (demOf b prices).2 == 0
def wantsM (m : Mkt) (prices : List Int) : List (List Nat) := m.bids.map fun b => if isNone b prices then [] else (demOf b prices).1
def mustM (m : Mkt) (prices : List Int) : List Nat := (List.range m.bids.length).filter fun i => !isNone (m.bids.getD i []) prices
def fewM (m : Mkt) (prices : List Int) : Option (List Nat) := Way.fewOf (nbOf (wantsM m prices)) m.res.length (mustM m prices)
def farM (m : Mkt) (prices : List Int) (X : List Nat) : Int := lmin (farAll m.bids prices (wantsM m prices) X (mustM m prices))
def upBy (prices : List Int) (X : List Nat) (by' : Int) : List Int := (List.range prices.length).map fun k => if k ∈ X then prices.getD k 0 + by' else prices.getD k 0
def stepL (m : Mkt) (prices : List Int) : Option (List Int) := (fewM m prices).map fun X => upBy prices X (farM m prices X)

theorem upBy_len (prices : List Int) (X : List Nat) (b : Int) : (upBy prices X b).length = prices.length := by simp [upBy]
theorem upBy_get {prices : List Int} {X : List Nat} {b : Int} {k : Nat} (hk : k < prices.length) : (upBy prices X b).getD k 0 = if k ∈ X then prices.getD k 0 + b else prices.getD k 0 := by
 rw [List.getD_eq_getElem?_getD, upBy, List.getElem?_map, List.getElem?_range hk]; rfl
theorem wantsM_len (m : Mkt) (prices : List Int) : (wantsM m prices).length = m.bids.length := by simp [wantsM]

structure PrOk (m : Mkt) (prices : List Int) : Prop where
 len : prices.length = m.res.length
 bd : ∀ k, k < m.res.length → m.res.getD k 0 ≤ prices.getD k 0 ∧ prices.getD k 0 ≤ 2000000
theorem PrOk.all {m : Mkt} (hm : MOk m) {prices : List Int} (h : PrOk m prices) : ∀ x, x ∈ prices → 0 ≤ x ∧ x ≤ 2000000 := fun x hx => by
 obtain ⟨k, hk⟩ := List.mem_iff_getElem?.1 hx
 have hl : k < prices.length := (List.getElem?_eq_some_iff.1 hk).1
 have h1 := h.bd k (by have := h.len; omega)
 rw [getD_at hk] at h1
 have h2 := hm.res _ (getD_mem (l := m.res) (k := k) (by have := h.len; omega) 0)
 omega
theorem PrOk.nonneg {m : Mkt} {prices : List Int} (h : PrOk m prices) : ∀ k, k < m.res.length → 0 ≤ qOf m prices k := fun k hk => by have := h.bd k hk; unfold qOf; omega

theorem dem_is {m : Mkt} (hm : MOk m) {prices : List Int} (h : PrOk m prices) {i : Nat} (hi : i < m.bids.length) :
   demOf (m.bids.getD i []) prices = (dem (gi (gainsM m)) m.res.length (qOf m prices) i, top (gi (gainsM m)) m.res.length (qOf m prices) i) := by
 refine demOf_is ?_ ?_ ?_
 · rcases hm.bid_at hi with e | e
   · exact .inl e
   · exact .inr e.1
 · intro he k hk
   rw [gain_at hm prices hi hk, if_pos he]
   have := h.nonneg k hk
   omega
 · intro he k hk
   rw [gain_at hm prices hi hk, if_neg he]; rfl
theorem isNone_is {m : Mkt} (hm : MOk m) {prices : List Int} (h : PrOk m prices) {i : Nat} (hi : i < m.bids.length) :
   isNone (m.bids.getD i []) prices = !decide (0 < top (gi (gainsM m)) m.res.length (qOf m prices) i) := by
 unfold isNone
 rw [dem_is hm h hi]
 have := top_nonneg (gi (gainsM m)) m.res.length (qOf m prices) i
 by_cases e : top (gi (gainsM m)) m.res.length (qOf m prices) i = 0
 · simp [e]
 · have h2 : 0 < top (gi (gainsM m)) m.res.length (qOf m prices) i := by omega
   simp [e, h2]
theorem nb_wants {m : Mkt} (hm : MOk m) {prices : List Int} (h : PrOk m prices) {i : Nat} (hi : i < m.bids.length) : nbOf (wantsM m prices) i = wantsOf (gi (gainsM m)) m.res.length (qOf m prices) i := by
 have hb : m.bids[i]? = some (m.bids.getD i []) := by rw [List.getD_eq_getElem?_getD, List.getElem?_eq_getElem hi]; rfl
 unfold nbOf wantsM
 rw [List.getElem?_map, hb]
 show (if isNone (m.bids.getD i []) prices = true then [] else (demOf (m.bids.getD i []) prices).1) = _
 rw [isNone_is hm h hi, dem_is hm h hi]
 unfold wantsOf
 by_cases e : 0 < top (gi (gainsM m)) m.res.length (qOf m prices) i
 · simp [e]
 · simp [e]
theorem mustM_is {m : Mkt} (hm : MOk m) {prices : List Int} (h : PrOk m prices) : mustM m prices = musts (gi (gainsM m)) m.res.length m.bids.length (qOf m prices) := by
 unfold mustM musts
 refine List.filter_congr fun i hi => ?_
 rw [isNone_is hm h (List.mem_range.1 hi), Bool.not_not]
theorem few_congr {nb nb' : Nat → List Nat} {N : Nat} {sm : List Nat} (h : ∀ i, i ∈ sm → nb i = nb' i) : Way.fewOf nb N sm = Way.fewOf nb' N sm := by
 have hw : ∀ X, Sale.within nb sm X = Sale.within nb' sm X := fun X => by
   unfold Sale.within
   exact List.filter_congr fun i hi => by rw [h i hi]
 have hv : Way.viol nb sm = Way.viol nb' sm := funext fun X => by unfold Way.viol; rw [hw]
 unfold Way.fewOf
 rw [hv]
theorem fewM_is {m : Mkt} (hm : MOk m) {prices : List Int} (h : PrOk m prices) : fewM m prices = fewQ (gi (gainsM m)) m.res.length m.bids.length (qOf m prices) := by
 unfold fewM fewQ
 rw [mustM_is hm h]
 exact few_congr fun i hi => nb_wants hm h (mem_musts.1 hi).1
theorem flat_filter {α β : Type} (p : α → Bool) (f : α → List β) : ∀ l : List α, (l.filter p).flatMap f = l.flatMap fun x => if p x then f x else []
 | [] => rfl
 | x :: l => by
   rw [List.filter_cons, List.flatMap_cons, ← flat_filter p f l]
   cases hp : p x <;> simp
theorem flat_congr {α β : Type} {f g : α → List β} : ∀ {l : List α}, (∀ x, x ∈ l → f x = g x) → l.flatMap f = l.flatMap g
 | [], _ => rfl
 | x :: l, h => by
   rw [List.flatMap_cons, List.flatMap_cons, h x List.mem_cons_self, flat_congr fun y hy => h y (List.mem_cons_of_mem _ hy)]
theorem farM_is {m : Mkt} (hm : MOk m) {prices : List Int} (h : PrOk m prices) (X : List Nat) : farM m prices X = farOf (gi (gainsM m)) m.res.length m.bids.length (qOf m prices) X := by
 unfold farM farOf farAll
 congr 1
 rw [show Sale.within (wantsOf (gi (gainsM m)) m.res.length (qOf m prices)) (musts (gi (gainsM m)) m.res.length m.bids.length (qOf m prices)) X = (musts (gi (gainsM m)) m.res.length m.bids.length (qOf m prices)).filter fun i => (wantsOf (gi (gainsM m)) m.res.length (qOf m prices) i).all fun k => X.contains k from rfl, flat_filter, mustM_is hm h]
 refine flat_congr fun i hi => ?_
 obtain ⟨hiM, htop⟩ := mem_musts.1 hi
 have hw : (wantsM m prices).getD i [] = wantsOf (gi (gainsM m)) m.res.length (qOf m prices) i := by rw [← nb_wants hm h hiM]; unfold nbOf; rw [List.getD_eq_getElem?_getD]
 have hd : wantsOf (gi (gainsM m)) m.res.length (qOf m prices) i = dem (gi (gainsM m)) m.res.length (qOf m prices) i := by unfold wantsOf; rw [if_pos htop]
 unfold farRow
 rw [hw]
 by_cases hal : ((wantsOf (gi (gainsM m)) m.res.length (qOf m prices) i).all fun k => X.contains k) = true
 · rw [if_pos hal, if_neg (by
     rw [Bool.not_eq_true, List.any_eq_false]
     intro k hk
     have := List.all_eq_true.1 hal k hk
     rw [this]; simp)]
   have hne : m.bids.getD i [] ≠ [] := fun e => by
     have : top (gi (gainsM m)) m.res.length (qOf m prices) i = 0 := top_eq (Int.le_refl _) (fun k hk => by rw [gain_at hm prices hiM hk, if_pos e]; have := h.nonneg k hk; omega) (.inl rfl)
     omega
   have hgn : ∀ k, k < m.res.length → gnOf m.bids prices i k = gi (gainsM m) i k - qOf m prices k := fun k hk => by rw [gain_at hm prices hiM hk, if_neg hne]; rfl
   have hdne : dem (gi (gainsM m)) m.res.length (qOf m prices) i ≠ [] := fun e => by
     rcases top_cases (gi (gainsM m)) m.res.length (qOf m prices) i with h0 | ⟨k, hk, h0⟩
     · omega
     · have : k ∈ dem (gi (gainsM m)) m.res.length (qOf m prices) i := mem_dem.2 ⟨hk, h0.symm⟩
       rw [e] at this; cases this
   have h0 : gnOf m.bids prices i ((wantsOf (gi (gainsM m)) m.res.length (qOf m prices) i).getD 0 0) = top (gi (gainsM m)) m.res.length (qOf m prices) i := by
     rw [hd]
     obtain ⟨k, hk⟩ : ∃ k, (dem (gi (gainsM m)) m.res.length (qOf m prices) i)[0]? = some k := ⟨_, List.getElem?_eq_getElem (List.length_pos_iff.2 hdne)⟩
     rw [List.getD_eq_getElem?_getD, hk, Option.getD_some]
     obtain ⟨h1, h2⟩ := mem_dem.1 (List.mem_of_getElem? hk)
     rw [hgn k h1, h2]
   unfold farL
   rw [h0, h.len]
   congr 1
   refine List.map_congr_left fun k hk => ?_
   rw [hgn k (List.mem_range.1 (List.mem_filter.1 hk).1)]
 · rw [if_neg hal, if_pos (by
     rw [List.any_eq_true]
     rw [List.all_eq_true] at hal
     simp only [Classical.not_forall] at hal
     obtain ⟨k, hk, hc⟩ := hal
     exact ⟨k, hk, by simpa using hc⟩)]

theorem stepL_some {m : Mkt} (hm : MOk m) {prices p' : List Int} (h : PrOk m prices) (hs : stepL m prices = some p') : p'.length = m.res.length ∧ ∃ q', stepQ (gi (gainsM m)) m.res.length m.bids.length (qOf m prices) = some q' ∧ ∀ k, k < m.res.length → q' k = qOf m p' k := by
 unfold stepL at hs
 rw [fewM_is hm h] at hs
 obtain ⟨X, hX, rfl⟩ := Option.map_eq_some_iff.1 hs
 refine ⟨by rw [upBy_len]; exact h.len, _, by unfold stepQ; rw [hX]; rfl, fun k hk => ?_⟩
 have e : qOf m (upBy prices X (farM m prices X)) k = if k ∈ X then prices.getD k 0 + farM m prices X - m.res.getD k 0 else prices.getD k 0 - m.res.getD k 0 := by
   unfold qOf
   rw [upBy_get (by have := h.len; omega)]
   split <;> rfl
 rw [e, farM_is hm h]
 show (if k ∈ X then qOf m prices k + _ else qOf m prices k) = _
 unfold qOf
 split <;> omega

structure OnWay (m : Mkt) (prices : List Int) : Prop where
 len : prices.length = m.res.length
 ris : Rising (gi (gainsM m)) m.res.length m.bids.length (qOf m prices)
theorem OnWay.pr {m : Mkt} (hm : MOk m) {prices : List Int} (h : OnWay m prices) : PrOk m prices :=
 ⟨h.len, fun k hk => by
   have h1 := h.ris.nonneg k hk
   have h2 := h.ris.bd (B := 1000000) (by omega) (fun i _ k _ => (hm.bd i k).2) k hk
   have h3 := hm.res _ (getD_mem (l := m.res) hk 0)
   unfold qOf at h1 h2
   omega⟩
theorem OnWay.start {m : Mkt} : OnWay m m.res :=
 ⟨rfl, (Rising.start (gi (gainsM m)) m.res.length m.bids.length).congr fun k _ => by unfold qOf; omega⟩
theorem OnWay.step {m : Mkt} (hm : MOk m) {prices p' : List Int} (h : OnWay m prices) (hs : stepL m prices = some p') : OnWay m p' := by
 obtain ⟨hl, q', hq, he⟩ := stepL_some hm (h.pr hm) hs
 exact ⟨hl, (h.ris.step hq).congr he⟩
theorem OnWay.up {m : Mkt} (hm : MOk m) {prices p' : List Int} (h : OnWay m prices) (hs : stepL m prices = some p') : sumN (qOf m prices) m.res.length + 1 ≤ sumN (qOf m p') m.res.length := by
 obtain ⟨hl, q', hq, he⟩ := stepL_some hm (h.pr hm) hs
 rw [← sumN_congr he]
 exact (step_up hq).2
theorem OnWay.sum {m : Mkt} (hm : MOk m) {prices : List Int} (h : OnWay m prices) : 0 ≤ sumN (qOf m prices) m.res.length ∧ sumN (qOf m prices) m.res.length ≤ 8000000 := by
 refine ⟨sumN_nonneg h.ris.nonneg, ?_⟩
 have h2 : ∀ k, k < m.res.length → qOf m prices k ≤ (fun _ : Nat => (1000000 : Int)) k := h.ris.bd (B := 1000000) (by omega) (fun i _ k _ => (hm.bd i k).2)
 have h3 := sumN_le h2
 have h4 : ∀ n : Nat, sumN (fun _ : Nat => (1000000 : Int)) n = 1000000 * (n : Int) := fun n => by
   induction n with
   | zero => rfl
   | succ n ih => simp only [sumN, ih]; omega
 rw [h4] at h3
 have := hm.n8
 omega

def riseL (m : Mkt) : Nat → List Int → List Int
 | 0, p => p
 | n + 1, p => match stepL m p with | none => p | some p' => riseL m n p'
theorem riseL_stop {m : Mkt} : ∀ (n : Nat) (p : List Int), stepL m (riseL m n p) = none → ∀ n', n ≤ n' → riseL m n' p = riseL m n p
 | 0, p, h, 0, _ => rfl
 | 0, p, h, n' + 1, _ => by
   have h2 : stepL m p = none := h
   show (match stepL m p with | none => p | some p' => riseL m n' p') = p
   rw [h2]
 | n + 1, p, h, 0, hn => by omega
 | n + 1, p, h, n' + 1, hn => by
   show (match stepL m p with | none => p | some p' => riseL m n' p') = (match stepL m p with | none => p | some p' => riseL m n p')
   cases hs : stepL m p with
   | none => rfl
   | some p' =>
     have e : riseL m (n + 1) p = riseL m n p' := by show (match stepL m p with | none => p | some p' => riseL m n p') = _; rw [hs]
     rw [e] at h
     exact riseL_stop n p' h n' (by omega)
def leastM (m : Mkt) : List Int := riseL m 8000001 m.res
theorem leastM_at {m : Mkt} (n : Nat) (hn : n ≤ 8000001) (h : stepL m (riseL m n m.res) = none) : leastM m = riseL m n m.res := riseL_stop n m.res h _ hn
theorem riseL_more {m : Mkt} : ∀ (n : Nat) (p : List Int), riseL m (n + 1) p = match stepL m (riseL m n p) with | none => riseL m n p | some p' => p'
 | 0, p => by
   show (match stepL m p with | none => p | some p' => p') = (match stepL m p with | none => p | some p' => p'); rfl
 | n + 1, p => by
   show (match stepL m p with | none => p | some p' => riseL m (n + 1) p') = _
   cases hs : stepL m p with
   | none =>
     have e : riseL m (n + 1) p = p := by show (match stepL m p with | none => p | some p' => riseL m n p') = p; rw [hs]
     rw [e, hs]
   | some p' =>
     have e : riseL m (n + 1) p = riseL m n p' := by show (match stepL m p with | none => p | some p' => riseL m n p') = _; rw [hs]
     rw [e]
     exact riseL_more n p'
theorem riseL_on {m : Mkt} (hm : MOk m) : ∀ n, OnWay m (riseL m n m.res) ∧ ((∃ n', n' < n ∧ stepL m (riseL m n' m.res) = none) ∨ (n : Int) ≤ sumN (qOf m (riseL m n m.res)) m.res.length)
 | 0 => ⟨OnWay.start, .inr (OnWay.start (m := m).sum hm).1⟩
 | n + 1 => by
   obtain ⟨h1, h2⟩ := riseL_on hm n
   have e := riseL_more (m := m) n m.res
   cases hs : stepL m (riseL m n m.res) with
   | none =>
     rw [hs] at e
     exact ⟨by rw [e]; exact h1, .inl ⟨n, by omega, hs⟩⟩
   | some p' =>
     rw [hs] at e
     have e : riseL m (n + 1) m.res = p' := e
     rw [e]
     refine ⟨h1.step hm hs, ?_⟩
     rcases h2 with ⟨n', hn, h⟩ | h2
     · exact .inl ⟨n', by omega, h⟩
     · have := h1.up hm hs
       exact .inr (by omega)
theorem leastM_stop {m : Mkt} (hm : MOk m) : stepL m (leastM m) = none := by
 obtain ⟨h1, h2⟩ := riseL_on hm 8000001
 rcases h2 with ⟨n', hn, h⟩ | h2
 · have e : leastM m = riseL m n' m.res := leastM_at n' (by omega) h
   rw [e]; exact h
 · have := (h1.sum hm).2
   omega
theorem leastM_on {m : Mkt} (hm : MOk m) : OnWay m (leastM m) := (riseL_on hm _).1
theorem leastM_end {m : Mkt} (hm : MOk m) {n : Nat} (h : stepL m (riseL m n m.res) = none) : leastM m = riseL m n m.res := by
 rcases Nat.le_total n 8000001 with h1 | h1
 · exact leastM_at n h1 h
 · exact (riseL_stop 8000001 m.res (leastM_stop hm) n h1).symm

def outM (m : Mkt) : Outc := ⟨hasM m, leastM m⟩
end Go.Proofs.YtkddkkcfpnndlaaGreatDoor

namespace Go.Proofs.YtkddkkcfpnndlaaGreatDoor
open Go.RowKit Go.Shelf

attribute [local go_sem] Oper.semAt_some
def partW (m : Mkt) (prices : List Int) (j : Nat) : List (List Int) := ((wantsM m prices).take j).map nats ++ (demItems m prices).drop j
def partM (m : Mkt) (prices : List Int) (j : Nat) : List Nat := (List.range j).filter fun i => !isNone (m.bids.getD i []) prices

theorem partW_get (m : Mkt) (prices : List Int) {j : Nat} (hj : j ≤ m.bids.length) (k : Nat) : (partW m prices j)[k]? = if k < j then ((wantsM m prices)[k]?).map nats else (demItems m prices)[k]? := by
 unfold partW
 have hl : (((wantsM m prices).take j).map nats).length = j := by rw [List.length_map, List.length_take, wantsM_len]; omega
 by_cases h : k < j
 · rw [if_pos h, List.getElem?_append_left (by omega), List.getElem?_map, List.getElem?_take_of_lt h]
 · rw [if_neg h, List.getElem?_append_right (by omega), hl, List.getElem?_drop]
   congr 1; omega
theorem partW_len (m : Mkt) (prices : List Int) {j : Nat} (hj : j ≤ m.bids.length) : (partW m prices j).length = m.bids.length := by
 unfold partW demItems
 rw [List.length_append, List.length_map, List.length_take, wantsM_len, List.length_drop, List.length_map]
 omega
theorem partW_zero (m : Mkt) (prices : List Int) : partW m prices 0 = demItems m prices := by simp [partW]
theorem partW_none {m : Mkt} {prices : List Int} {i : Nat} {bid : List Int} (hb : m.bids[i]? = some bid) (hn : isNone bid prices = true) : partW m prices (i + 1) = (partW m prices i).set i [] := by
 have hi : i < m.bids.length := (List.getElem?_eq_some_iff.1 hb).1
 apply List.ext_getElem?
 intro k
 rw [partW_get m prices (by omega)]
 by_cases e : i = k
 · subst e
   rw [if_pos (by omega), List.getElem?_set_self (by rw [partW_len m prices (by omega)]; exact hi)]
   unfold wantsM
   rw [List.getElem?_map, hb]
   simp [hn, nats]
 · rw [List.getElem?_set_ne e, partW_get m prices (by omega)]
   by_cases h : k < i
   · rw [if_pos h, if_pos (by omega)]
   · rw [if_neg h, if_neg (by omega)]
theorem partW_some {m : Mkt} {prices : List Int} {i : Nat} {bid : List Int} (hb : m.bids[i]? = some bid) (hn : isNone bid prices = false) : partW m prices (i + 1) = partW m prices i := by
 have hi : i < m.bids.length := (List.getElem?_eq_some_iff.1 hb).1
 apply List.ext_getElem?
 intro k
 rw [partW_get m prices (by omega), partW_get m prices (by omega)]
 by_cases e : i = k
 · subst e
   rw [if_pos (by omega), if_neg (by omega)]
   unfold wantsM demItems
   rw [List.getElem?_map, List.getElem?_map, hb]
   simp [hn]
 · by_cases h : k < i
   · rw [if_pos h, if_pos (by omega)]
   · rw [if_neg h, if_neg (by omega)]
theorem partW_all (m : Mkt) (prices : List Int) : partW m prices m.bids.length = (wantsM m prices).map nats := by
 unfold partW
 rw [List.take_of_length_le (by rw [wantsM_len]; exact Nat.le_refl _), List.drop_of_length_le (by unfold demItems; simp), List.append_nil]
theorem partM_none {m : Mkt} {prices : List Int} {i : Nat} {bid : List Int} (hb : m.bids[i]? = some bid) (hn : isNone bid prices = true) : partM m prices (i + 1) = partM m prices i := by
 unfold partM
 rw [List.range_succ, List.filter_append]
 simp [List.getD_eq_getElem?_getD, hb, hn]
theorem partM_some {m : Mkt} {prices : List Int} {i : Nat} {bid : List Int} (hb : m.bids[i]? = some bid) (hn : isNone bid prices = false) : partM m prices (i + 1) = partM m prices i ++ [i] := by
 unfold partM
 rw [List.range_succ, List.filter_append]
 simp [List.getD_eq_getElem?_getD, hb, hn]
theorem partM_len (m : Mkt) (prices : List Int) (i : Nat) : (partM m prices i).length ≤ i := by
 have := List.length_filter_le (fun i => !isNone (m.bids.getD i []) prices) (List.range i)
 simpa [partM] using this

structure AtAt (w : World) (S : Nat) (ra ba oa qa : Option Addr) (rn rc bn bc on oc qn qc : Nat) (m : Mkt) (prices : List Int) (B1 B2 lo base i : Nat) (vals : List Value) (v : Value) (wr : World) : Prop where
 fill : Filled wr B1 lo bn (partW m prices i) vals
 hi : ∀ (j : Nat) (xs : List Int), (partW m prices i)[j]? = some xs → ∀ a c, vals[j]? = some (Value.slice a xs.length c) → 0 < xs.length → ∀ b o : Nat, a = some ⟨b, o, none⟩ → b < base
 none' : VRow wr B2 4 (demNone m prices)
 row : wr.heap[S]? = some (.cells #[.slice ra rn rc, .slice ba bn bc, .slice oa on oc, .slice qa qn qc, .slice none 0 0, v] 235)
 own : Own wr base v (nats (partM m prices i))
 pr : Ints wr qa qn qc prices
 prb : ∀ b o, qa = some ⟨b, o, none⟩ → 0 < qn → b < S
 s1 : S < B1
 s2 : S < B2
 ne : B1 ≠ B2
 b2 : B2 < lo
 lob : lo ≤ base
 le : base ≤ wr.heap.size
 s0 : w.heap.size + 1 ≤ S
 mw' : Below (w.heap.size + 1) (mw w ra ba oa rn rc bn bc on oc) wr
theorem cells_of_rowK {wr : World} {S : Nat} {cs : Array Value} {T : TypeId} (h : wr.heap[S]? = some (.cells cs T)) {k : Nat} {v : Value} (hk : cs[k]? = some v) : wr.cell? ⟨S, k, none⟩ = some v := by
 rw [cell_of_row wr S k _ T _ h]; exact hk
theorem AtAt.none1 {w : World} {S : Nat} {ra ba oa qa : Option Addr} {rn rc bn bc on oc qn qc : Nat} {m : Mkt} {prices : List Int} {B1 B2 lo base i : Nat} {vals : List Value} {v : Value} {wr : World}
   (h : AtAt w S ra ba oa qa rn rc bn bc on oc qn qc m prices B1 B2 lo base i vals v wr) (hl : m.bids.length = bn) {bid : List Int} (hb : m.bids[i]? = some bid) (hn : isNone bid prices = true) :
   AtAt w S ra ba oa qa rn rc bn bc on oc qn qc m prices B1 B2 lo base (i + 1) (vals.set i (.slice none 0 0)) v (wr.setCell ⟨B1, i, none⟩ (.slice none 0 0)) := by
 have hi : i < m.bids.length := (List.getElem?_eq_some_iff.1 hb).1
 have hs1 := h.s1
 have hb1 := h.fill.blt
 have hlob := h.lob
 have hs0 := h.s0
 refine ⟨?_, ?_, h.none'.other (by show B2 ≠ B1; exact fun e => h.ne e.symm) _, ?_, ?_, h.pr.far (fun hn b o e => by have := h.prb b o e hn; show b ≠ B1; omega) _, h.prb, h.s1, h.s2, h.ne, h.b2, h.lob, by simp; exact h.le, h.s0, h.mw'.setCell (p := ⟨B1, i, none⟩) (by show _ ≤ B1; omega) _⟩
 · rw [partW_none hb hn]
   exact h.fill.clear (by omega)
 · rw [partW_none hb hn]
   intro j xs hj a c hv hpos b o e
   by_cases e2 : i = j
   · subst e2
     rw [List.getElem?_set_self (by rw [partW_len m prices (by omega)]; exact hi)] at hj
     cases hj; simp at hpos
   · rw [List.getElem?_set_ne e2] at hj hv
     exact h.hi j xs hj a c hv hpos b o e
 · rw [heap_setCell_other wr ⟨B1, i, none⟩ S _ (by show S ≠ B1; omega)]; exact h.row
 · rw [partM_none hb hn]
   exact h.own.other (by show B1 < base; omega) _

theorem AtAt.some1 {w : World} {S : Nat} {ra ba oa qa : Option Addr} {rn rc bn bc on oc qn qc : Nat} {m : Mkt} {prices : List Int} {B1 B2 lo base i : Nat} {vals : List Value} {v : Value} {wr : World}
   (h : AtAt w S ra ba oa qa rn rc bn bc on oc qn qc m prices B1 B2 lo base i vals v wr) {bid : List Int} (hb : m.bids[i]? = some bid) (hn : isNone bid prices = false)
   {w1 : World} {v' : Value} {o : Obj} (ho : Own w1 base v' (nats (partM m prices i) ++ [(i : Int)])) (hbl : Below base (wr.alloc o) w1) :
   AtAt w S ra ba oa qa rn rc bn bc on oc qn qc m prices B1 B2 lo base (i + 1) vals v' (w1.setCell ⟨S, 5, none⟩ v') := by
 have hs1 := h.s1
 have hs2 := h.s2
 have hb1 := h.fill.blt
 have hlob := h.lob
 have hs0 := h.s0
 have hle := h.le
 have hb2 := h.b2
 have hbw : Below base wr w1 := ((Below.refl base wr).alloc hle o).trans hbl
 have hr1 : w1.heap[S]? = some (.cells #[.slice ra rn rc, .slice ba bn bc, .slice oa on oc, .slice qa qn qc, .slice none 0 0, v] 235) := (hbw.block S (by omega)).trans h.row
 refine ⟨?_, by rw [partW_some hb hn]; exact h.hi, (h.none'.below hbw (by omega)).other (by show B2 ≠ S; omega) _, ?_, ?_, (h.pr.upTo hbw (fun hn b o e => by have := h.prb b o e hn; omega)).far (fun hn b o e => by have := h.prb b o e hn; show b ≠ S; omega) _, h.prb, h.s1, h.s2, h.ne, h.b2, h.lob, by have := hbw.size; simp; omega, h.s0, (h.mw'.trans (hbw.mono (by omega))).setCell (p := ⟨S, 5, none⟩) (by show _ ≤ S; omega) _⟩
 · rw [partW_some hb hn]
   exact (h.fill.grown hbw (by omega) h.hi).under (by show S < lo; omega) (by show S ≠ B1; omega) _
 · rw [heap_setCell_same w1 S 5 _ _ _ hr1]; rfl
 · rw [partM_some hb hn, show nats (partM m prices i ++ [i]) = nats (partM m prices i) ++ [(i : Int)] from by simp [nats]]
   exact ho.other (by show S < base; omega) _

set_option maxRecDepth 100000 in
set_option maxHeartbeats 4000000 in
theorem At_made (ra ba oa pa : Option Addr) (rn rc bn bc on oc pn pc : Nat) (m : Mkt) (prices : List Int) (w : World) (hm : MktAt w ra ba oa rn rc bn bc on oc m) (hc : mcheck m = true) (hp : Ints w pa pn pc prices) (hpn : pn = rn) (hpp : ∀ x, x ∈ prices → 0 ≤ x ∧ x ≤ 2000000) :
   Calls Tryz.prog 186 #[.agg #[.slice ra rn rc, .slice ba bn bc, .slice oa on oc], .slice pa pn pc] w fun e w' => ∃ S qa wa ua qc un uc, e = .returned (.pointer (some ⟨S, 0, none⟩)) ∧
     StAt w' S ra ba oa qa wa ua rn rc bn bc on oc pn qc un uc m prices ((wantsM m prices).map nats) (nats (mustM m prices)) ∧ Below w.heap.size w w' := by
 subst hpn
 have hok := mcheck_ok hc
 have hrl := hm.res.len
 have hbl := hm.bids.len
 have hpl := hp.len
 have hn1 := hok.n1
 have hn8 := hok.n8
 have hm1 := hok.m1
 have hm8 := hok.m8
 rw [hrl] at hn1 hn8
 rw [hbl] at hm1 hm8
 have HBL := Lib.hid hbl; clear hbl hrl
 have HB0 := Lib.hid (mw_start w ra ba oa pn rc bn bc on oc)
 have hPA := hp.below (mw_kept HB0.out).2.2.2.2 (Nat.le_refl _)
 obtain ⟨c0, c1, c2, _, _⟩ := mw_kept HB0.out
 have HCL := Lib.hid (clone_any pa pn pc prices (mw w ra ba oa pn rc bn bc on oc).drew hPA.drew (by omega))
 have hbig : prices.length ≤ 4611686018427387904 := by omega
 have HBD := Lib.hid (And.intro hbig hp.bd); clear hbig
 have HM := Lib.hid (And.intro hm (And.intro hc (And.intro hp hpp))); clear hm hc hp hpp hPA hok
 have HPL := Lib.hid hpl; clear hpl
 have hs0 : (mw w ra ba oa pn rc bn bc on oc).heap.size = w.heap.size + 1 := by simp [mw]
 go_enter Tryz.func186, Tryz.ntmps186
 go_wp2_with fail
 go_region_with (go_at_call 111; refine HCL.out.mono ?_; rintro e w1 ⟨v, rfl, ho, hb⟩; obtain ⟨qa, qc, hv, hq⟩ := ho.ints HBD.out.1 HBD.out.2; rw [HPL.out] at hv hq; subst hv; have d0 := cell_step hb c0; have d1 := cell_step hb c1; have d2 := cell_step hb c2; have HQ := Lib.hid (And.intro hq hb); clear hq hb ho)
 all_goals
   clear c0 c1 c2 d0 d1 d2
   have hb1 : Below (w.heap.size + 1) (mw w ra ba oa pn rc bn bc on oc) w1 := mw_below' (HB0.out.drew) HQ.out.2
   have hb2 : Below (w.heap.size + 1) (mw w ra ba oa pn rc bn bc on oc) (w1.alloc (.cells #[.slice ra pn rc, .slice ba bn bc, .slice oa on oc, .slice qa pn qc, .slice none 0 0, .slice none 0 0] 235)) := mw_below' hb1 ((Below.refl _ _).alloc (Nat.le_refl _) _)
   obtain ⟨d0, d1, d2, hs2, hbw⟩ := mw_kept hb2
   have HAL := Lib.hid (All_dem ra ba oa pa pn rc bn bc on oc pn pc m prices _ (HM.out.1.below hbw (Nat.le_refl _)) HM.out.2.1 (HM.out.2.2.1.below hbw (Nat.le_refl _)) rfl HM.out.2.2.2)
   have hw1 := hb1.size
   rw [hs0] at hw1
   have HB2 := Lib.hid (And.intro hb2 hbw); clear hb1 hb2 hbw
   go_wp2_with fail
   refine HAL.out.mono ?_
   rintro e w3 ⟨B1, B2, vals, rfl, ⟨lo, hfill, hb2lo, hlo⟩, hnone, hne, hB1, hB2, hb3⟩
   rw [World.size_alloc] at hB1 hB2
   have hrow : w3.heap[w1.heap.size]? = some (.cells #[.slice ra pn rc, .slice ba bn bc, .slice oa on oc, .slice qa pn qc, .slice none 0 0, .slice none 0 0] 235) := (hb3.block w1.heap.size (by simp)).trans (heap_alloc_new w1 _)
   have hat : AtAt w w1.heap.size ra ba oa qa pn rc bn bc on oc pn qc m prices B1 B2 lo w3.heap.size 0 vals (.slice none 0 0) w3 :=
     ⟨by rw [partW_zero]; exact hfill, fun j xs hj a c hv hpos b o e => (by
       rw [partW_zero] at hj
       obtain ⟨a', c', h1, h2, _⟩ := hfill.done j xs hj
       rw [h1] at hv
       cases hv
       have := block_lt_of_cell (h2.cell b o e 0 _ (List.getElem?_eq_getElem hpos))
       simpa using this), hnone, hrow, by simpa [partM, nats] using Own.nil w3 w3.heap.size, (HQ.out.1.alloc _).below hb3 (Nat.le_refl _), fun b o e hpos => (by
       have := block_lt_of_cell (HQ.out.1.cell b o e 0 _ (List.getElem?_eq_getElem (by rw [HPL.out]; exact hpos)))
       simpa using this), by omega, by omega, hne, hb2lo, hlo, Nat.le_refl _, hw1, mw_below' HB2.out.1 hb3⟩
   obtain ⟨S, hS⟩ : ∃ S, S = w1.heap.size := ⟨_, rfl⟩
   rw [← hS] at hat ⊢
   obtain ⟨base, hbase⟩ : ∃ b, b = w3.heap.size := ⟨_, rfl⟩
   rw [← hbase] at hat
   have HAT := Lib.hid hat; clear hat
   have hS0 := HAT.out.s0
   clear hS hbase hrow hfill hb2lo hlo hnone hne hB1 hB2 hb3 d0 d1 d2 hs2 hw1 HAL HCL
   go_wp2_with fail
   go_loopg [9, 24] bn (fun g' s9 s24 wr => ∃ (i : Nat) (vals : List Value) (v : Value), i + g' = bn ∧ s24 = .int .i64 i ∧ AtAt w S ra ba oa qa pn rc bn bc on oc pn qc m prices B1 B2 lo base i vals v wr)
   case atStart => exact ⟨0, _, _, by omega, rfl, HAT.out⟩
   case round =>
     obtain ⟨i, vals, v, hi, rfl, hat⟩ := hrel
     have HI := Lib.hid hi; clear hi
     by_cases hlt : i < bn
     · obtain ⟨bid, hbid⟩ : ∃ bid, m.bids[i]? = some bid := ⟨_, List.getElem?_eq_getElem (by rw [HBL.out]; exact hlt)⟩
       have kn := hat.none'.cell (k := i) (v := .bool (isNone bid prices)) (by unfold demNone isNone; rw [List.getElem?_map, hbid]; rfl)
       have k5 := cells_of_rowK hat.row (k := 5) rfl
       have p5 := frozen_of_row wr S 5 _ _ hat.row
       have hvl := hat.fill.len
       obtain ⟨v0, hv0⟩ : ∃ v0, vals[i]? = some v0 := ⟨_, List.getElem?_eq_getElem (by omega)⟩
       have k1 := hat.fill.row.cell hv0
       have p1 := hat.fill.row.frozen i
       have HB := Lib.hid hbid; clear hbid hvl hv0
       cases hn : isNone bid prices with
       | true =>
         rw [hn] at kn
         have HNX := Lib.hid (hat.none1 HBL.out HB.out hn)
         clear hat hn k5 p5
         go_wp2_with fail
         go_roundg (gk - 1)
         case measure => have := HI.out; omega
         case rel => exact ⟨i + 1, _, _, by have := HI.out; omega, by go_num, HNX.out⟩
       | false =>
         rw [hn] at kn
         have hown := hat.own.alloc (.cells #[.int .i64 (i : Int)] 3)
         have hble := hat.le
         have hml := partM_len m prices i
         have HATT := Lib.hid (And.intro hat hn); clear hat hn k1 p1
         have HOWN := Lib.hid hown; clear hown
         clear p5
         go_wp2_with (at_builtin; refine app1 _ rfl _ _ rfl base _ _ rfl HOWN.out wr.heap.size 0 1 (i : Int) rfl (by simp [go_sem]) (by simp [nats]; omega) (by simp; omega) ?_)
         intro g' cap w5 hown5 _ hb5
         have hr5 : w5.heap[S]? = some (.cells #[.slice ra pn rc, .slice ba bn bc, .slice oa on oc, .slice qa pn qc, .slice none 0 0, v] 235) :=
           (hb5.block S (by have := HATT.out.1.s1; have := HATT.out.1.fill.blt; have := HATT.out.1.lob; omega)).trans ((Below.heap_alloc _ _ _ (by have := HATT.out.1.s1; have := HATT.out.1.fill.blt; have := HATT.out.1.lob; omega)).trans HATT.out.1.row)
         have q5 := cells_of_rowK hr5 (k := 5) rfl
         have p5 := frozen_of_row w5 S 5 _ _ hr5
         have HNX := Lib.hid (HATT.out.1.some1 HB.out HATT.out.2 hown5 hb5)
         clear hown5 hb5 hr5 k5
         go_wp2_with fail
         go_roundg (gk - 1)
         case measure => have := HI.out; omega
         case rel => exact ⟨i + 1, _, _, by have := HI.out; omega, by go_num, HNX.out⟩
     · obtain rfl : i = bn := by have := HI.out; omega
       have k4 := cells_of_rowK hat.row (k := 4) rfl
       have p4 := frozen_of_row wr S 4 _ _ hat.row
       have HATT := Lib.hid hat; clear hat
       go_wp2_with fail
       go_ret
       have hat := HATT.out
       have hbl := HBL.out
       obtain ⟨ua, uc, hv, hmu⟩ := hat.own.ints (by have := partM_len m prices i; simp [nats]; omega) (by
         intro x hx
         obtain ⟨k, hk, rfl⟩ := List.mem_map.1 hx
         have := List.mem_range.1 (List.mem_filter.1 hk).1
         omega)
       have hbs := hat.own.base
       subst hv
       have hs1 := hat.s1
       have hblt := hat.fill.blt
       have hlob := hat.lob
       have hr := heap_setCell_same wr S 4 _ _ (.slice (some ⟨B1, 0, none⟩) i i) hat.row
       have hbw := (mw_kept (hat.mw'.setCell (p := ⟨S, 4, none⟩) (by show _ ≤ S; omega) (.slice (some ⟨B1, 0, none⟩) i i))).2.2.2.2
       have hw2 := (hat.fill.under (p := ⟨S, 4, none⟩) (by show S < lo; omega) (by show S ≠ B1; omega) (.slice (some ⟨B1, 0, none⟩) i i)).rows (by rw [partW_len m prices (by omega)]; exact hbl) (by omega)
       have e1 : partW m prices i = (wantsM m prices).map nats := by rw [← hbl]; exact partW_all m prices
       have e2 : partM m prices i = mustM m prices := by rw [← hbl]; rfl
       rw [e1] at hw2
       rw [e2] at hmu
       refine ⟨S, qa, some ⟨B1, 0, none⟩, ua, qc, (nats (mustM m prices)).length, uc, rfl, ⟨cells_of_rowK hr rfl, cells_of_rowK hr rfl, cells_of_rowK hr rfl, cells_of_rowK hr rfl, cells_of_rowK hr rfl, cells_of_rowK hr ?_, HM.out.1.below hbw (Nat.le_refl _), ?_, hw2, ?_⟩, hbw⟩
       · rw [e2]; rfl
       · exact hat.pr.far (fun hn b o e => by have := hat.prb b o e hn; show b ≠ S; omega) _
       · exact hmu.away (fun b o e => by have := hbs b (by rw [e]; rfl); show b ≠ S; omega) _
end Go.Proofs.YtkddkkcfpnndlaaGreatDoor

namespace Go.Proofs.YtkddkkcfpnndlaaGreatDoor
open Go.RowKit Go.Shelf Sale

def farTo (m : Mkt) (q : List Int) (wants : List (List Nat)) (l mu : List Nat) (j : Nat) : List Int := farAll m.bids q wants l (mu.take j)
theorem farTo_succ {m : Mkt} {q : List Int} {wants : List (List Nat)} {l mu : List Nat} {j i : Nat} (h : mu[j]? = some i) : farTo m q wants l mu (j + 1) = farTo m q wants l mu j ++ farRow m.bids q wants l i := by
 unfold farTo farAll
 rw [List.take_add_one, h, List.flatMap_append]
 simp
def rowTo (bids : List (List Int)) (q : List Int) (l : List Nat) (i : Nat) (G : Int) (k : Nat) : List Int := ((List.range k).filter fun x => !l.contains x).map fun x => G - gnOf bids q i x
theorem rowTo_in {bids : List (List Int)} {q : List Int} {l : List Nat} {i : Nat} {G : Int} {k : Nat} (h : l.contains k = true) : rowTo bids q l i G (k + 1) = rowTo bids q l i G k := by
 unfold rowTo
 rw [List.range_succ, List.filter_append, List.map_append, show List.filter (fun x => !l.contains x) [k] = [] by rw [List.filter_cons, h]; rfl]
 simp
theorem rowTo_out {bids : List (List Int)} {q : List Int} {l : List Nat} {i : Nat} {G : Int} {k : Nat} (h : l.contains k = false) : rowTo bids q l i G (k + 1) = rowTo bids q l i G k ++ [G - gnOf bids q i k] := by
 unfold rowTo
 rw [List.range_succ, List.filter_append, List.map_append, show List.filter (fun x => !l.contains x) [k] = [k] by rw [List.filter_cons, h]; rfl]
 rfl
theorem rowTo_len (bids : List (List Int)) (q : List Int) (l : List Nat) (i : Nat) (G : Int) (k : Nat) : (rowTo bids q l i G k).length ≤ k := by
 have := List.length_filter_le (fun x => !l.contains x) (List.range k)
 simpa [rowTo] using this
theorem nats_contains (l : List Nat) (k : Nat) : (nats l).contains (k : Int) = l.contains k := by
 rw [Bool.eq_iff_iff]
 simp only [List.contains_eq_mem, decide_eq_true_eq]
 exact mem_nats
theorem FarOk.gnb {m : Mkt} {q : List Int} {wants : List (List Nat)} {mu : List Nat} (h : FarOk m q wants mu) {i k : Nat} (hi : i ∈ mu) (hk : k < q.length) : -2000000 ≤ gnOf m.bids q i k ∧ gnOf m.bids q i k ≤ 1000000 := by
 obtain ⟨_, x, y, _, _, _, h1, h2, e⟩ := h.gn hi hk
 omega
theorem FarOk.allb {m : Mkt} {q : List Int} {wants : List (List Nat)} {mu l : List Nat} (h : FarOk m q wants mu) : ∀ x, x ∈ farAll m.bids q wants l mu → -3000000 ≤ x ∧ x ≤ 3000000 := by
 intro x hx
 unfold farAll at hx
 obtain ⟨i, hi, hx⟩ := List.mem_flatMap.1 hx
 unfold farRow at hx
 split at hx
 · cases hx
 · have h0 : (wants.getD i []).getD 0 0 < q.length := by
     have hne := h.ne i hi
     refine h.want i hi _ ?_
     generalize wants.getD i [] = L at hne
     rw [List.getD_eq_getElem?_getD, List.getElem?_eq_getElem (List.length_pos_iff.2 hne)]
     exact List.getElem_mem _
   have g0 := h.gnb hi h0
   rcases List.mem_cons.1 hx with rfl | hx
   · omega
   · obtain ⟨k, hk, rfl⟩ := List.mem_map.1 hx
     have hk := List.mem_range.1 (List.mem_filter.1 hk).1
     have := h.gnb hi hk
     omega
theorem foldl_lmin {x : Int} {xs : List Int} : xs.foldl min x = lmin (x :: xs) := rfl

structure FarAt (w : World) (B1 B2 : Nat) (la : Option Addr) (ln lc : Nat) (wr : World) : Prop where
 b1 : Boxed wr B1 25 (.slice la ln lc)
 b2 : Boxed wr B2 205 (.func (.func 218) #[] #[.pointer (some ⟨B1, 0, none⟩)])
 below : Below w.heap.size w wr
theorem FarAt.step {w : World} {B1 B2 : Nat} {la : Option Addr} {ln lc : Nat} {wr wr' : World} (h : FarAt w B1 B2 la ln lc wr) (hb : Below wr.heap.size wr wr') : FarAt w B1 B2 la ln lc wr' :=
 ⟨boxed_on h.b1 hb, boxed_on h.b2 hb, h.below.trans (hb.mono h.below.size)⟩
theorem FarAt.upTo {w : World} {B1 B2 B : Nat} {la : Option Addr} {ln lc : Nat} {wr wr' : World} (h : FarAt w B1 B2 la ln lc wr) (hb : Below B wr wr') (h1 : B1 < B) (h2 : B2 < B) (hB : w.heap.size ≤ B) : FarAt w B1 B2 la ln lc wr' :=
 ⟨by have := h.b1; unfold Boxed at *; rw [hb.block B1 h1]; exact this, by have := h.b2; unfold Boxed at *; rw [hb.block B2 h2]; exact this, h.below.trans (hb.mono hB)⟩

set_option maxRecDepth 100000 in
set_option maxHeartbeats 4000000 in
theorem far_any {S : Nat} {ra ba oa qa wa ua la : Option Addr} {rn rc bn bc on oc qn qc un uc ln lc : Nat} {m : Mkt} {q : List Int} {wants : List (List Nat)} {mu l : List Nat} {w : World}
   (h : StAt w S ra ba oa qa wa ua rn rc bn bc on oc qn qc un uc m q (wants.map nats) (nats mu)) (hf : FarOk m q wants mu) (hl : Ints w la ln lc (nats l)) (hne : farAll m.bids q wants l mu ≠ []) :
   Calls Tryz.prog 205 #[.pointer (some ⟨S, 0, none⟩), .slice la ln lc] w fun e w' => e = .returned (.int .i64 (lmin (farAll m.bids q wants l mu))) ∧ Below w.heap.size w w' := by
 have hql := h.pr.len
 have hmul : mu.length = un := by have := h.must.len; simpa [nats] using this
 have hwl : wants.length = bn := by have := h.wants.len; simpa using this
 have hbl := h.mkt.bids.len
 have hu8 : un ≤ 8 := by have := hf.mu8; omega
 have hq8 : qn ≤ 8 := by have := hf.q8; omega
 have hw0 : Below w.heap.size w ((w.alloc (.cells #[.slice la ln lc] 25)).alloc (.cells #[.func (.func 218) #[] #[.pointer (some ⟨w.heap.size, 0, none⟩)]] 205)) := ((Below.refl _ _).alloc (Nat.le_refl _) _).alloc (by simp) _
 have hat : FarAt w w.heap.size (w.heap.size + 1) la ln lc ((w.alloc (.cells #[.slice la ln lc] 25)).alloc (.cells #[.func (.func 218) #[] #[.pointer (some ⟨w.heap.size, 0, none⟩)]] 205)) :=
   ⟨(Boxed.new w _ _).alloc _, boxed_new _ _ (by simp) _ _, hw0⟩
 have k3 := cell_step hw0 h.c5
 have HAT := Lib.hid hat; clear hat
 have HS := Lib.hid h; clear h
 have HF := Lib.hid hf; clear hf
 have HL := Lib.hid hl; clear hl
 have HQL := Lib.hid hql; clear hql
 have HMUL := Lib.hid hmul; clear hmul
 have HWL := Lib.hid hwl; clear hwl
 have HBL := Lib.hid hbl; clear hbl
 have HNE := Lib.hid hne; clear hne
 clear hw0
 go_enter Tryz.func205, Tryz.ntmps205
 go_wp2_with fail
 obtain ⟨Bs, hBs⟩ : ∃ Bs, Bs = w.heap.size + 2 := ⟨_, rfl⟩
 have HBS := Lib.hid hBs; clear hBs
 go_loopg [6, 17] un (fun g s6 s17 wr => ∃ (j : Nat) (v : Value), j + g = un ∧ s17 = .int .i64 j ∧ s6 = v ∧ Own wr Bs v (farTo m q wants l mu j) ∧ Bs ≤ wr.heap.size ∧ FarAt w w.heap.size (w.heap.size + 1) la ln lc wr)
 case atStart => exact ⟨0, _, by omega, rfl, rfl, by simpa [farTo, farAll] using Own.nil _ Bs, by have := HBS.out; simp; omega, HAT.out⟩
 case round =>
   clear k3
   obtain ⟨j, v, hj, rfl, rfl, hown, hbase, hat⟩ := hrel
   have HJ := Lib.hid hj; clear hj
   by_cases hlt : j < un
   · obtain ⟨i, hi⟩ : ∃ i, mu[j]? = some i := ⟨_, List.getElem?_eq_getElem (by rw [HMUL.out]; exact hlt)⟩
     have him := List.mem_of_getElem? hi
     have hib := HF.out.lt i him
     rw [HBL.out] at hib
     have hst := HS.out.below hat.below (Nat.le_refl _)
     have k3 := hst.c3
     have k4 := hst.c4
     have k5 := hst.c5
     obtain ⟨ub, uo, rfl⟩ := HS.out.must.addr (by omega)
     have ci := hst.must.cell ub uo rfl j (i : Int) (by simp [nats, hi])
     obtain ⟨wb, wo, rfl⟩ := HS.out.wants.addr (by omega)
     obtain ⟨L, hL⟩ : ∃ L, wants[i]? = some L := ⟨_, List.getElem?_eq_getElem (by rw [HWL.out]; exact hib)⟩
     have hgL : wants.getD i [] = L := by rw [List.getD_eq_getElem?_getD, hL]; rfl
     obtain ⟨na, nn, nc, cw, hni⟩ := hst.wants.row (Below.refl wr.heap.size wr) (Nat.le_refl _) (k := i) rfl (by rw [List.getElem?_map, hL]; rfl)
     have hLn := HF.out.ne i him
     rw [hgL] at hLn
     have hnl : L.length = nn := by have := hni.len; simpa [nats] using this
     have hLp := List.length_pos_iff.2 hLn
     obtain ⟨k0, hL0⟩ : ∃ k0, L[0]? = some k0 := ⟨_, List.getElem?_eq_getElem hLp⟩
     have hLd : L.getD 0 0 = k0 := by rw [List.getD_eq_getElem?_getD, hL0]; rfl
     have hk0 := HF.out.want i him k0 (by rw [hgL]; exact List.mem_of_getElem? hL0)
     obtain ⟨nb, no, rfl⟩ := hni.addr (by omega)
     have hb1 := hat.b1
     have hb2 := hat.b2
     have kb2 := hb2.cell
     have cw0 : wr.cell? ⟨nb, no, none⟩ = some (.int .i64 (k0 : Int)) := by simpa using hni.cell nb no rfl 0 (k0 : Int) (by simp [nats, hL0])
     have hLi := HL.out.below hat.below (Nat.le_refl _)
     have HCF := Lib.hid (containsI_any (some ⟨nb, no, none⟩) nn nc (nats L) 219 (.pointer (some ⟨w.heap.size + 1, 0, none⟩)) (fun x => !(nats l).contains x) wr hni (fun _ _ => enters_of Tryz.func219 (by kernel_rfl) rfl _ _)
       (fun w' x hb' => farOut_any w.heap.size (w.heap.size + 1) la ln lc l x w' (boxed_on hb1 hb').cell (boxed_on hb2 hb').cell (hLi.below hb' (Nat.le_refl _))))
     have HAL := Lib.hid (farTo_succ (m := m) (q := q) (wants := wants) (l := l) hi)
     have HAT2 := Lib.hid hat; clear hat hst hb1 hb2 hLi
     have HOWN := Lib.hid hown; clear hown
     have HGL := Lib.hid hgL; clear hgL
     have HL0 := Lib.hid hL0; clear hL0
     have HLD := Lib.hid hLd; clear hLd
     have HCW := Lib.hid cw
     have HLL := Lib.hid hL; clear hL
     have HI := Lib.hid (And.intro hi him); clear hi him
     have hnp : 0 < nn := by omega
     have HNI := Lib.hid hni; clear hni hLn hnl hLp
     cases hcf : (nats L).any (fun x => !(nats l).contains x) with
     | true =>
       have hrow : farRow m.bids q wants l i = [] := by
         unfold farRow
         rw [HGL.out, if_pos (by rw [← nats_any]; exact hcf)]
       have HRW := Lib.hid hrow; clear hrow
       have HCC := Lib.hid hcf; clear hcf
       go_wp2_with fail
       refine HCF.out.mono ?_
       rw [HCC.out]
       rintro e w2 ⟨rfl, hb2⟩
       have HB2 := Lib.hid hb2; clear hb2
       go_wp2_with fail
       go_roundg (gk - 1)
       case measure => have := HJ.out; omega
       case rel => exact ⟨j + 1, _, by have := HJ.out; omega, by go_num, rfl, by rw [HAL.out, HRW.out, List.append_nil]; exact HOWN.out.below HB2.out (Nat.le_refl _), by have := HB2.out.size; omega, HAT2.out.step HB2.out⟩
     | false =>
       have hrow : farRow m.bids q wants l i = gnOf m.bids q i k0 :: rowTo m.bids q l i (gnOf m.bids q i k0) q.length := by
         unfold farRow
         rw [HGL.out, if_neg (by rw [← nats_any, hcf]; decide), HLD.out]
         rfl
       have HRW := Lib.hid hrow; clear hrow
       have HCC := Lib.hid hcf; clear hcf
       go_wp2_with fail
       refine HCF.out.mono ?_
       rw [HCC.out]
       rintro e w2 ⟨rfl, hb2⟩
       clear k3 k4 k5 ci cw cw0 kb2
       have hat2 := HAT2.out.step hb2
       have hst2 := HS.out.below hat2.below (Nat.le_refl _)
       have k4 := hst2.c4
       have cw := cell_step hb2 HCW.out
       have cw0 : w2.cell? ⟨nb, no, none⟩ = some (.int .i64 (k0 : Int)) := by simpa using (HNI.out.below hb2 (Nat.le_refl _)).cell nb no rfl 0 (k0 : Int) (by simp [nats, HL0.out])
       obtain ⟨bid, x, y, hx1, hx2, hx3, hx4, hx5, hx6⟩ := HF.out.gn HI.out.2 hk0
       have HHS := Lib.hid (rhas_any hst2 hx1 hx2 hx3 hx4 hx5)
       rw [← hx6] at HHS
       have hG := HF.out.gnb HI.out.2 hk0
       clear hx1 hx2 hx3 hx4 hx5 hx6
       obtain ⟨G, hGe⟩ : ∃ G, G = gnOf m.bids q i k0 := ⟨_, rfl⟩
       rw [← hGe] at HHS HRW hG
       clear hGe
       obtain ⟨hG1, hG2⟩ := hG
       have hbs2 := hb2.size
       have HOWN2 := Lib.hid (HOWN.out.below hb2 (Nat.le_refl _))
       have HAT3 := Lib.hid hat2
       clear hat2 hst2 hb2 HCF HOWN HAT2
       go_wp2_with fail
       refine HHS.out.mono ?_
       rintro e w3 ⟨rfl, hb3⟩
       have hbs3 := hb3.size
       have HOWN3 := Lib.hid ((HOWN2.out.below hb3 (Nat.le_refl _)).alloc (.cells #[.int .i64 G] 3))
       have HAT4 := Lib.hid ((HAT3.out.step hb3).step ((Below.refl _ _).alloc (Nat.le_refl _) (.cells #[.int .i64 G] 3)))
       have hlen : (farTo m q wants l mu j).length < 1000 := by
         have h1 := farAll_len m.bids q wants l (mu.take j)
         have h2 := HQL.out
         have h3 := HMUL.out
         have h4 : (mu.take j).length ≤ 8 := by rw [List.length_take]; omega
         have h5 : (mu.take j).length * (q.length + 1) ≤ 8 * 9 := Nat.mul_le_mul h4 (by omega)
         unfold farTo; omega
       clear hb3 HAT3 HOWN2 k4 cw cw0
       go_wp2_with (at_builtin; refine app1 _ rfl _ _ rfl Bs _ _ rfl HOWN3.out w3.heap.size 0 1 G rfl (by simp [go_sem]) (by omega) (by simp; omega) ?_)
       intro g' cap w5 hown5 _ hb5
       have hB0 := HBS.out
       have hat5 := HAT4.out.upTo hb5 (by omega) (by omega) (by omega)
       have hst5 := HS.out.below hat5.below (Nat.le_refl _)
       have k3 := hst5.c3
       have hbs5 := hb5.size
       have HOWN5 := Lib.hid hown5
       have HAT5 := Lib.hid hat5
       clear hown5 hb5 hat5 hst5 hB0 HAT4 HOWN3
       go_wp2_with fail
       have hen := enters_of Tryz.func218 (by kernel_rfl) rfl
       obtain ⟨go, rfl⟩ : ∃ go : Nat, go = gk := ⟨_, rfl⟩
       obtain ⟨wo2, rfl⟩ : ∃ wo : World, wo = wr := ⟨_, rfl⟩
       go_loopg [6, 51] qn (fun g s6 s51 wr => ∃ (k : Nat) (v : Value), k + g = qn ∧ s51 = .int .i64 k ∧ s6 = v ∧ Own wr Bs v (farTo m q wants l mu j ++ G :: rowTo m.bids q l i G k) ∧ Bs ≤ wr.heap.size ∧ FarAt w w.heap.size (w.heap.size + 1) la ln lc wr)
       case atStart => exact ⟨0, _, by omega, rfl, rfl, HOWN5.out, by simp at hbs5; omega, HAT5.out⟩
       case round =>
         clear k3
         obtain ⟨k, v2, hk, rfl, rfl, hown, hbase2, hat⟩ := hrel
         have HK := Lib.hid hk; clear hk
         by_cases hlt2 : k < qn
         · have kb1 := hat.b1.cell
           have kb2 := hat.b2.cell
           have HIN := Lib.hid (farIn_any w.heap.size la ln lc l (k : Int) wr kb1 (HL.out.below hat.below (Nat.le_refl _)))
           have hcc := nats_contains l k
           rw [hcc] at HIN
           clear hcc kb1
           cases hct : l.contains k with
           | true =>
             have HR := Lib.hid (rowTo_in (bids := m.bids) (q := q) (i := i) (G := G) hct)
             have HCT := Lib.hid hct; clear hct
             have HAT6 := Lib.hid hat; clear hat
             have HOWN6 := Lib.hid hown; clear hown
             go_wp2_with fail
             refine HIN.out.mono ?_
             rw [HCT.out]
             rintro e w6 ⟨rfl, hb6⟩
             have hbs6 := hb6.size
             have HB6 := Lib.hid hb6; clear hb6
             go_wp2_with fail
             go_roundg (gk - 1)
             case measure => have := HK.out; omega
             case rel => exact ⟨k + 1, _, by have := HK.out; omega, by go_num, rfl, by rw [HR.out]; exact HOWN6.out.below HB6.out (Nat.le_refl _), by omega, HAT6.out.step HB6.out⟩
           | false =>
             have HR := Lib.hid (rowTo_out (bids := m.bids) (q := q) (i := i) (G := G) hct)
             have HCT := Lib.hid hct; clear hct
             have HAT6 := Lib.hid hat; clear hat
             have HOWN6 := Lib.hid hown; clear hown
             obtain ⟨bid, x, y, hx1, hx2, hx3, hx4, hx5, hx6⟩ := HF.out.gn HI.out.2 (k := k) (by rw [HQL.out]; exact hlt2)
             have HX := Lib.hid (And.intro hx1 (And.intro hx2 (And.intro hx3 (And.intro hx4 (And.intro hx5 hx6)))))
             clear hx1 hx2 hx3 hx4 hx5 hx6
             go_wp2_with fail
             refine HIN.out.mono ?_
             rw [HCT.out]
             rintro e w6 ⟨rfl, hb6⟩
             have hbs6 := hb6.size
             have HOWN7 := Lib.hid (HOWN6.out.below hb6 (Nat.le_refl _))
             have HAT7 := Lib.hid (HAT6.out.step hb6)
             have HHS := Lib.hid (rhas_any (HS.out.below HAT7.out.below (Nat.le_refl _)) HX.out.1 HX.out.2.1 HX.out.2.2.1 HX.out.2.2.2.1 HX.out.2.2.2.2.1)
             rw [← HX.out.2.2.2.2.2] at HHS
             have hH := HF.out.gnb HI.out.2 (k := k) (by rw [HQL.out]; exact hlt2)
             obtain ⟨H, hHe⟩ : ∃ H, H = gnOf m.bids q i k := ⟨_, rfl⟩
             rw [← hHe] at HHS HR hH
             clear hHe hb6 HIN HOWN6 HAT6 kb2 HX
             obtain ⟨hH1, hH2⟩ := hH
             go_wp2_with fail
             refine HHS.out.mono ?_
             rintro e w7 ⟨rfl, hb7⟩
             have hbs7 := hb7.size
             have HOWN8 := Lib.hid ((HOWN7.out.below hb7 (Nat.le_refl _)).alloc (.cells #[.int .i64 (G - H)] 3))
             have HAT8 := Lib.hid ((HAT7.out.step hb7).step ((Below.refl _ _).alloc (Nat.le_refl _) (.cells #[.int .i64 (G - H)] 3)))
             have hlen2 : (farTo m q wants l mu j ++ G :: rowTo m.bids q l i G k).length < 2000 := by
               have := rowTo_len m.bids q l i G k
               rw [List.length_append, List.length_cons]; omega
             clear hb7 HAT7 HOWN7
             go_wp2_with (at_builtin; refine app1 _ rfl _ _ rfl Bs _ _ rfl HOWN8.out w7.heap.size 0 1 (G - H) rfl (by simp [go_sem]) (by omega) (by simp; omega) ?_)
             intro g' cap w9 hown9 _ hb9
             have hB0 := HBS.out
             have HAT9 := Lib.hid (HAT8.out.upTo hb9 (by omega) (by omega) (by omega))
             have hbs9 := hb9.size
             have HOWN9 := Lib.hid hown9
             clear hown9 hb9 hB0 HAT8 HOWN8
             go_wp2_with fail
             go_roundg (gk - 1)
             case measure => have := HK.out; omega
             case rel => exact ⟨k + 1, _, by have := HK.out; omega, by go_num, rfl, by rw [HR.out]; exact HOWN9.out, by simp at hbs9; omega, HAT9.out⟩
         · obtain rfl : k = qn := by have := HK.out; omega
           have HAT6 := Lib.hid hat; clear hat
           have HOWN6 := Lib.hid hown; clear hown
           go_wp2_with fail
           go_roundg (go - 1)
           case measure => have := HJ.out; omega
           case rel => exact ⟨j + 1, _, by have := HJ.out; omega, by go_num, rfl, by rw [HAL.out, HRW.out, HQL.out]; exact HOWN6.out, hbase2, HAT6.out⟩
   · obtain rfl : j = un := by have := HJ.out; omega
     have e1 : farTo m q wants l mu j = farAll m.bids q wants l mu := by unfold farTo; rw [List.take_of_length_le (by rw [HMUL.out]; exact Nat.le_refl _)]
     rw [e1] at hown
     clear e1
     have hlen : (farAll m.bids q wants l mu).length ≤ 4611686018427387904 := by
       have h1 := farAll_len m.bids q wants l mu
       have h2 := HQL.out
       have h3 := HMUL.out
       have h5 : mu.length * (q.length + 1) ≤ 8 * 9 := Nat.mul_le_mul (by omega) (by omega)
       omega
     obtain ⟨fa, fc, hv, hfi⟩ := hown.ints hlen (fun x hx => by have := HF.out.allb x hx; omega)
     obtain ⟨fn, hfn⟩ : ∃ fn, fn = (farAll m.bids q wants l mu).length := ⟨_, rfl⟩
     rw [← hfn] at hv hfi
     subst hv
     obtain ⟨x0, xs, hxx⟩ : ∃ x0 xs, farAll m.bids q wants l mu = x0 :: xs := by
       cases hh : farAll m.bids q wants l mu with
       | nil => exact absurd hh HNE.out
       | cons x0 xs => exact ⟨_, _, rfl⟩
     rw [hxx] at hfi
     have HLE := Lib.hid (least_any fa fn fc x0 xs wr hfi)
     have HAT6 := Lib.hid hat; clear hat
     rw [foldl_lmin, ← hxx] at HLE
     clear hown hfi hxx hlen hfn
     go_wp2_with fail
     refine HLE.out.mono ?_
     rintro e w6 ⟨rfl, hb6⟩
     have HB6 := Lib.hid hb6; clear hb6
     go_wp2_with fail
     go_ret
     exact ⟨rfl, (HAT6.out.step HB6.out).below⟩
end Go.Proofs.YtkddkkcfpnndlaaGreatDoor

namespace Go.Proofs.YtkddkkcfpnndlaaGreatDoor
open Go.RowKit Sale

set_option maxHeartbeats 1000000 in
theorem less09_any (aa ba : Option Addr) (n ac bc : Nat) (X Y : List Nat) (w : World) (hx : Ints w aa n ac (nats X)) (hy : Ints w ba n bc (nats Y)) :
   Calls Tryz.prog 208 #[.slice aa n ac, .slice ba n bc] w fun e w' => e = .returned (.bool (Way.lexlt X Y)) ∧ Below w.heap.size w w' := by
 have hxl : X.length = n := by have := hx.len; simpa [nats] using this
 have hyl : Y.length = n := by have := hy.len; simpa [nats] using this
 have hbig := hx.big
 have HX := Lib.hid hx; clear hx
 have HY := Lib.hid hy; clear hy
 have HL := Lib.hid (And.intro hxl hyl); clear hxl hyl
 obtain ⟨lv, hlv⟩ : ∃ lv, lv = Way.lexlt X Y := ⟨_, rfl⟩
 rw [← hlv]
 have HLV := Lib.hid hlv; clear hlv
 go_enter Tryz.func208, Tryz.ntmps208
 go_wp2_with fail
 go_loopg [5] n (fun g' s5 wr => ∃ k : Nat, k + g' = n ∧ s5 = .int .i64 k ∧ X.take k = Y.take k ∧ Below w.heap.size w wr)
 case atStart => exact ⟨0, by omega, rfl, rfl, Below.refl _ _⟩
 case round =>
   obtain ⟨k, hk, rfl, he, hB⟩ := hrel
   have HK := Lib.hid hk; clear hk
   have hlx : Way.lexlt X Y = Way.lexlt (X.drop k) (Y.drop k) := by
     have h1 := Way.lexlt_append (X.take k) (X.drop k) (Y.drop k)
     rw [List.take_append_drop, he, List.take_append_drop] at h1
     exact h1
   by_cases hlt : k < n
   · have hxk : X[k]? = some (X[k]'(by have := HL.out.1; omega)) := List.getElem?_eq_getElem _
     have hyk : Y[k]? = some (Y[k]'(by have := HL.out.2; omega)) := List.getElem?_eq_getElem _
     obtain ⟨x, hxx⟩ : ∃ x, x = X[k]'(by have := HL.out.1; omega) := ⟨_, rfl⟩
     obtain ⟨y, hyy⟩ : ∃ y, y = Y[k]'(by have := HL.out.2; omega) := ⟨_, rfl⟩
     rw [← hxx] at hxk
     rw [← hyy] at hyk
     obtain ⟨xb, xo, rfl⟩ := HX.out.addr (by omega)
     obtain ⟨yb, yo, rfl⟩ := HY.out.addr (by omega)
     have cx := cell_step00 hB (HX.out.cell xb xo rfl k (x : Int) (by unfold nats; rw [List.getElem?_map, hxk]; rfl))
     have cy := cell_step00 hB (HY.out.cell yb yo rfl k (y : Int) (by unfold nats; rw [List.getElem?_map, hyk]; rfl))
     have hdx : X.drop k = x :: X.drop (k + 1) := by rw [hxx]; exact List.drop_eq_getElem_cons _
     have hdy : Y.drop k = y :: Y.drop (k + 1) := by rw [hyy]; exact List.drop_eq_getElem_cons _
     rw [hdx, hdy, Way.lexlt] at hlx
     have htk : x = y → X.take (k + 1) = Y.take (k + 1) := fun e => by rw [List.take_add_one, List.take_add_one, he, hxk, hyk, e]
     have HTK := Lib.hid htk; clear htk
     have HB := Lib.hid hB; clear hB
     have i1 : (k : Int) < (n : Int) := by omega
     clear hxk hyk hxx hyy hdx hdy he
     by_cases hq : x = y
     · have e1 : ((x : Int) != (y : Int)) = false := by simp [hq]
       have HQ := Lib.hid hq; clear hq hlx
       go_wp2_with fail
       go_quiet (fail)
       go_wp2_with fail
       go_roundg (gk - 1)
       case measure => have := HK.out; omega
       case rel => exact ⟨k + 1, by have := HK.out; omega, by go_num, HTK.out HQ.out, below_drewN HB.out _⟩
     · have e1 : ((x : Int) != (y : Int)) = true := by simp; omega
       rw [if_neg hq] at hlx
       have hv : decide (x < y) = lv := by rw [HLV.out, hlx]
       have HV := Lib.hid hv; clear hv hlx hq
       go_wp2_with fail
       go_quiet (fail)
       go_wp2_with fail
       go_quiet (fail)
       go_wp2_with fail
       go_ret
       exact ⟨ret_bool HV.out, below_drewN (below_drewN HB.out _) _⟩
   · obtain rfl : k = n := by have := HK.out; omega
     have hv : lv = false := by
       rw [HLV.out, hlx, List.drop_of_length_le (by have := HL.out.1; omega)]; rfl
     subst hv
     have HB := Lib.hid hB; clear hB hlx
     go_wp2_with fail
     go_ret
     exact ⟨rfl, HB.out⟩
end Go.Proofs.YtkddkkcfpnndlaaGreatDoor

namespace Go.Proofs.YtkddkkcfpnndlaaGreatDoor
open Go.RowKit Sale

def BestAt (w : World) (base : Nat) (v : Value) (fb : Bool) (o : Option (List Nat)) : Prop := match o with
 | none => v = .slice none 0 0 ∧ fb = false
 | some X => fb = true ∧ Own w base v (nats X)
theorem BestAt.below {w w' : World} {base B : Nat} {v : Value} {fb : Bool} {o : Option (List Nat)} (h : BestAt w base v fb o) (hb : Below B w w') (hB : w.heap.size ≤ B) : BestAt w' base v fb o := by
 cases o with
 | none => exact h
 | some X => exact ⟨h.1, Own.below h.2 hb hB⟩
theorem BestAt.lower {w : World} {base base' : Nat} {v : Value} {fb : Bool} {o : Option (List Nat)} (h : BestAt w base v fb o) (hb : base' ≤ base) : BestAt w base' v fb o := by
 cases o with
 | none => exact h
 | some X => exact ⟨h.1, Own.lower h.2 hb⟩
def FewR (o : Option (List Nat)) (w : World) (e : Ending) (w' : World) : Prop := ∃ v fb, e = .returned (.tuple #[v, .bool fb, .int .i64 0]) ∧ BestAt w' w.heap.size v fb o ∧ Below w.heap.size w w'
theorem bitsL_succ_yes {n k : Nat} (h : n.testBit k = true) : nats (Way.bitsL (k + 1) n) = nats (Way.bitsL k n) ++ [(k : Int)] := by
 unfold Way.bitsL nats; rw [List.range_succ, List.filter_append]; simp [h]
theorem bitsL_succ_no {n k : Nat} (h : n.testBit k = false) : nats (Way.bitsL (k + 1) n) = nats (Way.bitsL k n) := by
 unfold Way.bitsL nats; rw [List.range_succ, List.filter_append]; simp [h]
theorem bitsL_len (n k : Nat) : (nats (Way.bitsL k n)).length ≤ k := by
 unfold Way.bitsL nats
 have := List.length_filter_le (fun j => n.testBit j) (List.range k)
 simpa using this
theorem bitsL_bd {n k : Nat} (hk : k ≤ 8) : ∀ x, x ∈ nats (Way.bitsL k n) → -9223372036854775808 ≤ x ∧ x ≤ 9223372036854775807 := fun x hx => by
 obtain ⟨j, hj, rfl⟩ := List.mem_map.1 hx
 have := Way.bitsL_lt hj
 omega
theorem within_succ {nb : Nat → List Nat} {sm X : List Nat} {i q : Nat} (h : sm[i]? = some q) : (Sale.within nb (sm.take (i + 1)) X).length = (Sale.within nb (sm.take i) X).length + (if (nb q).all (fun k => X.contains k) then 1 else 0) := by
 unfold Sale.within
 rw [List.take_add_one, h, List.filter_append, List.length_append]
 congr 1
 simp only [Option.toList_some]
 by_cases hq : (nb q).all (fun k => X.contains k) = true
 · rw [if_pos hq, List.filter_cons, if_pos hq]; rfl
 · rw [if_neg hq, List.filter_cons, if_neg hq]; rfl

set_option maxRecDepth 100000 in
set_option maxHeartbeats 8000000 in
theorem few09_yes (ga sa : Option Addr) (gn gc sn sc : Nat) (G : List (List Nat)) (N : Nat) (sm : List Nat) (w : World) (hin : FewIn w ga sa gn gc sn sc G N sm) :
   Calls Tryz.prog 189 #[.slice ga gn gc, .int .i64 N, .slice sa sn sc] w (FewR (Way.fewOf (nbOf G) N sm) w) := by
 have hN8 := hin.n8
 have hs8 := hin.s8
 have hgl := hin.g.len
 have hsl : sm.length = sn := by have := hin.s.len; simpa [nats] using this
 rw [← Way.fewTo_is]
 obtain ⟨M, hM⟩ : ∃ M : Nat, M = 2 ^ N := ⟨_, rfl⟩
 have hM256 : M ≤ 256 := by rw [hM]; exact Nat.pow_le_pow_right (n := 2) (by omega) hN8
 have hsh : wrap64 ((2 : Int) ^ N) = (M : Int) := by
   have e : ((2 : Int) ^ N) = ((2 ^ N : Nat) : Int) := by simp
   rw [e, ← hM]; unfold wrap64; omega
 have hsh2 : IntKind.i64.wrap ((2 : Int) ^ N) = (M : Int) := by
   have e : ((2 : Int) ^ N) = ((2 ^ N : Nat) : Int) := by simp
   rw [e, ← hM]; exact IntWalk.i64_in _ (by omega)
 rw [← hM]
 have hcr : risesFrom ((gn : Nat) : Int) (-1) (nats sm) = true := by have := hin.ris; rw [hgl] at this; exact this
 have HCK := Lib.hid (check06_any ga gn gc (G.map nats) (N : Int) w hin.g)
 rw [hin.chk] at HCK
 have HIN := Lib.hid hin; clear hin
 have HGL := Lib.hid hgl; clear hgl
 have HSL := Lib.hid hsl; clear hsl
 have HMM := Lib.hid hM; clear hM
 have HCR := Lib.hid hcr; clear hcr
 go_enter Tryz.func189, Tryz.ntmps189
 go_wp2_with fail
 refine HCK.out.mono ?_
 rintro e w0 ⟨rfl, hb0⟩
 have HRI := Lib.hid (rises06_any sa sn sc (nats sm) (gn : Int) w0 (HIN.out.s.below hb0 (Nat.le_refl _)))
 rw [HCR.out] at HRI
 have HB0 := Lib.hid hb0; clear hb0 HCK
 go_wp2_with fail
 refine HRI.out.mono ?_
 rintro e w1 ⟨rfl, hb1⟩
 have HB1 := Lib.hid (HB0.out.trans (hb1.mono HB0.out.size)); clear hb1 HRI HB0
 have HG1 := Lib.hid (HIN.out.g.below HB1.out (Nat.le_refl _))
 have HS1 := Lib.hid (HIN.out.s.below HB1.out (Nat.le_refl _))
 go_wp2_with fail
 go_loopg [9, 10, 11] M (fun g' s9 s10 s11 wr => ∃ (n : Nat) (vb : Value) (fb : Bool), n + g' = M ∧ s11 = .int .i64 n ∧ s9 = vb ∧ s10 = .bool fb ∧ BestAt wr w1.heap.size vb fb (Way.fewTo (nbOf G) sm N n) ∧ Below w1.heap.size w1 wr)
 case atStart => exact ⟨0, _, _, by omega, rfl, rfl, rfl, ⟨rfl, rfl⟩, Below.refl _ _⟩
 case round =>
   obtain ⟨n, vb, fb, hn, rfl, hvb, rfl, hBA, hB⟩ := hrel
   replace hvb := hvb.symm
   subst hvb
   obtain ⟨w2, rfl⟩ : ∃ w2, w2 = wr := ⟨_, rfl⟩
   have HNN := Lib.hid hn; clear hn
   have HBA := Lib.hid hBA; clear hBA
   have hbs := hB.size
   have hbs1 := HB1.out.size
   have HB := Lib.hid hB; clear hB
   by_cases hlt : n < M
   · obtain ⟨gO, hgO⟩ : ∃ x, x = gk - 1 := ⟨_, rfl⟩
     have HGO := Lib.hid hgO; clear hgO
     have i0 : (n : Int) < (M : Int) := by omega
     have hn256 : n < 256 := by omega
     go_wp2_with fail
     go_loopg [12, 13] N (fun g' s12 s13 wr => ∃ (k : Nat) (v : Value), k + g' = N ∧ s13 = .int .i64 k ∧ s12 = v ∧ Own wr w2.heap.size v (nats (Way.bitsL k n)) ∧ Below w2.heap.size w2 wr)
     case atStart => exact ⟨0, _, by omega, rfl, rfl, by simp [Way.bitsL, nats, Own, World.ownsRow], Below.refl _ _⟩
     case round =>
       obtain ⟨k, v, hk, rfl, hv, hO, hB2⟩ := hrel
       replace hv := hv.symm
       subst hv
       have HK := Lib.hid hk; clear hk
       have HO := Lib.hid hO; clear hO
       have HB2 := Lib.hid hB2; clear hB2
       by_cases hkl : k < N
       · have hk8 : k < 8 := by omega
         have hpw := bit_pow k hk8
         have hpw3 := bit_pow' k hk8
         have hba := bit_and n k hn256 hk8
         have i1 : (k : Int) < (N : Int) := by omega
         cases hbit : n.testBit k with
         | false =>
           rw [hbit, if_neg (by decide)] at hba
           have HS := Lib.hid (bitsL_succ_no hbit); clear hbit
           go_wp2_with fail
           go_roundg (gk - 1)
           case measure => have := HK.out; omega
           case rel => exact ⟨k + 1, _, by have := HK.out; omega, by go_num, rfl, by rw [HS.out]; exact HO.out, HB2.out⟩
         | true =>
           rw [hbit, if_pos rfl] at hba
           have hs := bitsL_succ_yes hbit
           have hzl := bitsL_len n k
           obtain ⟨zs, hzs⟩ : ∃ zs, zs = nats (Way.bitsL k n) := ⟨_, rfl⟩
           rw [← hzs] at hs hzl HO
           have HS := Lib.hid hs; clear hs hbit hzs
           have HZL := Lib.hid hzl; clear hzl
           go_wp2_with (at_builtin; refine app1 _ rfl _ _ rfl w2.heap.size _ zs rfl (HO.out.alloc _) wr.heap.size 0 1 (k : Int) rfl (by simp [go_sem]) (by have := HZL.out; omega) (by have := HB2.out.size; simp; omega) ?_)
           intro g' cap' w' hown' hgr' hb'
           have HO3 := Lib.hid hown'; clear hown'
           have HB3 := Lib.hid ((HB2.out.alloc HB2.out.size (.cells #[.int .i64 (k : Int)] 3)).trans hb'); clear hb' hgr'
           go_wp2_with fail
           go_roundg (gk - 1)
           case measure => have := HK.out; omega
           case rel => exact ⟨k + 1, _, by have := HK.out; omega, by go_num, rfl, by rw [HS.out]; exact HO3.out, HB3.out⟩
       · obtain rfl : k = N := by have := HK.out; omega
         obtain ⟨w3, rfl⟩ : ∃ w3, w3 = wr := ⟨_, rfl⟩
         obtain ⟨X, hX⟩ : ∃ X, X = Way.bitsL k n := ⟨_, rfl⟩
         rw [← hX] at HO
         have hxl : (nats X).length ≤ k := by rw [hX]; exact bitsL_len n k
         have hxb := bitsL_bd (n := n) hN8
         rw [← hX] at hxb
         obtain ⟨a12, c12, rfl, hI12⟩ := HO.out.ints (by omega) hxb
         obtain ⟨xl, hxle⟩ : ∃ xl, xl = (nats X).length := ⟨_, rfl⟩
         rw [← hxle] at hI12 HO hxl ⊢
         have hXl : X.length = xl := by rw [hxle]; simp [nats]
         have HXX := Lib.hid (And.intro hX hXl); clear hX hxb hxle hXl
         have HI12 := Lib.hid hI12; clear hI12
         have HBW := Lib.hid (HB1.out.trans ((HB.out.trans (HB2.out.mono hbs)).mono hbs1))
         have hs3 := HB2.out.size
         go_wp2_with fail
         go_loopg [14, 15, 16, 17, 18] sn (fun g' s14 s15 s16 s17 s18 wr => ∃ i : Nat, i + g' = sn ∧ s15 = .int .i64 i ∧ s14 = .int .i64 (((Sale.within (nbOf G) (sm.take i) X).length : Nat) : Int) ∧ wr = w3)
         case atStart => exact ⟨0, by omega, rfl, rfl, rfl⟩
         case round =>
           obtain ⟨i, hi, rfl, rfl, rfl⟩ := hrel
           have HI := Lib.hid hi; clear hi
           have hml : (Sale.within (nbOf G) (sm.take i) X).length ≤ i := Nat.le_trans (List.length_filter_le _ _) (List.length_take_le _ _)
           by_cases hil : i < sn
           · have hq : sm[i]? = some (sm[i]'(by have := HSL.out; omega)) := List.getElem?_eq_getElem _
             obtain ⟨q, hqq⟩ : ∃ q, q = sm[i]'(by have := HSL.out; omega) := ⟨_, rfl⟩
             rw [← hqq] at hq
             have hqg := HIN.out.lt q (List.mem_of_getElem? hq)
             obtain ⟨sb, so, rfl⟩ := HS1.out.addr (by omega)
             have cs := cell_step00 (HB.out.trans (HB2.out.mono hbs)) (HS1.out.cell sb so rfl i (q : Int) (by unfold nats; rw [List.getElem?_map, hq]; rfl))
             have hrow : (G.map nats)[q]? = some (nats (nbOf G q)) := by
               have hl : q < G.length := by have := HGL.out; simp at this; omega
               rw [List.getElem?_map, List.getElem?_eq_getElem hl]; unfold nbOf; rw [List.getElem?_eq_getElem hl]; rfl
             obtain ⟨gb, go', rfl⟩ := HG1.out.addr (by omega)
             obtain ⟨la, ln, lc, hcl0, hli⟩ := HG1.out.cell gb go' rfl q _ hrow
             have hcl := cell_step00 (HB.out.trans (HB2.out.mono hbs)) hcl0
             have hli3 := hli.below (HB.out.trans (HB2.out.mono hbs)) (Nat.le_refl _)
             have hlnl : (nbOf G q).length = ln := by have := hli.len; simpa [nats] using this
             have hbig := hli.big
             have hsu := within_succ (nb := nbOf G) (X := X) hq
             obtain ⟨mc, hmc⟩ : ∃ mc, mc = (Sale.within (nbOf G) (sm.take i) X).length := ⟨_, rfl⟩
             rw [← hmc] at hsu hml ⊢
             have HSU := Lib.hid hsu; clear hsu hmc
             have HLI := Lib.hid hli3; clear hli3 hli hcl0
             have HLN := Lib.hid hlnl; clear hlnl
             obtain ⟨gP, hgP⟩ : ∃ x, x = gk - 1 := ⟨_, rfl⟩
             have HGP := Lib.hid hgP; clear hgP
             have i2 : (i : Int) < (sn : Int) := by omega
             have i3 : (q : Int) < (gn : Int) := by omega
             clear hqq hrow
             go_wp2_with fail
             go_loopg [17, 18] ln (fun g' s17 s18 wr' => ∃ j : Nat, j + g' = ln ∧ s18 = .int .i64 j ∧ s17 = .bool (((nbOf G q).take j).all fun k => X.contains k) ∧ wr' = wr)
             case atStart => exact ⟨0, by omega, rfl, rfl, rfl⟩
             case round =>
               obtain ⟨j, hj, rfl, rfl, rfl⟩ := hrel
               have HJ := Lib.hid hj; clear hj
               by_cases hjl : j < ln
               · have hz : (nbOf G q)[j]? = some ((nbOf G q)[j]'(by have := HLN.out; omega)) := List.getElem?_eq_getElem _
                 obtain ⟨z, hzz⟩ : ∃ z, z = (nbOf G q)[j]'(by have := HLN.out; omega) := ⟨_, rfl⟩
                 rw [← hzz] at hz
                 obtain ⟨lb, lo, rfl⟩ := HLI.out.addr (by omega)
                 have cz := HLI.out.cell lb lo rfl j (z : Int) (by unfold nats; rw [List.getElem?_map, hz]; rfl)
                 have hal : ((nbOf G q).take (j + 1)).all (fun k => X.contains k) = (((nbOf G q).take j).all (fun k => X.contains k) && X.contains z) := by
                   rw [List.take_add_one, hz, List.all_append]; simp
                 obtain ⟨ab, hab⟩ : ∃ ab, ab = ((nbOf G q).take j).all (fun k => X.contains k) := ⟨_, rfl⟩
                 rw [← hab] at hal ⊢
                 have HAL := Lib.hid hal; clear hal hab hz hzz
                 have i4 : (j : Int) < (ln : Int) := by omega
                 cases ab with
                 | false =>
                   go_wp2_with fail
                   go_roundg (gk - 1)
                   case measure => have := HJ.out; omega
                   case rel => exact ⟨j + 1, by have := HJ.out; omega, by go_num, by rw [HAL.out]; rfl, rfl⟩
                 | true =>
                   go_wp2_with fail
                   refine (has06_any a12 xl c12 (nats X) (z : Int) _ HI12.out).mono ?_
                   rintro e w9 ⟨rfl, rfl⟩
                   rw [nats_contains]
                   go_wp2_with fail
                   go_roundg (gk - 1)
                   case measure => have := HJ.out; omega
                   case rel => exact ⟨j + 1, by have := HJ.out; omega, by go_num, by rw [HAL.out, Bool.true_and]; simp, rfl⟩
               · obtain rfl : j = ln := by have := HJ.out; omega
                 have htk : (nbOf G q).take j = nbOf G q := List.take_of_length_le (by have := HLN.out; omega)
                 rw [htk]
                 obtain ⟨ab, hab⟩ : ∃ ab, ab = (nbOf G q).all (fun k => X.contains k) := ⟨_, rfl⟩
                 rw [← hab] at HSU ⊢
                 clear hab htk
                 cases ab with
                 | false =>
                   go_wp2_with fail
                   go_roundg gP
                   case measure => have := HI.out; have := HGP.out; omega
                   case rel => exact ⟨i + 1, by have := HI.out; have := HGP.out; omega, by go_num, by rw [HSU.out]; rfl, rfl⟩
                 | true =>
                   go_wp2_with fail
                   go_roundg gP
                   case measure => have := HI.out; have := HGP.out; omega
                   case rel => exact ⟨i + 1, by have := HI.out; have := HGP.out; omega, by go_num, by rw [HSU.out]; go_num, rfl⟩
           · obtain rfl : i = sn := by have := HI.out; omega
             rw [List.take_of_length_le (by have := HSL.out; omega)] at hml ⊢
             have hvi : Way.viol (nbOf G) sm X = decide (xl < (Sale.within (nbOf G) sm X).length) := by unfold Way.viol; rw [HXX.out.2]
             have hst := Way.fewTo_succ (nbOf G) sm k n
             obtain ⟨mc, hmc⟩ : ∃ mc, mc = (Sale.within (nbOf G) sm X).length := ⟨_, rfl⟩
             rw [← hmc] at hvi hml ⊢
             have hbx : Way.bitsL k n = X := HXX.out.1.symm
             unfold Way.fewStep at hst
             rw [hbx] at hst
             have hb13 : Below w1.heap.size w1 wr := HB.out.trans (HB2.out.mono hbs)
             have hown : Own wr w1.heap.size (.slice a12 xl c12) (nats X) := Own.lower HO.out hbs
             have hba3 := HBA.out.below HB2.out (Nat.le_refl _)
             have HB13 := Lib.hid hb13; clear hb13
             have HOW := Lib.hid hown; clear hown
             have HBA3 := Lib.hid hba3; clear hba3
             clear hmc hbx
             by_cases hv : xl < mc
             case neg =>
               have e1 : decide ((xl : Int) < (mc : Int)) = false := by simp; omega
               have e2 : decide (xl < mc) = false := by simpa using hv
               rw [hvi, e2, if_neg (by simp)] at hst
               have HST := Lib.hid hst; clear hst hvi hv
               go_wp2_with fail
               go_roundg gO
               case measure => have := HNN.out; have := HGO.out; omega
               case rel => exact ⟨n + 1, vb, fb, by have := HNN.out; have := HGO.out; omega, by go_num, rfl, rfl, by rw [HST.out]; exact HBA3.out, HB13.out⟩
             case pos =>
             have e1 : decide ((xl : Int) < (mc : Int)) = true := by simp; omega
             have e2 : decide (xl < mc) = true := by simpa using hv
             rw [hvi, e2] at hst
             clear hvi
             cases hft : Way.fewTo (nbOf G) sm k n with
             | none =>
               rw [hft] at hst HBA3
               obtain ⟨rfl, rfl⟩ := HBA3.out
               rw [if_pos ⟨rfl, fun b h => by cases h⟩] at hst
               have HST := Lib.hid hst; clear hst hv hft
               go_wp2_with fail
               go_roundg gO
               case measure => have := HNN.out; have := HGO.out; omega
               case rel => exact ⟨n + 1, _, true, by have := HNN.out; have := HGO.out; omega, by go_num, rfl, rfl, by rw [HST.out]; exact ⟨rfl, HOW.out⟩, HB13.out⟩
             | some Y =>
               rw [hft] at hst HBA3
               obtain ⟨rfl, hoY⟩ := HBA3.out
               have hYb : ∀ x, x ∈ nats Y → -9223372036854775808 ≤ x ∧ x ≤ 9223372036854775807 := fun x hx => by
                 have hs := Way.fewTo_says (nbOf G) sm k n
                 rw [hft] at hs
                 obtain ⟨⟨n', _, e⟩, _⟩ := hs
                 rw [← e] at hx
                 exact bitsL_bd (by omega) x hx
               have hYl : (nats Y).length ≤ 8 := by
                 have hs := Way.fewTo_says (nbOf G) sm k n
                 rw [hft] at hs
                 obtain ⟨⟨n', _, e⟩, _⟩ := hs
                 rw [← e]
                 exact Nat.le_trans (bitsL_len n' k) hN8
               obtain ⟨aY, cY, rfl, hIY⟩ := hoY.ints (by omega) hYb
               obtain ⟨yl, hyl⟩ : ∃ yl, yl = (nats Y).length := ⟨_, rfl⟩
               rw [← hyl] at hIY hYl hoY ⊢
               have hYyl : Y.length = yl := by rw [hyl]; simp [nats]
               have HIY := Lib.hid hIY; clear hIY
               have HOY := Lib.hid hoY; clear hoY hYb hyl hft
               have hah : Way.ahead X Y = (decide (xl < yl) || (decide (xl = yl) && Way.lexlt X Y)) := by unfold Way.ahead; rw [HXX.out.2, hYyl]
               by_cases h1 : xl < yl
               · have e3 : decide ((xl : Int) < (yl : Int)) = true := by simp; omega
                 have e3' : decide (xl < yl) = true := decide_eq_true h1
                 rw [decide_eq_true h1, Bool.true_or] at hah
                 rw [if_pos ⟨rfl, fun b h => by cases h; exact hah⟩] at hst
                 have HST := Lib.hid hst; clear hst hv hah h1
                 go_wp2_with fail
                 go_roundg gO
                 case measure => have := HNN.out; have := HGO.out; omega
                 case rel => exact ⟨n + 1, _, true, by have := HNN.out; have := HGO.out; omega, by go_num, rfl, rfl, by rw [HST.out]; exact ⟨rfl, HOW.out⟩, HB13.out⟩
               have e3 : decide ((xl : Int) < (yl : Int)) = false := by simp; omega
               have e3' : decide (xl < yl) = false := decide_eq_false h1
               rw [decide_eq_false h1, Bool.false_or] at hah
               by_cases h2 : xl = yl
               · subst h2
                 rw [decide_eq_true rfl, Bool.true_and] at hah
                 have HLE := Lib.hid (less09_any a12 aY xl c12 cY X Y wr HI12.out HIY.out)
                 rw [← hah] at HLE
                 obtain ⟨av, hav⟩ : ∃ av, av = Way.ahead X Y := ⟨_, rfl⟩
                 rw [← hav] at HLE
                 cases av with
                 | true =>
                   rw [if_pos ⟨rfl, fun b h => by cases h; exact hav.symm⟩] at hst
                   have HST := Lib.hid hst; clear hst hv hah hav h1
                   go_wp2_with fail
                   refine HLE.out.mono ?_
                   rintro e w9 ⟨rfl, hb9⟩
                   have HO9 := Lib.hid (Own.below HOW.out hb9 (Nat.le_refl _))
                   have HB9 := Lib.hid (HB13.out.trans (hb9.mono HB13.out.size)); clear hb9 HLE
                   go_wp2_with fail
                   go_roundg gO
                   case measure => have := HNN.out; have := HGO.out; omega
                   case rel => exact ⟨n + 1, _, true, by have := HNN.out; have := HGO.out; omega, by go_num, rfl, rfl, by rw [HST.out]; exact ⟨rfl, HO9.out⟩, HB9.out⟩
                 | false =>
                   rw [if_neg fun h => by have := h.2 Y rfl; rw [← hav] at this; cases this] at hst
                   have HST := Lib.hid hst; clear hst hv hah hav h1
                   go_wp2_with fail
                   refine HLE.out.mono ?_
                   rintro e w9 ⟨rfl, hb9⟩
                   have HO9 := Lib.hid (Own.below HOY.out hb9 (Nat.le_refl _))
                   have HB9 := Lib.hid (HB13.out.trans (hb9.mono HB13.out.size)); clear hb9 HLE
                   go_wp2_with fail
                   go_roundg gO
                   case measure => have := HNN.out; have := HGO.out; omega
                   case rel => exact ⟨n + 1, _, true, by have := HNN.out; have := HGO.out; omega, by go_num, rfl, rfl, by rw [HST.out]; exact ⟨rfl, HO9.out⟩, HB9.out⟩
               · have e4 : ((xl : Int) == (yl : Int)) = false := by simp; omega
                 have e4' : (xl == yl) = false := by simp; omega
                 rw [decide_eq_false h2, Bool.false_and] at hah
                 rw [if_neg fun h => by have := h.2 Y rfl; rw [hah] at this; cases this] at hst
                 have HST := Lib.hid hst; clear hst hv hah h1 h2
                 go_wp2_with fail
                 go_roundg gO
                 case measure => have := HNN.out; have := HGO.out; omega
                 case rel => exact ⟨n + 1, _, true, by have := HNN.out; have := HGO.out; omega, by go_num, rfl, rfl, by rw [HST.out]; exact ⟨rfl, HOY.out⟩, HB13.out⟩
   · obtain rfl : n = M := by have := HNN.out; omega
     have i0 : ¬ (n : Int) < (n : Int) := by omega
     go_wp2_with fail
     go_ret3
     exact ⟨_, _, rfl, HBA.out.lower hbs1, HB1.out.trans (HB.out.mono hbs1)⟩
end Go.Proofs.YtkddkkcfpnndlaaGreatDoor

namespace Go.Proofs.YtkddkkcfpnndlaaGreatDoor
open Go.RowKit Go.Shelf Sale

/-! ### a list of the call's own that is written -/
structure Wrt (w : World) (g n : Nat) (xs : List Int) : Prop where
 len : xs.length = n
 row : ∃ cur : Array Value, w.heap[g]? = some (.cells cur 3 (0, 0)) ∧ n ≤ cur.size ∧ cur.toList.take n = xs.map (Value.int .i64)
theorem Wrt.lt {w : World} {g n : Nat} {xs : List Int} (h : Wrt w g n xs) : g < w.heap.size := by
 obtain ⟨cur, h1, _⟩ := h.row
 exact (Array.getElem?_eq_some_iff.1 h1).1
theorem Wrt.cell {w : World} {g n : Nat} {xs : List Int} (h : Wrt w g n xs) {k : Nat} {x : Int} (hx : xs[k]? = some x) : w.cell? ⟨g, k, none⟩ = some (.int .i64 x) := by
 obtain ⟨cur, h1, h2, h3⟩ := h.row
 have hk : k < xs.length := (List.getElem?_eq_some_iff.1 hx).1
 rw [cell_of_row w g k cur _ _ h1]
 have h4 : (cur.toList.take n)[k]? = some (.int .i64 x) := by rw [h3]; simp [hx]
 rw [List.getElem?_take_of_lt (by have := h.len; omega)] at h4
 simpa using h4
theorem Wrt.frozen {w : World} {g n : Nat} {xs : List Int} (h : Wrt w g n xs) (k : Nat) : w.frozen? ⟨g, k, none⟩ = false := by
 obtain ⟨cur, h1, _⟩ := h.row
 exact frozen_of_row w g k cur _ h1
theorem Wrt.set {w : World} {g n : Nat} {xs : List Int} (h : Wrt w g n xs) (k : Nat) (x : Int) : Wrt (w.setCell ⟨g, k, none⟩ (.int .i64 x)) g n (xs.set k x) := by
 obtain ⟨cur, h1, h2, h3⟩ := h.row
 refine ⟨by rw [List.length_set]; exact h.len, _, heap_setCell_same w g k _ _ _ h1, by simpa using h2, ?_⟩
 rw [Array.toList_setIfInBounds, List.take_set, h3, List.map_set]
theorem Wrt.below {w w' : World} {g n B : Nat} {xs : List Int} (h : Wrt w g n xs) (hb : Below B w w') (hB : g < B) : Wrt w' g n xs := by
 obtain ⟨cur, h1, h2, h3⟩ := h.row
 exact ⟨h.len, cur, by rw [hb.block g hB]; exact h1, h2, h3⟩
theorem Wrt.ints {w : World} {g n : Nat} {xs : List Int} (h : Wrt w g n xs) {c : Nat} (hc : n ≤ c) (hbig : n ≤ 4611686018427387904) (hbd : ∀ x, x ∈ xs → -9223372036854775808 ≤ x ∧ x ≤ 9223372036854775807) : Ints w (some ⟨g, 0, none⟩) n c xs :=
 ⟨h.len, hc, hbig, fun _ => ⟨_, _, rfl⟩, fun b o e k x hx => by cases e; rw [Nat.zero_add]; exact h.cell hx, hbd, fun e => by cases e⟩
theorem Own.wrt {w : World} {base : Nat} {v : Value} {xs : List Int} (h : Own w base v xs) (hn : 0 < xs.length) : ∃ g cap, v = .slice (some ⟨g, 0, none⟩) xs.length cap ∧ xs.length ≤ cap ∧ base ≤ g ∧ Wrt w g xs.length xs := by
 obtain ⟨h1, h2⟩ := h
 rcases h2 with ⟨_, hl⟩ | ⟨g, cap, cur, hv, hg, hh, hc, hm, hs, ht⟩
 · omega
 · refine ⟨g, cap, hv, hc, hg, rfl, cur, hh, ?_, ?_⟩
   · have := congrArg List.length ht
     simp at this; omega
   · rw [Nat.mul_one] at ht; exact ht

/-! ### what is asked of Few and of far -/
theorem rises_up {many : Int} : ∀ {l : List Nat} {last : Int}, l.Pairwise (· < ·) → (∀ x, x ∈ l → last < (x : Int) ∧ (x : Int) < many) → risesFrom many last (nats l) = true
 | [], _, _, _ => rfl
 | n :: l, last, hp, h => by
   obtain ⟨h1, h2⟩ := List.pairwise_cons.1 hp
   obtain ⟨h3, h4⟩ := h n List.mem_cons_self
   show risesFrom many last ((n : Int) :: nats l) = true
   simp only [risesFrom, Bool.and_eq_true, decide_eq_true_eq]
   exact ⟨⟨h3, h4⟩, rises_up h2 fun x hx => ⟨by have := h1 x hx; omega, (h x (List.mem_cons_of_mem _ hx)).2⟩⟩
theorem dem_pw (g : Nat → Nat → Int) (N : Nat) (q : Nat → Int) (i : Nat) : (dem g N q i).Pairwise (· < ·) := List.Pairwise.filter _ List.pairwise_lt_range
theorem wants_pw (g : Nat → Nat → Int) (N : Nat) (q : Nat → Int) (i : Nat) : (wantsOf g N q i).Pairwise (· < ·) := by
 unfold wantsOf
 split
 · exact dem_pw _ _ _ _
 · exact List.Pairwise.nil
theorem mustM_pw (m : Mkt) (q : List Int) : (mustM m q).Pairwise (· < ·) := List.Pairwise.filter _ List.pairwise_lt_range
theorem mustM_lt {m : Mkt} {q : List Int} {i : Nat} (h : i ∈ mustM m q) : i < m.bids.length := List.mem_range.1 (List.mem_filter.1 h).1
theorem wants_at {m : Mkt} (hm : MOk m) {q : List Int} (hp : PrOk m q) {l : List Nat} (h : l ∈ wantsM m q) : l.Pairwise (· < ·) ∧ ∀ k, k ∈ l → k < m.res.length := by
 obtain ⟨i, hi⟩ := List.mem_iff_getElem?.1 h
 have hil : i < m.bids.length := by rw [← wantsM_len m q]; exact (List.getElem?_eq_some_iff.1 hi).1
 have e : nbOf (wantsM m q) i = l := by unfold nbOf; rw [hi]; rfl
 rw [← e, nb_wants hm hp hil]
 exact ⟨wants_pw _ _ _ _, fun k hk => wants_lt hk⟩
theorem few_in {m : Mkt} (hm : MOk m) {q : List Int} (hp : PrOk m q) {w : World} {wa ua : Option Addr} {bn un uc : Nat} (hw : Rows w wa bn bn ((wantsM m q).map nats)) (hu : Ints w ua un uc (nats (mustM m q))) (hbl : m.bids.length = bn) :
   FewIn w wa ua bn bn un uc (wantsM m q) m.res.length (mustM m q) := by
 have hul : (mustM m q).length = un := by have := hu.len; simpa [nats] using this
 have hmp := mustM_pw m q
 have hle : (mustM m q).length ≤ m.bids.length := by have := List.length_filter_le (fun i => !isNone (m.bids.getD i []) q) (List.range m.bids.length); simpa [mustM] using this
 have hm8 := hm.m8
 have hn8 := hm.n8
 refine ⟨hw, hu, ?_, ?_, hmp.imp fun h => by omega, fun i hi => by rw [← hbl]; exact mustM_lt hi, hn8, by omega, fun i hi k hk => ?_⟩
 · simp only [gcheck, Bool.and_eq_true, decide_eq_true_eq, Bool.not_eq_true', List.any_eq_false, List.length_map, wantsM_len]
   refine ⟨⟨⟨by omega, by omega⟩, by omega⟩, fun l hl => ?_⟩
   obtain ⟨l', hl', rfl⟩ := List.mem_map.1 hl
   obtain ⟨h1, h2⟩ := wants_at hm hp hl'
   rw [rises_up h1 fun x hx => by have := h2 x hx; omega]
   decide
 · rw [List.length_map, wantsM_len]
   exact rises_up hmp fun x hx => by have := mustM_lt hx; omega
 · rw [← hbl] at hi
   rw [nb_wants hm hp hi] at hk
   exact wants_lt hk
theorem far_ok {m : Mkt} (hm : MOk m) {q : List Int} (hp : PrOk m q) : FarOk m q (wantsM m q) (mustM m q) := by
 have hle : (mustM m q).length ≤ m.bids.length := by have := List.length_filter_le (fun i => !isNone (m.bids.getD i []) q) (List.range m.bids.length); simpa [mustM] using this
 have hm8 := hm.m8
 have hn8 := hm.n8
 have hw : ∀ i, i ∈ mustM m q → (wantsM m q).getD i [] = dem (gi (gainsM m)) m.res.length (qOf m q) i ∧ 0 < top (gi (gainsM m)) m.res.length (qOf m q) i := fun i hi => by
   have hi' := hi
   rw [mustM_is hm hp] at hi'
   obtain ⟨h1, h2⟩ := mem_musts.1 hi'
   refine ⟨?_, h2⟩
   have := nb_wants hm hp h1
   unfold nbOf at this
   rw [List.getD_eq_getElem?_getD, this]
   unfold wantsOf
   rw [if_pos h2]
 refine ⟨by rw [hp.len]; exact hn8, by omega, fun i hi => mustM_lt hi, wantsM_len m q, fun i hi => ?_, hp.all hm, fun i hi => ?_, fun i hi k hk => ?_⟩
 · obtain ⟨_, h2⟩ := hw i hi
   have hil := mustM_lt hi
   rcases hm.bid_at hil with e | ⟨e, hb⟩
   · have : top (gi (gainsM m)) m.res.length (qOf m q) i = 0 := top_eq (Int.le_refl _) (fun k hk => by rw [gain_at hm q hil hk, if_pos e]; have := hp.nonneg k hk; omega) (.inl rfl)
     omega
   · refine ⟨by rw [e, hp.len], fun x hx => ?_⟩
     obtain ⟨k, hk⟩ := List.mem_iff_getElem?.1 hx
     have hkl := (List.getElem?_eq_some_iff.1 hk).1
     have := hb k (by omega)
     unfold bidAt at this
     rwa [getD_at hk] at this
 · obtain ⟨h1, h2⟩ := hw i hi
   rw [h1]
   intro e
   rcases top_cases (gi (gainsM m)) m.res.length (qOf m q) i with h0 | ⟨k, hk, h0⟩
   · omega
   · have : k ∈ dem (gi (gainsM m)) m.res.length (qOf m q) i := mem_dem.2 ⟨hk, h0.symm⟩
     rw [e] at this; cases this
 · rw [(hw i hi).1] at hk
   rw [hp.len]
   exact (mem_dem.1 hk).1
theorem few_far {m : Mkt} (hm : MOk m) {q : List Int} (hp : PrOk m q) {X : List Nat} (h : fewM m q = some X) : farAll m.bids q (wantsM m q) X (mustM m q) ≠ [] ∧ X.Nodup ∧ ∀ k, k ∈ X → k < m.res.length := by
 have h2 := h
 rw [fewM_is hm hp] at h2
 have hL := few_least h2
 refine ⟨?_, hL.nodup, hL.lt⟩
 have hpos : 0 < (Sale.within (dem (gi (gainsM m)) m.res.length (qOf m q)) (musts (gi (gainsM m)) m.res.length m.bids.length (qOf m q)) X).length := by have := hL.many; omega
 obtain ⟨i, hi⟩ := List.exists_mem_of_length_pos hpos
 obtain ⟨h3, h4⟩ := mem_within.1 hi
 obtain ⟨hiM, htop⟩ := mem_musts.1 h3
 have hw : (wantsM m q).getD i [] = dem (gi (gainsM m)) m.res.length (qOf m q) i := by
   have := nb_wants hm hp hiM
   unfold nbOf at this
   rw [List.getD_eq_getElem?_getD, this]
   unfold wantsOf
   rw [if_pos htop]
 intro e
 have hrow : farRow m.bids q (wantsM m q) X i = [] := by
   rw [List.eq_nil_iff_forall_not_mem]
   intro x hx
   have : x ∈ farAll m.bids q (wantsM m q) X (mustM m q) := List.mem_flatMap.2 ⟨i, by rw [mustM_is hm hp]; exact h3, hx⟩
   rw [e] at this; cases this
 unfold farRow at hrow
 rw [hw, if_neg (by
   rw [Bool.not_eq_true, List.any_eq_false]
   intro k hk
   have := h4 k hk
   simpa using this)] at hrow
 cases hrow
theorem farM_bd {m : Mkt} (hm : MOk m) {q : List Int} (hp : PrOk m q) {X : List Nat} (h : fewM m q = some X) : -3000000 ≤ farM m q X ∧ farM m q X ≤ 3000000 :=
 (far_ok hm hp).allb _ (lmin_mem (few_far hm hp h).1)

/-! ### the set rises, item by item -/
theorem upBy_at {q : List Int} {X : List Nat} {b : Int} {t k : Nat} (hX : X.Nodup) (ht : X[t]? = some k) (hk : k < q.length) : (upBy q (X.take t) b)[k]? = some (q.getD k 0) := by
 have hn : k ∉ X.take t := fun hm => by
   obtain ⟨s, hs⟩ := List.mem_iff_getElem?.1 hm
   have hst : s < t := by
     rcases Nat.lt_or_ge s t with h | h
     · exact h
     · rw [List.getElem?_take_eq_none h] at hs; cases hs
   rw [List.getElem?_take_of_lt hst] at hs
   have := (List.getElem?_inj (by exact (List.getElem?_eq_some_iff.1 hs).1) hX).1 (hs.trans ht.symm)
   omega
 unfold upBy
 rw [List.getElem?_map, List.getElem?_range hk, Option.map_some, if_neg hn]
theorem upBy_next {q : List Int} {X : List Nat} {b : Int} {t k : Nat} (ht : X[t]? = some k) (hk : k < q.length) : (upBy q (X.take t) b).set k (q.getD k 0 + b) = upBy q (X.take (t + 1)) b := by
 apply List.ext_getElem?
 intro j
 by_cases hj : j < q.length
 · unfold upBy
   by_cases e : k = j
   · subst e
     rw [List.getElem?_set_self (by simpa using hk), List.getElem?_map, List.getElem?_range hk, Option.map_some, if_pos]
     rw [List.take_add_one, ht]
     simp
   · rw [List.getElem?_set_ne e, List.getElem?_map, List.getElem?_map, List.getElem?_range hj, Option.map_some, Option.map_some, List.take_add_one, ht]
     have : (j ∈ X.take t ++ (some k).toList) ↔ j ∈ X.take t := by
       simp
       intro h; exact absurd h.symm e
     simp only [this]
 · rw [List.getElem?_eq_none (by rw [List.length_set, upBy_len]; omega), List.getElem?_eq_none (by rw [upBy_len]; omega)]
theorem list_ext0' {l l' : List Int} (hl : l.length = l'.length) (h : ∀ k, k < l.length → l.getD k 0 = l'.getD k 0) : l = l' := by
 apply List.ext_getElem?
 intro k
 by_cases hk : k < l.length
 · rw [getD_some hk 0, getD_some (l := l') (by omega) 0, h k hk]
 · rw [List.getElem?_eq_none (by omega), List.getElem?_eq_none (by omega)]
theorem upBy_none (q : List Int) (b : Int) : upBy q [] b = q := list_ext0' (by rw [upBy_len]) fun k hk => by rw [upBy_get (by rw [upBy_len] at hk; exact hk)]; simp
end Go.Proofs.YtkddkkcfpnndlaaGreatDoor

namespace Go.Proofs.YtkddkkcfpnndlaaGreatDoor
open Go.RowKit Go.Shelf Sale

def StepRes (m : Mkt) (q : List Int) (w : World) (e : Ending) (w' : World) : Prop := Below w.heap.size w w' ∧ match stepL m q with
 | none => ∃ a n, e = .returned (.tuple #[.slice a n n, .bool false]) ∧ Ints w' a n n q ∧ ∀ b o, a = some ⟨b, o, none⟩ → w.heap.size ≤ b
 | some p => ∃ a n, e = .returned (.tuple #[.slice a n n, .bool true]) ∧ Ints w' a n n p ∧ ∀ b o, a = some ⟨b, o, none⟩ → w.heap.size ≤ b

set_option maxRecDepth 100000 in
set_option maxHeartbeats 4000000 in
theorem step_any {S : Nat} {ra ba oa qa wa ua : Option Addr} {rn rc bn bc on oc qn qc un uc : Nat} {m : Mkt} {q : List Int} {w : World}
   (h : StAt w S ra ba oa qa wa ua rn rc bn bc on oc qn qc un uc m q ((wantsM m q).map nats) (nats (mustM m q))) (hm : MOk m) (hp : PrOk m q) :
   Calls Tryz.prog 187 #[.pointer (some ⟨S, 0, none⟩)] w (StepRes m q w) := by
 have hql := h.pr.len
 have hrl : m.res.length = qn := by rw [← hql, hp.len]
 have hn1 := hm.n1
 have hn8 := hm.n8
 rw [hrl] at hn1 hn8
 have hbl := h.mkt.bids.len
 have c3 := h.c3
 have c4 := h.c4
 have c5 := h.c5
 have HCL := Lib.hid (clone_any qa qn qc q w h.pr (by omega))
 have hqb := hp.all hm
 have HS := Lib.hid h; clear h
 have HQL := Lib.hid hql; clear hql
 have HRL := Lib.hid hrl; clear hrl
 have HBL := Lib.hid hbl; clear hbl
 have HQB := Lib.hid hqb; clear hqb
 have HM := Lib.hid (And.intro hm hp); clear hm hp
 go_enter Tryz.func187, Tryz.ntmps187
 go_wp2_with fail
 refine HCL.out.mono ?_
 rintro e w1 ⟨v, rfl, hown, hb1⟩
 obtain ⟨g, cap, rfl, hcap, hg, hwr⟩ := hown.wrt (by rw [HQL.out]; omega)
 rw [HQL.out] at hcap hwr
 rw [HQL.out]
 have HW := Lib.hid hwr
 have d3 := cell_step hb1 c3
 have d4 := cell_step hb1 c4
 have d5 := cell_step hb1 c5
 have hst1 := HS.out.below hb1 (Nat.le_refl _)
 have HB1 := Lib.hid hb1
 have hfew := fun (Wz : World) (hbz : Below w1.heap.size w1 Wz) => Few_yes wa ua bn bn un uc (wantsM m q) m.res.length (mustM m q) Wz (few_in HM.out.1 HM.out.2 (hst1.wants.below hbz (Nat.le_refl _)) (hst1.must.below hbz (Nat.le_refl _)) HBL.out)
 rw [HRL.out] at hfew
 have HFEW := Lib.hid hfew; clear hfew hst1 hown hwr hb1 HCL c3 c4 c5
 go_wp2_with fail
 refine (clip_any _ _ _ _ hcap).mono ?_
 rintro e w1' ⟨rfl, rfl⟩
 go_wp2_with fail
 have hdr : Below w1.heap.size w1 w1.drew := (Below.refl _ _).drew
 have HF2 := Lib.hid (HFEW.out _ hdr); clear HFEW
 have HDR := Lib.hid hdr; clear hdr
 have he : Way.fewOf (nbOf (wantsM m q)) qn (mustM m q) = fewM m q := by unfold fewM; rw [HRL.out]
 rw [he] at HF2
 clear he
 cases hfw : fewM m q with
 | none =>
   rw [hfw] at HF2
   have hsn : stepL m q = none := by unfold stepL; rw [hfw]; rfl
   have HSN := Lib.hid hsn; clear hsn hfw
   go_region_held3 (fun w' => w'.cell? ⟨S, 3, none⟩ = some (.slice qa qn qc) ∧ w'.cell? ⟨S, 4, none⟩ = some (.slice wa bn bn) ∧ w'.cell? ⟨S, 5, none⟩ = some (.slice ua un uc))
     (first | (go_split_ands; refine ⟨?_, ?_, ?_⟩ <;> first | assumption | go_keep) | go_keep)
     ((go_at_call 204; refine HF2.out.mono ?_; rintro e w2 ⟨hb2, rfl⟩; have q3 := cell_step (v := .slice qa qn qc) (b := S) (o := 3) hb2 d3; have q4 := cell_step (v := .slice wa bn bn) (b := S) (o := 4) hb2 d4; have q5 := cell_step (v := .slice ua un uc) (b := S) (o := 5) hb2 d5; have HB2 := Lib.hid hb2; clear hb2))
   go_wp2_with fail
   go_ret2
   have hw2 := HW.out.below (HDR.out.trans HB2.out) HW.out.lt
   refine ⟨HB1.out.trans ((HDR.out.trans HB2.out).mono HB1.out.size), ?_⟩
   rw [HSN.out]
   exact ⟨_, qn, rfl, hw2.ints (Nat.le_refl _) (by omega) (fun x hx => by have := HQB.out x hx; omega), fun b o e => by cases e; exact hg⟩
 | some X =>
   rw [hfw] at HF2
   have hsn : stepL m q = some (upBy q X (farM m q X)) := by unfold stepL; rw [hfw]; rfl
   have HSN := Lib.hid hsn
   have hfb := farM_bd HM.out.1 HM.out.2 hfw
   obtain ⟨hff, hXn, hXl⟩ := few_far HM.out.1 HM.out.2 hfw
   rw [HRL.out] at hXl
   have HFF := Lib.hid hff; clear hff
   have HXN := Lib.hid hXn; clear hXn
   have HXL := Lib.hid hXl; clear hXl
   clear hsn hfw
   go_region_held3 (fun w' => w'.cell? ⟨S, 3, none⟩ = some (.slice qa qn qc) ∧ w'.cell? ⟨S, 4, none⟩ = some (.slice wa bn bn) ∧ w'.cell? ⟨S, 5, none⟩ = some (.slice ua un uc))
     (first | (go_split_ands; refine ⟨?_, ?_, ?_⟩ <;> first | assumption | go_keep) | go_keep)
     ((go_at_call 204; refine HF2.out.mono ?_; rintro e w2 ⟨hb2, xa, xn, rfl, hxi, hxf⟩; have q3 := cell_step (v := .slice qa qn qc) (b := S) (o := 3) hb2 d3; have q4 := cell_step (v := .slice wa bn bn) (b := S) (o := 4) hb2 d4; have q5 := cell_step (v := .slice ua un uc) (b := S) (o := 5) hb2 d5; have HB2 := Lib.hid (And.intro hb2 (And.intro hxi hxf)); clear hb2 hxi hxf))
   have hb2 : Below w.heap.size w w2 := HB1.out.trans ((HDR.out.trans HB2.out.1).mono HB1.out.size)
   have hst2 := HS.out.below hb2 (Nat.le_refl _)
   have HFR := Lib.hid (far_any hst2 (far_ok HM.out.1 HM.out.2) HB2.out.2.1 HFF.out)
   have HB3 := Lib.hid hb2
   have HW2 := Lib.hid (HW.out.below (HDR.out.trans HB2.out.1) HW.out.lt)
   have HXF := Lib.hid (show ∀ b o, xa = some ⟨b, o, none⟩ → g < b from fun b o e => by have := HB2.out.2.2 b o e; have := HW.out.lt; simp at *; omega)
   have HXI := Lib.hid HB2.out.2.1
   clear hb2 hst2 HW d3 d4 d5 HF2 q3 q4 q5
   go_wp2_with fail
   refine HFR.out.mono ?_
   rintro e w3 ⟨rfl, hb3⟩
   have hxl : X.length = xn := by have := HXI.out.len; simpa [nats] using this
   obtain ⟨by', hby⟩ : ∃ b, b = farM m q X := ⟨_, rfl⟩
   rw [show lmin (farAll m.bids q (wantsM m q) X (mustM m q)) = by' from hby.symm]
   rw [← hby] at hfb HSN
   obtain ⟨hf1, hf2⟩ := hfb
   have HW3 := Lib.hid (HW2.out.below hb3 HW2.out.lt)
   have HXI3 := Lib.hid (HXI.out.below hb3 (Nat.le_refl _))
   have HB4 := Lib.hid (HB3.out.trans (hb3.mono HB3.out.size))
   have hxbig := HXI3.out.big
   have HXLN := Lib.hid hxl
   clear hb3 hby hxl HXI HW2 HFR HB3 HB2
   go_wp2_with fail
   go_loopg [43] xn (fun g' s43 wr => ∃ t : Nat, t + g' = xn ∧ s43 = .int .i64 t ∧ Wrt wr g qn (upBy q (X.take t) by') ∧ Ints wr xa xn xn (nats X) ∧ Below w.heap.size w wr)
   case atStart => exact ⟨0, by omega, rfl, by rw [List.take_zero, upBy_none]; exact HW3.out, HXI3.out, HB4.out⟩
   case round =>
     obtain ⟨t, ht, rfl, hw, hx, hb⟩ := hrel
     have HT := Lib.hid ht; clear ht
     by_cases hlt : t < xn
     · obtain ⟨k, hk⟩ : ∃ k, X[t]? = some k := ⟨_, List.getElem?_eq_getElem (by rw [HXLN.out]; exact hlt)⟩
       have hkq := HXL.out k (List.mem_of_getElem? hk)
       obtain ⟨xb, xo, rfl⟩ := hx.addr (by omega)
       have cx := hx.cell xb xo rfl t (k : Int) (by simp [nats, hk])
       have hup := upBy_at (b := by') HXN.out hk (by rw [HQL.out]; exact hkq)
       have hnx := upBy_next (b := by') hk (by rw [HQL.out]; exact hkq)
       have co := hw.cell hup
       have fo := hw.frozen k
       have hqk := HQB.out (q.getD k 0) (getD_mem (by rw [HQL.out]; exact hkq) 0)
       obtain ⟨y, hy⟩ : ∃ y, y = q.getD k 0 := ⟨_, rfl⟩
       rw [← hy] at hup hnx co hqk
       obtain ⟨hy1, hy2⟩ := hqk
       have hw' := hw.set k (y + by')
       rw [hnx] at hw'
       have HW4 := Lib.hid hw'
       have HX4 := Lib.hid (hx.far (p := ⟨g, k, none⟩) (fun _ b o e => by have := HXF.out b o e; show b ≠ g; omega) (.int .i64 (y + by')))
       have HB5 := Lib.hid (hb.setCell (p := ⟨g, k, none⟩) (by show _ ≤ g; omega) (.int .i64 (y + by')))
       have hkn : (k : Int) < (qn : Int) := by omega
       clear hw hx hb hw' hup hnx hy hk
       go_wp2_with fail
       go_roundg (gk - 1)
       case measure => have := HT.out; omega
       case rel => exact ⟨t + 1, by have := HT.out; omega, by go_num, HW4.out, HX4.out, HB5.out⟩
     · obtain rfl : t = xn := by have := HT.out; omega
       have HW4 := Lib.hid hw; clear hw
       have HX4 := Lib.hid hx; clear hx
       have HB5 := Lib.hid hb; clear hb
       go_wp2_with fail
       go_ret2
       refine ⟨HB5.out, ?_⟩
       rw [HSN.out]
       have hw := HW4.out
       rw [List.take_of_length_le (by rw [HXLN.out]; exact Nat.le_refl _)] at hw
       refine ⟨_, qn, rfl, hw.ints (Nat.le_refl _) (by omega) (fun x hx => ?_), fun b o e => by cases e; exact hg⟩
       obtain ⟨k, hk⟩ := List.mem_iff_getElem?.1 hx
       have hkl : k < q.length := by have := (List.getElem?_eq_some_iff.1 hk).1; rwa [upBy_len] at this
       have h1 := upBy_get (X := X) (b := by') hkl
       rw [getD_at hk] at h1
       have h2 := HQB.out (q.getD k 0) (getD_mem hkl 0)
       rw [h1]
       split <;> omega
end Go.Proofs.YtkddkkcfpnndlaaGreatDoor
