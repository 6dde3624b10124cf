/- Walks: forests.Check. Forests in plain words: what the code's reasons say of a wood; what is found. Walks: the reference's forests: does an outcome fit? would a bidder as well have an item? Walks: the law FirstsBest. Walks: the law FirstsIdle: what the operations of its two great regions yield. Walks: the reference's markets: the market in which a bidder has no bid. Walks: the reference's payments: what others lose by one. Walks: payments.Of. FirstsOf: what First and its reference answer; what the law's state keeps. PaymentsOf: what Lost and Of answer, the program's and the reference's; what the law's state keeps. ViewsOf: what Mine and Result answer, the program's and the reference's, in one form. Walks: the law ViewsOf. -/
import Derived.Test.YtkddkkcfpnndlaaGreatDoorVq18
import Derived.Test.YtkddkkcfpnndlaaGreatDoorVq06
import Derived.Test.YtkddkkcfpnndlaaGreatDoorVq16
import Derived.Test.YtkddkkcfpnndlaaGreatDoorVq11
import Derived.Test.YtkddkkcfpnndlaaGreatDoorVq12
import Derived.Test.YtkddkkcfpnndlaaGreatDoorVq37
import Derived.Test.YtkddkkcfpnndlaaGreatDoorVq13
import Derived.Test.YtkddkkcfpnndlaaGreatDoorVq17
import Derived.Test.YtkddkkcfpnndlaaGreatDoorVq14
import Derived.Test.YtkddkkcfpnndlaaGreatDoorVq21
import Derived.Test.YtkddkkcfpnndlaaGreatDoorVq23
import Derived.Test.YtkddkkcfpnndlaaGreatDoorVq43
import Derived.Test.YtkddkkcfpnndlaaGreatDoorVq32
import Derived.Test.YtkddkkcfpnndlaaGreatDoorVq42
import Derived.Test.YtkddkkcfpnndlaaGreatDoorVq36
import Derived.Test.YtkddkkcfpnndlaaGreatDoorVq03
import Derived.Test.YtkddkkcfpnndlaaGreatDoorVq45
import Derived.Test.YtkddkkcfpnndlaaGreatDoorVq46
import Derived.Test.YtkddkkcfpnndlaaGreatDoorVq40
import Derived.Test.YtkddkkcfpnndlaaGreatDoorVq39
import Derived.BigRegion
import Derived.Deep.RegionHeld3
namespace Go.Proofs.YtkddkkcfpnndlaaGreatDoor
open Go.RowKit Sale

/-- reasons in memory: pairs of a bidder and a rank -/
structure Whys (w : World) (a : Option Addr) (n c : Nat) (l : List (Int × Int)) : Prop where
  len : l.length = n
  cap : n ≤ c
  big : n ≤ 4611686018427387904
  addr : 0 < n → ∃ b o, a = some ⟨b, o, none⟩
  cell : ∀ b o, a = some ⟨b, o, none⟩ → ∀ (k : Nat) (p : Int × Int), l[k]? = some p → w.cell? ⟨b, o + k * 2, none⟩ = some (.int .i64 p.1) ∧ w.cell? ⟨b, o + k * 2 + 1, none⟩ = some (.int .i64 p.2)
  bd : ∀ p, p ∈ l → (-9223372036854775808 ≤ p.1 ∧ p.1 ≤ 9223372036854775807) ∧ -9223372036854775808 ≤ p.2 ∧ p.2 ≤ 9223372036854775807
theorem Whys.below {w w' : World} {a : Option Addr} {n c : Nat} {l : List (Int × Int)} (h : Whys w a n c l) {B : Nat} (hb : Below B w w') (hB : w.heap.size ≤ B) : Whys w' a n c l :=
  ⟨h.len, h.cap, h.big, h.addr, fun b o e k p hp => by
    have h1 := h.cell b o e k p hp
    have h2 := hb.mono hB
    exact ⟨cell_step h2 h1.1, cell_step h2 h1.2⟩, h.bd⟩
theorem Whys.get {w : World} {a : Option Addr} {n c : Nat} {l : List (Int × Int)} (h : Whys w a n c l) {k : Nat} (hk : k < n) : ∃ p, l[k]? = some p := ⟨_, List.getElem?_eq_getElem (by rw [h.len]; exact hk)⟩

theorem VRow.stp {w w' : World} {B : Nat} {T : TypeId} {vals : List Value} (h : VRow w B T vals) (hb : Below w.heap.size w w') : VRow w' B T vals := h.below hb h.lt
end Go.Proofs.YtkddkkcfpnndlaaGreatDoor

namespace Go.Proofs.YtkddkkcfpnndlaaGreatDoor
open Go.RowKit Sale Tree

def nowOf (o : Outc) (i : Nat) : Option Nat := if o.has.getD i (-1) = -1 then none else some (o.has.getD i (-1)).toNat
def woodOf (m : Mkt) (o : Outc) : Wood := { N := o.prices.length, M := o.has.length, res := resB m o, now := nowOf o, well := fun i j => wellB m o i j }
theorem FitOk.now {m : Mkt} {o : Outc} (h : FitOk m o) : ∀ i k, (woodOf m o).now i = some k → k < (woodOf m o).N := by
  intro i k hk
  have hk' : nowOf o i = some k := hk
  unfold nowOf at hk'
  split at hk'
  · cases hk'
  · rename_i hne
    cases hk'
    show (o.has.getD i (-1)).toNat < o.prices.length
    cases hx : o.has[i]? with
    | none => exact absurd (by rw [List.getD_eq_getElem?_getD, hx]; rfl) hne
    | some x =>
      rw [getD_at hx] at hne ⊢
      have := h.item x (List.mem_of_getElem? hx)
      have := h.plen
      omega
end Go.Proofs.YtkddkkcfpnndlaaGreatDoor

namespace Go.Proofs.YtkddkkcfpnndlaaGreatDoor
open Go.RowKit Sale

/-- the world behind the copies of a market and an outcome -/
structure WAt (w : World) (B1 B2 : Nat) (ra ba oa ha pa : Option Addr) (rn rc bn bc on oc hn hc pn pc : Nat) (m : Mkt) (o : Outc) (wr : World) : Prop where
  v1 : VRow wr B1 57 [.slice ra rn rc, .slice ba bn bc, .slice oa on oc]
  v2 : VRow wr B2 70 [.slice ha hn hc, .slice pa pn pc]
  mkt : MktAt wr ra ba oa rn rc bn bc on oc m
  out : OutAt wr ha pa hn hc pn pc o
  below : Below w.heap.size w wr
theorem WAt.step {w : World} {B1 B2 : Nat} {ra ba oa ha pa : Option Addr} {rn rc bn bc on oc hn hc pn pc : Nat} {m : Mkt} {o : Outc} {wr wr' : World} (h : WAt w B1 B2 ra ba oa ha pa rn rc bn bc on oc hn hc pn pc m o wr) (hb : Below wr.heap.size wr wr') : WAt w B1 B2 ra ba oa ha pa rn rc bn bc on oc hn hc pn pc m o wr' :=
  ⟨h.v1.stp hb, h.v2.stp hb, h.mkt.below hb (Nat.le_refl _), h.out.below hb (Nat.le_refl _), h.below.trans (hb.mono h.below.size)⟩
def wa0 (w : World) (ra ba oa ha pa : Option Addr) (rn rc bn bc on oc hn hc pn pc : Nat) : World := (w.alloc (.cells #[.slice ra rn rc, .slice ba bn bc, .slice oa on oc] 57)).alloc (.cells #[.slice ha hn hc, .slice pa pn pc] 70)
theorem WAt.new (w : World) {ra ba oa ha pa : Option Addr} {rn rc bn bc on oc hn hc pn pc : Nat} {m : Mkt} {o : Outc} (hm : MktAt w ra ba oa rn rc bn bc on oc m) (ho : OutAt w ha pa hn hc pn pc o) :
    WAt w w.heap.size (w.heap.size + 1) ra ba oa ha pa rn rc bn bc on oc hn hc pn pc m o (wa0 w ra ba oa ha pa rn rc bn bc on oc hn hc pn pc) := by
  unfold wa0
  have hb : Below w.heap.size w ((w.alloc (.cells #[.slice ra rn rc, .slice ba bn bc, .slice oa on oc] 57)).alloc (.cells #[.slice ha hn hc, .slice pa pn pc] 70)) :=
    ((Below.refl _ w).alloc (Nat.le_refl _) _).alloc (by simp) _
  have h1 := VRow.new w 57 [.slice ra rn rc, .slice ba bn bc, .slice oa on oc]
  have h2 := VRow.new (w.alloc (.cells #[.slice ra rn rc, .slice ba bn bc, .slice oa on oc] 57)) 70 [.slice ha hn hc, .slice pa pn pc]
  rw [show (w.alloc (.cells #[.slice ra rn rc, .slice ba bn bc, .slice oa on oc] 57)).heap.size = w.heap.size + 1 by simp] at h2
  exact ⟨h1.alloc _, h2, hm.below hb (Nat.le_refl _), ho.below hb (Nat.le_refl _), hb⟩

/-- lengths that are not too great -/
structure Short (rn bn on : Nat) (m : Mkt) : Prop where
  r : rn ≤ 17592186044416
  b : bn ≤ 17592186044416
  o : on ≤ 17592186044416
  x : ∀ xs, xs ∈ m.bids → xs.length ≤ 17592186044416

end Go.Proofs.YtkddkkcfpnndlaaGreatDoor

namespace Go.Proofs.YtkddkkcfpnndlaaGreatDoor
open Go.RowKit Sale

/-- the world behind the copy of the gains -/
def gw (w : World) (ga : Option Addr) (gn gc : Nat) (items : Int) : World := w.alloc (.cells #[.slice ga gn gc, .int .i64 items] 24)
end Go.Proofs.YtkddkkcfpnndlaaGreatDoor

namespace Go.Proofs.YtkddkkcfpnndlaaGreatDoor
open Go.RowKit Sale

theorem Ints.drop {w : World} {b o n c : Nat} {xs : List Int} (h : Ints w (some ⟨b, o, none⟩) n c xs) {k : Nat} (hk : k ≤ n) : Ints w (some ⟨b, o + k, none⟩) (n - k) (c - k) (xs.drop k) :=
  ⟨by rw [List.length_drop, h.len], by have := h.cap; omega, by have := h.big; omega, fun _ => ⟨b, o + k, rfl⟩, fun b' o' e j y hy => by
    cases e
    rw [List.getElem?_drop] at hy
    have := h.cell b o rfl (k + j) y hy
    rwa [← Nat.add_assoc] at this, fun y hy => h.bd y (List.mem_of_mem_drop hy), fun e => by cases e⟩
theorem Own.lower {w : World} {base B : Nat} {v : Value} {xs : List Int} (h : Own w base v xs) (hB : B ≤ base) : Own w B v xs := by
  obtain ⟨h1, h2⟩ := h
  refine ⟨h1, ?_⟩
  rcases h2 with h2 | ⟨g, cap, cur, hv, hg, r⟩
  · exact .inl h2
  · exact .inr ⟨g, cap, cur, hv, by omega, r⟩
theorem Own.step {w w' : World} {base : Nat} {v : Value} {xs : List Int} (h : Own w base v xs) (hb : Below w.heap.size w w') : Own w' base v xs := h.below hb (Nat.le_refl _)
theorem OwnRows.step {w w' : World} {base : Nat} {v : Value} {xs : List (List Int)} (h : OwnRows w base v xs) (hb : Below w.heap.size w w') : OwnRows w' base v xs := h.below hb (Nat.le_refl _)

end Go.Proofs.YtkddkkcfpnndlaaGreatDoor

namespace Go.Proofs.YtkddkkcfpnndlaaGreatDoor
open Go.RowKit Sale

theorem OwnRows.lit {w : World} {base : Nat} {v : Value} {xss : List (List Int)} (h : OwnRows w base v xss) : ∃ a c, v = .slice a xss.length c := by
  obtain ⟨vals, ⟨h1, h2⟩, h3, h4⟩ := h
  rcases h2 with ⟨hv, hn⟩ | ⟨g, cap, cur, hv, _⟩
  · exact ⟨none, 0, by rw [hv]; congr 1; omega⟩
  · exact ⟨_, cap, by rw [hv, h3]⟩
theorem Own.row {w : World} {base : Nat} {v : Value} {xs : List Int} (h : Own w base v xs) (hp : 0 < xs.length) : ∃ g c, v = .slice (some ⟨g, 0, none⟩) xs.length c ∧ base ≤ g ∧ g < w.heap.size ∧ xs.length ≤ c ∧ TabI w g xs := by
  have h' := h
  rcases h'.2 with ⟨_, e0⟩ | ⟨g, cap, cur, e, hb, hh, hle, _⟩
  · omega
  · subst e
    exact ⟨g, cap, rfl, hb, (Array.getElem?_eq_some_iff.1 hh).1, hle, h.tab.1⟩

end Go.Proofs.YtkddkkcfpnndlaaGreatDoor

namespace Go.Proofs.YtkddkkcfpnndlaaGreatDoor
open Go.RowKit Sale

theorem ORows.rows {w : World} {base : Nat} {v : Value} {xss : List (List Int)} (h : ORows w base v xss) (hb : ∀ xs, xs ∈ xss → xs.length ≤ 4611686018427387904) (hbig : xss.length ≤ 4611686018427387904) : ∃ a c, v = .slice a xss.length c ∧ Rows w a xss.length c xss :=
  (h.own hb).rows hbig
end Go.Proofs.YtkddkkcfpnndlaaGreatDoor

namespace Go.Proofs.YtkddkkcfpnndlaaGreatDoor
open Go.RowKit Sale

theorem Ints.take {w : World} {a : Option Addr} {n c : Nat} {xs : List Int} (h : Ints w a n c xs) {k : Nat} (hk : k ≤ n) : Ints w a k c (xs.take k) :=
  ⟨by rw [List.length_take, h.len]; omega, Nat.le_trans hk h.cap, by have := h.big; omega, fun h0 => h.addr (by omega), fun b o e j x hx => by
    have hj : j < k := by have := (List.getElem?_eq_some_iff.1 hx).1; simp at this; omega
    rw [List.getElem?_take_of_lt hj] at hx
    exact h.cell b o e j x hx, fun x hx => h.bd x (List.mem_of_mem_take hx), fun e => by have := h.nil e; omega⟩

end Go.Proofs.YtkddkkcfpnndlaaGreatDoor

namespace Go.Proofs.YtkddkkcfpnndlaaGreatDoor
open Go.RowKit Sale

/-- what the law is given, in memory -/
structure FSt (w0 : World) (B1 : Nat) (ga oa : Option Addr) (gn gc o_n oc : Nat) (gains : List (List Int)) (items : Int) (order : List Int) (wr : World) : Prop where
  v : VRow wr B1 24 [.slice ga gn gc, .int .i64 items]
  g : Rows wr ga gn gc gains
  o : Ints wr oa o_n oc order
  below : Below w0.heap.size w0 wr
theorem FSt.step {w0 : World} {B1 : Nat} {ga oa : Option Addr} {gn gc o_n oc : Nat} {gains : List (List Int)} {items : Int} {order : List Int} {wr wr' : World} (h : FSt w0 B1 ga oa gn gc o_n oc gains items order wr) (hb : Below wr.heap.size wr wr') : FSt w0 B1 ga oa gn gc o_n oc gains items order wr' :=
  ⟨h.v.below hb h.v.lt, h.g.below hb (Nat.le_refl _), h.o.below hb (Nat.le_refl _), h.below.trans (hb.mono h.below.size)⟩
/-- the law's copies -/
structure TSt (l5 B c M : Nat) (vals : List Value) (gs : List Nat) (gains : List (List Int)) (l6 g6 c6 : Nat) (order : List Int) (wr : World) : Prop where
  x : RowsF wr l5 B c M vals gs gains
  y : RowF wr l6 g6 c6 order
theorem TSt.step {l5 B c M : Nat} {vals : List Value} {gs : List Nat} {gains : List (List Int)} {l6 g6 c6 : Nat} {order : List Int} {wr wr' : World} (h : TSt l5 B c M vals gs gains l6 g6 c6 order wr) (hb : Below wr.heap.size wr wr') : TSt l5 B c M vals gs gains l6 g6 c6 order wr' :=
  ⟨h.x.below hb (Nat.le_refl _), h.y.below hb (Nat.le_refl _)⟩
/-- lists that lie apart, below a bound -/
structure GSt (lo hi : Nat) (rs : List Slc) (x : Slc) (wr : World) : Prop where
  a : Seg 3 wr lo hi rs
  b : Seg 25 wr lo hi [x]
  le : hi ≤ wr.heap.size
theorem GSt.step {lo hi : Nat} {rs : List Slc} {x : Slc} {wr wr' : World} (h : GSt lo hi rs x wr) (hb : Below wr.heap.size wr wr') : GSt lo hi rs x wr' :=
  ⟨h.a.keep (hb.mono h.le), h.b.keep (hb.mono h.le), Nat.le_trans h.le hb.size⟩
theorem GSt.more {lo hi : Nat} {rs : List Slc} {x y : Slc} {wr : World} (h : GSt lo hi rs x wr) (h2 : Seg 3 wr hi wr.heap.size [y]) (hl : lo ≤ hi) : GSt lo wr.heap.size (rs ++ [y]) x wr :=
  ⟨h.a.append h2 hl h.le, h.b.wide (Nat.le_refl _) h.le, Nat.le_refl _⟩
theorem GSt.wide {lo hi : Nat} {rs : List Slc} {x : Slc} {wr : World} (h : GSt lo hi rs x wr) : GSt lo wr.heap.size rs x wr :=
  ⟨h.a.wide (Nat.le_refl _) h.le, h.b.wide (Nat.le_refl _) h.le, Nat.le_refl _⟩
end Go.Proofs.YtkddkkcfpnndlaaGreatDoor

namespace Go.Proofs.YtkddkkcfpnndlaaGreatDoor
open Go.RowKit Sale

/-- what a law is given, in memory: a market and a list -/
structure QSt (w0 : World) (B1 : Nat) (ra ba oa ha : Option Addr) (rn rc bn bc on oc hn hc : Nat) (m : Mkt) (has : List Int) (wr : World) : Prop where
  v : VRow wr B1 57 [.slice ra rn rc, .slice ba bn bc, .slice oa on oc]
  m : MktAt wr ra ba oa rn rc bn bc on oc m
  h : Ints wr ha hn hc has
  below : Below w0.heap.size w0 wr
theorem QSt.step {w0 : World} {B1 : Nat} {ra ba oa ha : Option Addr} {rn rc bn bc on oc hn hc : Nat} {m : Mkt} {has : List Int} {wr wr' : World} (h : QSt w0 B1 ra ba oa ha rn rc bn bc on oc hn hc m has wr) (hb : Below wr.heap.size wr wr') : QSt w0 B1 ra ba oa ha rn rc bn bc on oc hn hc m has wr' :=
  ⟨h.v.below hb h.v.lt, h.m.below hb (Nat.le_refl _), h.h.below hb (Nat.le_refl _), h.below.trans (hb.mono h.below.size)⟩
/-- a market's twin, and where it is held -/
structure QX (BX base s1 s2 g1 x1 B xB M g3 x3 rn bn on : Nat) (vals : List Value) (gs : List Nat) (m : Mkt) (wr : World) : Prop where
  v : VRow wr BX 57 [.slice (some ⟨g1, 0, none⟩) rn x1, .slice (some ⟨B, 0, none⟩) bn xB, .slice (some ⟨g3, 0, none⟩) on x3]
  x : MktF wr base s1 s2 g1 x1 B xB M g3 x3 vals gs m
theorem QX.step {BX base s1 s2 g1 x1 B xB M g3 x3 rn bn on : Nat} {vals : List Value} {gs : List Nat} {m : Mkt} {wr wr' : World} (h : QX BX base s1 s2 g1 x1 B xB M g3 x3 rn bn on vals gs m wr) (hb : Below wr.heap.size wr wr') : QX BX base s1 s2 g1 x1 B xB M g3 x3 rn bn on vals gs m wr' :=
  ⟨h.v.below hb h.v.lt, h.x.step hb⟩
theorem MktAt.mbd2 {w : World} {ra ba oa : Option Addr} {rn rc bn bc on oc : Nat} {m : Mkt} (h : MktAt w ra ba oa rn rc bn bc on oc m) (h1 : rn ≤ 100000) (h2 : bn ≤ 100000) (h3 : on ≤ 100000) (hx : ∀ xs, xs ∈ m.bids → xs.length ≤ 100000) : MBd m := by
  have l1 := h.res.len
  have l2 := h.bids.len
  have l3 := h.ord.len
  refine ⟨⟨by omega, h.res.bd⟩, ⟨by omega, fun xs hxs => ⟨hx xs hxs, ?_⟩⟩, ⟨by omega, h.ord.bd⟩⟩
  obtain ⟨k, hk⟩ := List.getElem?_of_mem hxs
  have hkl := (List.getElem?_eq_some_iff.1 hk).1
  obtain ⟨b, o, e⟩ := h.bids.addr (by omega)
  obtain ⟨_, _, _, _, hi⟩ := h.bids.cell b o e k xs hk
  exact hi.bd
theorem LiesAt.up {w : World} {B B' : Nat} {a : Option Addr} {m : Nat} {rs : List Slc} (h : LiesAt w B a m rs) (hb : B ≤ B') : LiesAt w B' a m rs :=
  ⟨h.1, fun hp => by obtain ⟨b, o, e, hl, hc⟩ := h.2 hp; exact ⟨b, o, e, by omega, hc⟩⟩
end Go.Proofs.YtkddkkcfpnndlaaGreatDoor

namespace Go.Proofs.YtkddkkcfpnndlaaGreatDoor
open Go.RowKit Sale

/-- the bid that is told -/
def mineL (st : Bool) (bid : List Int) : List Int := if st then bid else []
theorem mineU_any (seq : Int) (st : Bool) (ra : Option Addr) (rn rc : Nat) (bid : List Int) (w : World) (h : Ints w ra rn rc bid) (hn : rn ≤ 1000) :
    Calls Tryz.prog 35 #[.agg #[.int .u32 seq, .bool st, .slice ra rn rc]] w fun e w' => ∃ a n, e = .returned (.agg #[.int .i64 0, .int .u32 seq, .int .u64 0, .int .u8 0, .int .u64 0, .bool st, .slice a n n, .int .i64 (-1), .int .i64 0, .slice none 0 0]) ∧
      Ints w' a n n (mineL st bid) ∧ Seg 3 w' w.heap.size w'.heap.size [⟨a, n, n⟩] ∧ n ≤ 1000 ∧ Below w.heap.size w w' := by
  cases st with
  | false =>
    refine (mineF_no seq ra rn rc bid w h).mono ?_
    rintro e w' ⟨a, rfl, -, hb⟩
    exact ⟨none, 0, rfl, Ints.empty _ _ _, Seg.one (.inl ⟨rfl, rfl⟩), by omega, hb⟩
  | true =>
    refine (mineF_yes seq ra rn rc bid w h (by omega)).mono ?_
    rintro e w' ⟨a, rfl, hi, hb⟩
    obtain ⟨h1, h2⟩ := hi rfl
    exact ⟨a, rn, rfl, h1, Seg.one h2, hn, hb⟩
theorem mine24U_any (seq : Int) (st : Bool) (ra : Option Addr) (rn rc : Nat) (bid : List Int) (w : World) (h : Ints w ra rn rc bid) (hn : rn ≤ 1000) :
    Calls Tryz.prog 42 #[.agg #[.int .u32 seq, .bool st, .slice ra rn rc]] w fun e w' => ∃ a n c, e = .returned (.agg #[.int .i64 0, .int .u32 seq, .int .u64 0, .int .u8 0, .int .u64 0, .bool st, .slice a n c, .int .i64 (-1), .int .i64 0, .slice none 0 0]) ∧
      Ints w' a n c (mineL st bid) ∧ Below w.heap.size w w' := by
  cases st with
  | false =>
    refine (mine24_no seq ra rn rc w).mono ?_
    rintro e w' ⟨rfl, hb⟩
    exact ⟨none, 0, 0, rfl, Ints.empty _ _ _, hb⟩
  | true =>
    refine (mine24_yes seq ra rn rc bid w h (by omega)).mono ?_
    rintro e w' ⟨a, c, rfl, hi, hb⟩
    exact ⟨a, rn, c, rfl, hi, hb⟩
/-- what is seen of an outcome -/
def seeI (m : Mkt) (o : Outc) (i : Int) : Int := if seesB m o i then o.has.getD i.toNat (-1) else 0
def seeP (m : Mkt) (o : Outc) (i : Int) : Int := if seesB m o i then paysV o i else 0
def seeE (m : Mkt) (o : Outc) (i : Int) : Int := if seesB m o i then 0 else 1
def SeeR (m : Mkt) (o : Outc) (i : Int) (w : World) (e : Ending) (w' : World) : Prop :=
  e = .returned (.tuple #[.agg #[.int .i64 0, .int .u32 0, .int .u64 0, .int .u8 0, .int .u64 0, .bool false, .slice none 0 0, .int .i64 (seeI m o i), .int .i64 (seeP m o i), .slice none 0 0], .int .i64 (seeE m o i)]) ∧ Below w.heap.size w w'
theorem see_of {m : Mkt} {o : Outc} {i : Int} {w w' : World} {e : Ending} (h : e = .returned (.tuple #[.agg (if seesB m o i then resRep o i else rep00).cells.toArray, .int .i64 (if seesB m o i then 0 else 1)]) ∧ Below w.heap.size w w') : SeeR m o i w e w' := by
  obtain ⟨rfl, hb⟩ := h
  refine ⟨?_, hb⟩
  unfold seeI seeP seeE
  cases seesB m o i <;> rfl
theorem GSt.add {lo hi : Nat} {rs ys : List Slc} {x : Slc} {wr : World} (h : GSt lo hi rs x wr) (h2 : Seg 3 wr hi wr.heap.size ys) (hl : lo ≤ hi) : GSt lo wr.heap.size (rs ++ ys) x wr :=
  ⟨h.a.append h2 hl h.le, h.b.wide (Nat.le_refl _) h.le, Nat.le_refl _⟩

/-- what the law is given, in memory -/
structure VSt (w0 : World) (B : Nat) (ea ra ba oa za ya : Option Addr) (en ec rn rc bn bc on oc zn zc yn yc : Nat) (seq : Int) (st : Bool) (bid : List Int) (m : Mkt) (zo : Outc) (zi ph now : Int) (W : World) : Prop where
  v : VRow W B 74 [.int .u32 seq, .bool st, .slice ea en ec, .slice ra rn rc, .slice ba bn bc, .slice oa on oc, .slice za zn zc, .slice ya yn yc, .int .i64 zi, .int .u8 ph, .int .u64 now]
  e : Ints W ea en ec bid
  m : MktAt W ra ba oa rn rc bn bc on oc m
  z : OutAt W za ya zn zc yn yc zo
  below : Below w0.heap.size w0 W
theorem VSt.step {w0 : World} {B : Nat} {ea ra ba oa za ya : Option Addr} {en ec rn rc bn bc on oc zn zc yn yc : Nat} {seq : Int} {st : Bool} {bid : List Int} {m : Mkt} {zo : Outc} {zi ph now : Int} {W W' : World}
    (h : VSt w0 B ea ra ba oa za ya en ec rn rc bn bc on oc zn zc yn yc seq st bid m zo zi ph now W) (hb : Below W.heap.size W W') : VSt w0 B ea ra ba oa za ya en ec rn rc bn bc on oc zn zc yn yc seq st bid m zo zi ph now W' :=
  ⟨h.v.below hb h.v.lt, h.e.below hb (Nat.le_refl _), h.m.below hb (Nat.le_refl _), h.z.below hb (Nat.le_refl _), h.below.trans (hb.mono h.below.size)⟩
/-- a record's twin, and where it is held -/
structure VRec (Br base ge xe en : Nat) (seq : Int) (st : Bool) (bid : List Int) (W : World) : Prop where
  v : VRow W Br 68 [.int .u32 seq, .bool st, .slice (some ⟨ge, 0, none⟩) en xe]
  f : RowF W base ge xe bid
theorem VRec.step {Br base ge xe en : Nat} {seq : Int} {st : Bool} {bid : List Int} {W W' : World} (h : VRec Br base ge xe en seq st bid W) (hb : Below W.heap.size W W') : VRec Br base ge xe en seq st bid W' :=
  ⟨h.v.below hb h.v.lt, h.f.below hb (Nat.le_refl _)⟩
/-- an outcome's twin, and where it is held -/
structure VOut (Bo base h1 d1 h2 d2 zn yn : Nat) (zo : Outc) (W : World) : Prop where
  v : VRow W Bo 70 [.slice (some ⟨h1, 0, none⟩) zn d1, .slice (some ⟨h2, 0, none⟩) yn d2]
  f : OutF W base h1 d1 h2 d2 zo
theorem VOut.step {Bo base h1 d1 h2 d2 zn yn : Nat} {zo : Outc} {W W' : World} (h : VOut Bo base h1 d1 h2 d2 zn yn zo W) (hb : Below W.heap.size W W') : VOut Bo base h1 d1 h2 d2 zn yn zo W' :=
  ⟨h.v.below hb h.v.lt, h.f.step hb⟩
/-- Mine's answer, and where it is held -/
structure VMin (Ba : Nat) (aa : Option Addr) (an : Nat) (seq : Int) (st : Bool) (bid : List Int) (W : World) : Prop where
  v : VRow W Ba 79 [.int .i64 0, .int .u32 seq, .int .u64 0, .int .u8 0, .int .u64 0, .bool st, .slice aa an an, .int .i64 (-1), .int .i64 0, .slice none 0 0]
  i : Ints W aa an an (mineL st bid)
theorem VMin.step {Ba : Nat} {aa : Option Addr} {an : Nat} {seq : Int} {st : Bool} {bid : List Int} {W W' : World} (h : VMin Ba aa an seq st bid W) (hb : Below W.heap.size W W') : VMin Ba aa an seq st bid W' :=
  ⟨h.v.below hb h.v.lt, h.i.below hb (Nat.le_refl _)⟩
/-- what is seen of an outcome, held in a box -/
def VSee (Bb : Nat) (it py : Int) (W : World) : Prop := VRow W Bb 79 [.int .i64 0, .int .u32 0, .int .u64 0, .int .u8 0, .int .u64 0, .bool false, .slice none 0 0, .int .i64 it, .int .i64 py, .slice none 0 0]
theorem VSee.step {Bb : Nat} {it py : Int} {W W' : World} (h : VSee Bb it py W) (hb : Below W.heap.size W W') : VSee Bb it py W' := VRow.below h hb (VRow.lt h)
/-- the book, and the lists it was told of -/
structure VBk (lo Bk n : Nat) (sB sI sL : List Slc) (W : World) : Prop where
  k : BookHas W Bk n sB sI sL
  gB : Seg 5 W lo Bk sB
  gI : Seg 3 W lo Bk sI
  gL : Seg 25 W lo Bk sL
  le : Bk ≤ W.heap.size
theorem VBk.step {lo Bk n : Nat} {sB sI sL : List Slc} {W W' : World} (h : VBk lo Bk n sB sI sL W) (hb : Below W.heap.size W W') : VBk lo Bk n sB sI sL W' :=
  ⟨h.k.step hb, h.gB.keep (hb.mono h.le), h.gI.keep (hb.mono h.le), h.gL.keep (hb.mono h.le), Nat.le_trans h.le hb.size⟩
end Go.Proofs.YtkddkkcfpnndlaaGreatDoor

namespace Go.Proofs.YtkddkkcfpnndlaaGreatDoor
open Go.RowKit Sale

/-- what each operation of the law's last region yields -/
def VPI (B0 : Nat) (rec' recT mk mkT ou ouT A BV stt : Value) (er ph now seq : Int) (st : Bool) (bid : List Int) (i : Nat) (y : Value) (W : World) : Prop :=
  (i = 3 → ∃ a n c, y = .agg #[.int .i64 0, .int .u32 seq, .int .u64 0, .int .u8 0, .int .u64 0, .bool st, .slice a n c, .int .i64 (-1), .int .i64 0, .slice none 0 0] ∧ Ints W a n c (mineL st bid)) ∧
  (i ≠ 3 → y = ([A, .pointer (some ⟨B0, 0, none⟩), rec', undef, .bool true, .bool true, .int .i64 er, .int .i64 er, .bool true, .bool true, .bool true, BV, BV, .bool true, .bool true, .bool true, .pointer (some ⟨B0, 9, none⟩), .int .u8 ph, .pointer (some ⟨B0, 10, none⟩), .int .u64 now, stt, .pointer (some ⟨B0, 9, none⟩), .int .u8 ph, .pointer (some ⟨B0, 10, none⟩), .int .u64 now, stt, .bool true, .bool true, .bool true, recT, .pointer (some ⟨B0, 0, none⟩), rec', .bool true, .bool true, .bool true, mkT, .pointer (some ⟨B0, 3, none⟩), mk, .bool true, .bool true, .bool true, ouT, .pointer (some ⟨B0, 6, none⟩), ou, .bool true, .bool true, .bool true, .bool true, .bool true, .bool true, .bool true, .bool true] : List Value).getD i undef)
theorem VPI_pure {B0 : Nat} {rec' recT mk mkT ou ouT A BV stt : Value} {er ph now seq : Int} {st : Bool} {bid : List Int} {i : Nat} (hi : i ≠ 3) {y : Value} {w w' : World} (h : VPI B0 rec' recT mk mkT ou ouT A BV stt er ph now seq st bid i y w) : VPI B0 rec' recT mk mkT ou ouT A BV stt er ph now seq st bid i y w' := by
  exact ⟨fun e => absurd e hi, h.2⟩
theorem VPI_mono {B0 : Nat} {rec' recT mk mkT ou ouT A BV stt : Value} {er ph now seq : Int} {st : Bool} {bid : List Int} (j : Nat) (y : Value) (w w' : World) (hb : Below w.heap.size w w') (h : VPI B0 rec' recT mk mkT ou ouT A BV stt er ph now seq st bid j y w) : VPI B0 rec' recT mk mkT ou ouT A BV stt er ph now seq st bid j y w' := by
  by_cases e : j = 3
  · subst e
    obtain ⟨a, n, c, e, hi⟩ := h.1 rfl
    exact ⟨fun _ => ⟨a, n, c, e, hi.below hb (Nat.le_refl _)⟩, fun h => absurd rfl h⟩
  · exact VPI_pure e h
def VPI_dead (i : Nat) : Bool := i == 3

/-- all that is held when the law ends -/
structure VPre (w0 : World) (B0 Br baR ge xe Bm baM s1 s2 g1 x1 B xB M g3 x3 : Nat) (vals : List Value) (gs : List Nat) (Bo baO h1 d1 h2 d2 Ba : Nat) (aa : Option Addr) (an Bb Bc : Nat) (it py : Int) (lo Bk n : Nat) (sB sI sL : List Slc)
    (ea ra ba oa za ya : Option Addr) (en ec rn rc bn bc on oc zn zc yn yc : Nat) (seq : Int) (st : Bool) (bid : List Int) (m : Mkt) (zo : Outc) (zi ph now : Int) (W : World) : Prop where
  s : VSt w0 B0 ea ra ba oa za ya en ec rn rc bn bc on oc zn zc yn yc seq st bid m zo zi ph now W
  r : VRec Br baR ge xe en seq st bid W
  x : QX Bm baM s1 s2 g1 x1 B xB M g3 x3 rn bn on vals gs m W
  o : VOut Bo baO h1 d1 h2 d2 zn yn zo W
  a : VMin Ba aa an seq st bid W
  b : VSee Bb it py W
  c : VSee Bc it py W
  k : VBk lo Bk n sB sI sL W
theorem VPre.step {w0 : World} {B0 Br baR ge xe Bm baM s1 s2 g1 x1 B xB M g3 x3 : Nat} {vals : List Value} {gs : List Nat} {Bo baO h1 d1 h2 d2 Ba : Nat} {aa : Option Addr} {an Bb Bc : Nat} {it py : Int} {lo Bk n : Nat} {sB sI sL : List Slc}
    {ea ra ba oa za ya : Option Addr} {en ec rn rc bn bc on oc zn zc yn yc : Nat} {seq : Int} {st : Bool} {bid : List Int} {m : Mkt} {zo : Outc} {zi ph now : Int} {W W' : World}
    (h : VPre w0 B0 Br baR ge xe Bm baM s1 s2 g1 x1 B xB M g3 x3 vals gs Bo baO h1 d1 h2 d2 Ba aa an Bb Bc it py lo Bk n sB sI sL ea ra ba oa za ya en ec rn rc bn bc on oc zn zc yn yc seq st bid m zo zi ph now W) (hb : Below W.heap.size W W') :
    VPre w0 B0 Br baR ge xe Bm baM s1 s2 g1 x1 B xB M g3 x3 vals gs Bo baO h1 d1 h2 d2 Ba aa an Bb Bc it py lo Bk n sB sI sL ea ra ba oa za ya en ec rn rc bn bc on oc zn zc yn yc seq st bid m zo zi ph now W' :=
  ⟨h.s.step hb, h.r.step hb, h.x.step hb, h.o.step hb, h.a.step hb, h.b.step hb, h.c.step hb, h.k.step hb⟩

set_option maxRecDepth 100000 in
set_option maxHeartbeats 16000000 in
theorem viewsOf_any (ea ra ba oa za ya : Option Addr) (en ec rn rc bn bc on oc zn zc yn yc : Nat) (seq : Int) (st : Bool) (bid : List Int) (m : Mkt) (zo : Outc) (zi ph now : Int) (w : World)
    (he : Ints w ea en ec bid) (hm : MktAt w ra ba oa rn rc bn bc on oc m) (hz : OutAt w za ya zn zc yn yc zo) (hs : Short rn bn on m) (l1 : en ≤ 17592186044416) (l2 : zn ≤ 17592186044416) (l3 : yn ≤ 17592186044416) (hzi : -9223372036854775808 ≤ zi ∧ zi ≤ 9223372036854775807) :
    Calls Tryz.prog 6 #[.agg #[.int .u32 seq, .bool st, .slice ea en ec, .slice ra rn rc, .slice ba bn bc, .slice oa on oc, .slice za zn zc, .slice ya yn yc, .int .i64 zi, .int .u8 ph, .int .u64 now]] w fun e w' => e = .returned (.bool true) ∧ Below w.heap.size w w' := by
  have HLEN := Lib.hid (And.intro he.len (And.intro hm.res.len (And.intro hm.bids.len (And.intro hm.ord.len (And.intro hz.has.len hz.prices.len)))))
  obtain ⟨w1, hw1⟩ : ∃ w1, w1 = w.alloc (.cells #[.int .u32 seq, .bool st, .slice ea en ec, .slice ra rn rc, .slice ba bn bc, .slice oa on oc, .slice za zn zc, .slice ya yn yc, .int .i64 zi, .int .u8 ph, .int .u64 now] 74) := ⟨_, rfl⟩
  have hb1 : Below w.heap.size w w1 := by rw [hw1]; exact (Below.refl _ _).alloc (Nat.le_refl _) _
  have hv1 : VRow w1 w.heap.size 74 [.int .u32 seq, .bool st, .slice ea en ec, .slice ra rn rc, .slice ba bn bc, .slice oa on oc, .slice za zn zc, .slice ya yn yc, .int .i64 zi, .int .u8 ph, .int .u64 now] := by rw [hw1]; exact heap_alloc_new w _
  have HS1 := Lib.hid (show VSt w w.heap.size ea ra ba oa za ya en ec rn rc bn bc on oc zn zc yn yc seq st bid m zo zi ph now w1 from ⟨hv1, he.below hb1 (Nat.le_refl _), hm.below hb1 (Nat.le_refl _), hz.below hb1 (Nat.le_refl _), hb1⟩)
  clear hb1 hv1 he hm hz
  have HS := Lib.hid hs; clear hs
  have HZI := Lib.hid hzi; clear hzi
  have hw1' := hw1.symm; clear hw1
  have hww := HS1.out.below.size
  have p3 := HS1.out.v.cell (k := 3) rfl
  have p4 := HS1.out.v.cell (k := 4) rfl
  have p5 := HS1.out.v.cell (k := 5) rfl
  go_enter Tryz.func6, Tryz.ntmps6
  go_wp2_with fail
  try rw [hw1']
  clear hw1'
  refine (marketSize_any ra ba oa rn rc bn bc on oc m w1 HS1.out.m HS.out.r HS.out.b HS.out.o HS.out.x).mono ?_
  rintro e w2 ⟨s, rfl, hs1, hs2, hb⟩
  have HSZ := Lib.hid hs2; clear hs2
  have HS2 := Lib.hid (HS1.out.step hb)
  have hz2 := hb.size
  clear hb HS1 p3 p4 p5
  obtain ⟨B0, hB0⟩ : ∃ B0, B0 = w.heap.size := ⟨_, rfl⟩
  have HS2' := Lib.hid (show VSt w B0 ea ra ba oa za ya en ec rn rc bn bc on oc zn zc yn yc seq st bid m zo zi ph now w2 by rw [hB0]; exact HS2.out)
  rw [← hB0]
  clear hB0 HS2
  have HS2 := HS2'; clear HS2'
  have p0 := HS2.out.v.cell (k := 0) rfl
  have p1 := HS2.out.v.cell (k := 1) rfl
  have p2 := HS2.out.v.cell (k := 2) rfl
  have p3 := HS2.out.v.cell (k := 3) rfl
  have p4 := HS2.out.v.cell (k := 4) rfl
  have p5 := HS2.out.v.cell (k := 5) rfl
  have p6 := HS2.out.v.cell (k := 6) rfl
  have p7 := HS2.out.v.cell (k := 7) rfl
  have p8 := HS2.out.v.cell (k := 8) rfl
  obtain ⟨hs10, hs11⟩ := hs1
  by_cases g1 : 1000 < s
  · have e1 : decide (1000 < s) = true := by simpa using g1
    go_wp2_with fail
    refine (lives24_any w2).mono ?_
    rintro e w3 ⟨rfl, hb⟩
    have HS3 := Lib.hid (HS2.out.step hb); clear hb
    go_wp2_with fail
    go_ret
    exact ⟨rfl, HS3.out.below⟩
  have e1 : decide (1000 < s) = false := by simpa using g1
  by_cases g2 : 1000 < (zn : Int) + yn + en
  · have e2 : decide (1000 < (zn : Int) + yn + en) = true := by simpa using g2
    go_wp2_with fail
    refine (lives24_any w2).mono ?_
    rintro e w3 ⟨rfl, hb⟩
    have HS3 := Lib.hid (HS2.out.step hb); clear hb
    go_wp2_with fail
    go_ret
    exact ⟨rfl, HS3.out.below⟩
  have e2 : decide (1000 < (zn : Int) + yn + en) = false := by simpa using g2
  obtain ⟨z1, z2, z3, z4⟩ := HSZ.out (by omega)
  rw [HLEN.out.2.1] at z1
  rw [HLEN.out.2.2.1] at z2
  rw [HLEN.out.2.2.2.1] at z3
  have HMB := Lib.hid (HS2.out.m.mbd2 (by omega) (by omega) (by omega) (fun xs hx => by have := z4 xs hx; omega))
  have HZ4 := Lib.hid z4; clear z4
  have y1 : en ≤ 1000 := by omega
  have y2 : zn ≤ 1000 := by omega
  have y3 : yn ≤ 1000 := by omega
  clear HSZ
  go_wp2_with fail
  clear e1 e2 g1 g2 hs10 hs11
  refine (twinRecordF_any seq st ea en ec bid w2 HS2.out.e (by omega)).mono ?_
  rintro e w3 ⟨ge, xe, rfl, hR, hb3⟩
  have HS3 := Lib.hid (HS2.out.step hb3)
  have hz3 := hb3.size
  have HGR := Lib.hid (TwinF.seg hR HLEN.out.1)
  clear hb3
  clear p0 p1 p2 p3 p4 p5 p6 p7 p8
  obtain ⟨w4, hw4⟩ : ∃ w4, w4 = w3.alloc (.cells #[.int .u32 seq, .bool st, .slice (some ⟨ge, 0, none⟩) en xe] 68) := ⟨_, rfl⟩
  have hb4 : Below w3.heap.size w3 w4 := by rw [hw4]; exact (Below.refl _ _).alloc (Nat.le_refl _) _
  have hvR : VRow w4 w3.heap.size 68 [.int .u32 seq, .bool st, .slice (some ⟨ge, 0, none⟩) en xe] := by rw [hw4]; exact heap_alloc_new w3 _
  have hw4' := hw4.symm; clear hw4
  have HS4 := Lib.hid (HS3.out.step hb4)
  have HR4 := Lib.hid (show VRec w3.heap.size w2.heap.size ge xe en seq st bid w4 from ⟨hvR, hR.below hb4 (Nat.le_refl _)⟩)
  have HGR4 := Lib.hid ((HGR.out.keep hb4).wide (Nat.le_refl _) hb4.size)
  have hz4 := hb4.size
  clear hvR hR hb4 HS3 HGR
  have p3 := HS4.out.v.cell (k := 3) rfl
  have p4 := HS4.out.v.cell (k := 4) rfl
  have p5 := HS4.out.v.cell (k := 5) rfl
  have p6 := HS4.out.v.cell (k := 6) rfl
  have p7 := HS4.out.v.cell (k := 7) rfl
  have p8 := HS4.out.v.cell (k := 8) rfl
  go_wp2_with fail
  try rw [hw4']
  clear hw4'
  refine (twinMarketF_any ra ba oa rn rc bn bc on oc m w4 HS4.out.m (by omega) (by omega) (by omega) (fun xs hx => by have := HZ4.out xs hx; omega)).mono ?_
  rintro e w5 ⟨g1, x1, B, xB, M, g3, x3, s1, s2, vals, gs, rfl, hX, hb5⟩
  have HS5 := Lib.hid (HS4.out.step hb5)
  have HR5 := Lib.hid (HR4.out.step hb5)
  have hz5 := hb5.size
  have hsg := hX.seg HLEN.out.2.1 HLEN.out.2.2.1 HLEN.out.2.2.2.1
  have HG5 := Lib.hid (show GSt w2.heap.size w5.heap.size ([⟨some ⟨ge, 0, none⟩, en, xe⟩] ++ ([⟨some ⟨g1, 0, none⟩, rn, x1⟩] ++ vals.map toSlc ++ [⟨some ⟨g3, 0, none⟩, on, x3⟩])) ⟨some ⟨B, 0, none⟩, bn, xB⟩ w5 from ⟨(HGR4.out.keep hb5).append hsg.1 (by omega) hz5, hsg.2.1.wide (by omega) (Nat.le_refl _), Nat.le_refl _⟩)
  have HLI5 := Lib.hid hsg.2.2
  clear hb5 hsg HS4 HR4 HGR4 p3 p4 p5 p6 p7 p8
  obtain ⟨w6, hw6⟩ : ∃ w6, w6 = w5.alloc (.cells #[.slice (some ⟨g1, 0, none⟩) rn x1, .slice (some ⟨B, 0, none⟩) bn xB, .slice (some ⟨g3, 0, none⟩) on x3] 57) := ⟨_, rfl⟩
  have hb6 : Below w5.heap.size w5 w6 := by rw [hw6]; exact (Below.refl _ _).alloc (Nat.le_refl _) _
  have hvX : VRow w6 w5.heap.size 57 [.slice (some ⟨g1, 0, none⟩) rn x1, .slice (some ⟨B, 0, none⟩) bn xB, .slice (some ⟨g3, 0, none⟩) on x3] := by rw [hw6]; exact heap_alloc_new w5 _
  have hw6' := hw6.symm; clear hw6
  have HS6 := Lib.hid (HS5.out.step hb6)
  have HR6 := Lib.hid (HR5.out.step hb6)
  have HX6 := Lib.hid (show QX w5.heap.size w4.heap.size s1 s2 g1 x1 B xB M g3 x3 rn bn on vals gs m w6 from ⟨hvX, hX.step hb6⟩)
  have HG6 := Lib.hid (HG5.out.step hb6).wide
  have HLI6 := Lib.hid ((HLI5.out.keep hb6).up hb6.size)
  have hz6 := hb6.size
  clear hX hvX hb6 HG5 HLI5 HS5 HR5
  have p6 := HS6.out.v.cell (k := 6) rfl
  have p7 := HS6.out.v.cell (k := 7) rfl
  have p8 := HS6.out.v.cell (k := 8) rfl
  go_wp2_with fail
  try rw [hw6']
  clear hw6'
  refine (twinOutcomeF_any za ya zn zc yn yc zo w6 HS6.out.z (by omega) (by omega)).mono ?_
  rintro e w7 ⟨h1, d1, h2, d2, rfl, hY, hb7⟩
  have HS7 := Lib.hid (HS6.out.step hb7)
  have HR7 := Lib.hid (HR6.out.step hb7)
  have HX7 := Lib.hid (HX6.out.step hb7)
  have HG7 := Lib.hid ((HG6.out.step hb7).add (hY.seg HLEN.out.2.2.2.2.1 HLEN.out.2.2.2.2.2) (by omega))
  have HLI7 := Lib.hid ((HLI6.out.keep hb7).up hb7.size)
  have hz7 := hb7.size
  clear hb7 HS6 HR6 HX6 HG6 HLI6 p6 p7 p8
  obtain ⟨w8, hw8⟩ : ∃ w8, w8 = w7.alloc (.cells #[.slice (some ⟨h1, 0, none⟩) zn d1, .slice (some ⟨h2, 0, none⟩) yn d2] 70) := ⟨_, rfl⟩
  have hb8 : Below w7.heap.size w7 w8 := by rw [hw8]; exact (Below.refl _ _).alloc (Nat.le_refl _) _
  have hvY : VRow w8 w7.heap.size 70 [.slice (some ⟨h1, 0, none⟩) zn d1, .slice (some ⟨h2, 0, none⟩) yn d2] := by rw [hw8]; exact heap_alloc_new w7 _
  have hw8' := hw8.symm; clear hw8
  have HS8 := Lib.hid (HS7.out.step hb8)
  have HR8 := Lib.hid (HR7.out.step hb8)
  have HX8 := Lib.hid (HX7.out.step hb8)
  have HO8 := Lib.hid (show VOut w7.heap.size w6.heap.size h1 d1 h2 d2 zn yn zo w8 from ⟨hvY, hY.step hb8⟩)
  have HG8 := Lib.hid (HG7.out.step hb8).wide
  have HLI8 := Lib.hid ((HLI7.out.keep hb8).up hb8.size)
  have hz8 := hb8.size
  clear hY hvY hb8 HS7 HR7 HX7 HG7 HLI7
  have hir := HR8.out.f.ints (by have := HLEN.out.1; omega) HS8.out.e.bd
  rw [HLEN.out.1] at hir
  have HIR := Lib.hid hir; clear hir
  have q0 := HR8.out.v.cell (k := 0) rfl
  have q1 := HR8.out.v.cell (k := 1) rfl
  have q2 := HR8.out.v.cell (k := 2) rfl
  go_wp2_with fail
  try rw [hw8']
  clear hw8'
  refine (mineU_any seq st (some ⟨ge, 0, none⟩) en xe bid w8 HIR.out y1).mono ?_
  rintro e w9 ⟨aa, an, rfl, hA, hSa, han, hb9⟩
  have HS9 := Lib.hid (HS8.out.step hb9)
  have HR9 := Lib.hid (HR8.out.step hb9)
  have HX9 := Lib.hid (HX8.out.step hb9)
  have HO9 := Lib.hid (HO8.out.step hb9)
  have HG9 := Lib.hid ((HG8.out.step hb9).add hSa (by omega))
  have HLI9 := Lib.hid ((HLI8.out.keep hb9).up hb9.size)
  have hz9 := hb9.size
  clear hb9 hSa HIR HS8 HR8 HX8 HO8 HG8 HLI8 q0 q1 q2
  obtain ⟨w10, hw10⟩ : ∃ w10, w10 = w9.alloc (.cells #[.int .i64 0, .int .u32 seq, .int .u64 0, .int .u8 0, .int .u64 0, .bool st, .slice aa an an, .int .i64 (-1), .int .i64 0, .slice none 0 0] 79) := ⟨_, rfl⟩
  have hb10 : Below w9.heap.size w9 w10 := by rw [hw10]; exact (Below.refl _ _).alloc (Nat.le_refl _) _
  have hvA : VRow w10 w9.heap.size 79 [.int .i64 0, .int .u32 seq, .int .u64 0, .int .u8 0, .int .u64 0, .bool st, .slice aa an an, .int .i64 (-1), .int .i64 0, .slice none 0 0] := by rw [hw10]; exact heap_alloc_new w9 _
  have HW10 := Lib.hid hw10.symm; clear hw10
  have HS10 := Lib.hid (HS9.out.step hb10)
  have HR10 := Lib.hid (HR9.out.step hb10)
  have HX10 := Lib.hid (HX9.out.step hb10)
  have HO10 := Lib.hid (HO9.out.step hb10)
  have HA10 := Lib.hid (show VMin w9.heap.size aa an seq st bid w10 from ⟨hvA, hA.below hb10 (Nat.le_refl _)⟩)
  have HG10 := Lib.hid (HG9.out.step hb10).wide
  have HLI10 := Lib.hid ((HLI9.out.keep hb10).up hb10.size)
  have hz10 := hb10.size
  clear hA hvA hb10 HS9 HR9 HX9 HO9 HG9 HLI9
  obtain ⟨it, hit⟩ : ∃ it, it = seeI m zo zi := ⟨_, rfl⟩
  obtain ⟨py, hpy⟩ : ∃ py, py = seeP m zo zi := ⟨_, rfl⟩
  obtain ⟨er, her⟩ : ∃ er, er = seeE m zo zi := ⟨_, rfl⟩
  have HMX := Lib.hid (HX10.out.x.mkt HMB.out HLEN.out.2.1 HLEN.out.2.2.1 HLEN.out.2.2.2.1)
  have HOX := Lib.hid (HO10.out.f.out HLEN.out.2.2.2.2.1 HLEN.out.2.2.2.2.2 (by omega) (by omega) HS10.out.z.has.bd HS10.out.z.prices.bd)
  have HSE := Lib.hid ((result_any (some ⟨g1, 0, none⟩) (some ⟨B, 0, none⟩) (some ⟨g3, 0, none⟩) (some ⟨h1, 0, none⟩) (some ⟨h2, 0, none⟩) rn x1 bn xB on x3 zn d1 yn d2 m zo zi w10 HMX.out HOX.out HZI.out).mono fun _ _ h => see_of h)
  unfold SeeR at HSE
  rw [← hit, ← hpy, ← her] at HSE
  have q0 := HX10.out.v.cell (k := 0) rfl
  have q1 := HX10.out.v.cell (k := 1) rfl
  have q2 := HX10.out.v.cell (k := 2) rfl
  have r0 := HO10.out.v.cell (k := 0) rfl
  have r1 := HO10.out.v.cell (k := 1) rfl
  have p8 := HS10.out.v.cell (k := 8) rfl
  rw [← HW10.out] at q0 q1 q2 r0 r1 p8
  go_wp2_with fail
  rw [HW10.out]
  refine HSE.out.mono ?_
  rintro e w11 ⟨rfl, hb11⟩
  have HS11 := Lib.hid (HS10.out.step hb11)
  have HR11 := Lib.hid (HR10.out.step hb11)
  have HX11 := Lib.hid (HX10.out.step hb11)
  have HO11 := Lib.hid (HO10.out.step hb11)
  have HA11 := Lib.hid (HA10.out.step hb11)
  have HG11 := Lib.hid (HG10.out.step hb11).wide
  have HLI11 := Lib.hid ((HLI10.out.keep hb11).up hb11.size)
  have hz11 := hb11.size
  clear hb11 HMX HOX HSE HS10 HR10 HX10 HO10 HA10 HG10 HLI10 q0 q1 q2 r0 r1 p8
  obtain ⟨w12, hw12⟩ : ∃ w12, w12 = w11.alloc (.cells #[.int .i64 0, .int .u32 0, .int .u64 0, .int .u8 0, .int .u64 0, .bool false, .slice none 0 0, .int .i64 it, .int .i64 py, .slice none 0 0] 79) := ⟨_, rfl⟩
  have hb12 : Below w11.heap.size w11 w12 := by rw [hw12]; exact (Below.refl _ _).alloc (Nat.le_refl _) _
  have hvB : VRow w12 w11.heap.size 79 [.int .i64 0, .int .u32 0, .int .u64 0, .int .u8 0, .int .u64 0, .bool false, .slice none 0 0, .int .i64 it, .int .i64 py, .slice none 0 0] := by rw [hw12]; exact heap_alloc_new w11 _
  have HW12 := Lib.hid hw12.symm; clear hw12
  have HS12 := Lib.hid (HS11.out.step hb12)
  have HR12 := Lib.hid (HR11.out.step hb12)
  have HX12 := Lib.hid (HX11.out.step hb12)
  have HO12 := Lib.hid (HO11.out.step hb12)
  have HA12 := Lib.hid (HA11.out.step hb12)
  have HB12 := Lib.hid (show VSee w11.heap.size it py w12 from hvB)
  have HG12 := Lib.hid (HG11.out.step hb12).wide
  have HLI12 := Lib.hid ((HLI11.out.keep hb12).up hb12.size)
  have hz12 := hb12.size
  clear hvB hb12 HS11 HR11 HX11 HO11 HA11 HG11 HLI11
  have HSE := Lib.hid ((result24_any ra ba oa za ya rn rc bn bc on oc zn zc yn yc m zo zi w12 HS12.out.m HS12.out.z).mono fun _ _ h => see_of h)
  unfold SeeR at HSE
  rw [← hit, ← hpy, ← her] at HSE
  clear hit hpy her
  have p3 := HS12.out.v.cell (k := 3) rfl
  have p4 := HS12.out.v.cell (k := 4) rfl
  have p5 := HS12.out.v.cell (k := 5) rfl
  have p6 := HS12.out.v.cell (k := 6) rfl
  have p7 := HS12.out.v.cell (k := 7) rfl
  have p8 := HS12.out.v.cell (k := 8) rfl
  rw [← HW12.out] at p3 p4 p5 p6 p7 p8
  go_wp2_with fail
  rw [HW12.out]
  refine HSE.out.mono ?_
  rintro e w13 ⟨rfl, hb13⟩
  have HS13 := Lib.hid (HS12.out.step hb13)
  have HR13 := Lib.hid (HR12.out.step hb13)
  have HX13 := Lib.hid (HX12.out.step hb13)
  have HO13 := Lib.hid (HO12.out.step hb13)
  have HA13 := Lib.hid (HA12.out.step hb13)
  have HB13 := Lib.hid (HB12.out.step hb13)
  have HG13 := Lib.hid (HG12.out.step hb13).wide
  have HLI13 := Lib.hid ((HLI12.out.keep hb13).up hb13.size)
  have hz13 := hb13.size
  clear hb13 HSE HS12 HR12 HX12 HO12 HA12 HB12 HG12 HLI12 p3 p4 p5 p6 p7 p8
  obtain ⟨w14, hw14⟩ : ∃ w14, w14 = w13.alloc (.cells #[.int .i64 0, .int .u32 0, .int .u64 0, .int .u8 0, .int .u64 0, .bool false, .slice none 0 0, .int .i64 it, .int .i64 py, .slice none 0 0] 79) := ⟨_, rfl⟩
  have hb14 : Below w13.heap.size w13 w14 := by rw [hw14]; exact (Below.refl _ _).alloc (Nat.le_refl _) _
  have hvC : VRow w14 w13.heap.size 79 [.int .i64 0, .int .u32 0, .int .u64 0, .int .u8 0, .int .u64 0, .bool false, .slice none 0 0, .int .i64 it, .int .i64 py, .slice none 0 0] := by rw [hw14]; exact heap_alloc_new w13 _
  have hs14 : w14.heap.size = w13.heap.size + 1 := by rw [hw14]; simp
  have HW14 := Lib.hid hw14.symm; clear hw14
  have HS14 := Lib.hid (HS13.out.step hb14)
  have HR14 := Lib.hid (HR13.out.step hb14)
  have HX14 := Lib.hid (HX13.out.step hb14)
  have HO14 := Lib.hid (HO13.out.step hb14)
  have HA14 := Lib.hid (HA13.out.step hb14)
  have HB14 := Lib.hid (HB13.out.step hb14)
  have HC14 := Lib.hid (show VSee w13.heap.size it py w14 from hvC)
  have HG14 := Lib.hid (((HG13.out.step hb14).wide).add (Seg.one (a := none) (n := 0) (c := 0) (.inl ⟨rfl, rfl⟩)) (by have := hb14.size; omega))
  have HLI14 := Lib.hid ((HLI13.out.keep hb14).up hb14.size)
  have hz14 := hb14.size
  clear hvC hb14 HS13 HR13 HX13 HO13 HA13 HB13 HG13 HLI13
  have hbk := BookHas.new w14
  obtain ⟨w15, hw15⟩ : ∃ w15, w15 = w14.alloc (.cells #[.int .i64 0, .slice none 0 0, .slice none 0 0, .slice none 0 0, .slice none 0 0, .slice none 0 0, .slice none 0 0, .slice none 0 0, .slice none 0 0, .slice none 0 0] 44) := ⟨_, rfl⟩
  rw [← hw15] at hbk
  have hb15 : Below w14.heap.size w14 w15 := by rw [hw15]; exact (Below.refl _ _).alloc (Nat.le_refl _) _
  have HLI15 := Lib.hid (HLI14.out.keep hb15)
  have HK15 := Lib.hid hbk; clear hbk
  have HB15 := Lib.hid hb15; clear hb15
  obtain ⟨Bk, hBk⟩ : ∃ Bk, Bk = w13.heap.size + 1 := ⟨_, rfl⟩
  rw [hs14, ← hBk] at HK15 HLI15
  have hBk2 : Bk = w14.heap.size := by rw [hs14]; exact hBk
  clear hs14
  have HW15 := Lib.hid hw15.symm; clear hw15
  have HBK := Lib.hid hBk2; clear hBk2
  have hr15 := HR14.out.step HB15.out
  have q0 := hr15.v.cell (k := 0) rfl
  have q1 := hr15.v.cell (k := 1) rfl
  have q2 := hr15.v.cell (k := 2) rfl
  clear hr15
  rw [← HW15.out, ← HW14.out] at q0 q1 q2
  go_wp2_with fail
  rw [HW14.out, HW15.out]
  try rw [← hBk]
  clear hBk
  refine (bRecord_any Bk 0 seq st (some ⟨ge, 0, none⟩) en xe [] [] [] w15 HK15.out (by omega)).mono ?_
  rintro e w16 ⟨⟨v, rfl⟩, hk16, hf16⟩
  have HB16 := Lib.hid (show Below w14.heap.size w14 w16 from HB15.out.trans (by rw [← HBK.out]; exact hf16.low))
  have HLI16 := Lib.hid (HLI15.out.keep hf16.low)
  have HK16 := Lib.hid hk16
  clear hk16 hf16 HB15 HK15 HLI15 q0 q1 q2
  have hx16 := HX14.out.step HB16.out
  have q0 := hx16.v.cell (k := 0) rfl
  have q1 := hx16.v.cell (k := 1) rfl
  have q2 := hx16.v.cell (k := 2) rfl
  clear hx16
  go_wp2_with fail
  refine (bMarket_any Bk (0 + 1) (some ⟨g1, 0, none⟩) (some ⟨B, 0, none⟩) (some ⟨g3, 0, none⟩) rn x1 bn xB on x3 (vals.map toSlc) _ _ _ w16 HK16.out HLI16.out (by omega)).mono ?_
  rintro e w17 ⟨⟨v, rfl⟩, hk17, hf17⟩
  have HB17 := Lib.hid (show Below w14.heap.size w14 w17 from HB16.out.trans (by rw [← HBK.out]; exact hf17.low))
  have HK17 := Lib.hid hk17
  clear hk17 hf17 HB16 HK16 HLI16 q0 q1 q2
  have hx17 := HO14.out.step HB17.out
  have q0 := hx17.v.cell (k := 0) rfl
  have q1 := hx17.v.cell (k := 1) rfl
  clear hx17
  go_wp2_with fail
  refine (bOutcome_any Bk (0 + 1 + bn + 3) (some ⟨h1, 0, none⟩) (some ⟨h2, 0, none⟩) zn d1 yn d2 _ _ _ w17 HK17.out (by omega)).mono ?_
  rintro e w18 ⟨⟨v, rfl⟩, hk18, hf18⟩
  have HB18 := Lib.hid (show Below w14.heap.size w14 w18 from HB17.out.trans (by rw [← HBK.out]; exact hf18.low))
  have HK18 := Lib.hid hk18
  clear hk18 hf18 HB17 HK17 q0 q1
  have hx18 := HA14.out.step HB18.out
  have q0 := hx18.v.cell (k := 0) rfl
  have q1 := hx18.v.cell (k := 1) rfl
  have q2 := hx18.v.cell (k := 2) rfl
  have q3 := hx18.v.cell (k := 3) rfl
  have q4 := hx18.v.cell (k := 4) rfl
  have q5 := hx18.v.cell (k := 5) rfl
  have q6 := hx18.v.cell (k := 6) rfl
  have q7 := hx18.v.cell (k := 7) rfl
  have q8 := hx18.v.cell (k := 8) rfl
  have q9 := hx18.v.cell (k := 9) rfl
  clear hx18
  go_wp2_with fail
  refine (bReply_any Bk (0 + 1 + bn + 3 + 2) 0 seq 0 0 0 st (-1) 0 aa none an an 0 0 _ _ _ w18 HK18.out (by omega)).mono ?_
  rintro e w19 ⟨⟨v, rfl⟩, hk19, hf19⟩
  have HB19 := Lib.hid (show Below w14.heap.size w14 w19 from HB18.out.trans (by rw [← HBK.out]; exact hf19.low))
  have HK19 := Lib.hid hk19
  clear hk19 hf19 HB18 HK18 q0 q1 q2 q3 q4 q5 q6 q7 q8 q9
  have hx19 := HB14.out.step HB19.out
  have q0 := VRow.cell hx19 (k := 0) rfl
  have q1 := VRow.cell hx19 (k := 1) rfl
  have q2 := VRow.cell hx19 (k := 2) rfl
  have q3 := VRow.cell hx19 (k := 3) rfl
  have q4 := VRow.cell hx19 (k := 4) rfl
  have q5 := VRow.cell hx19 (k := 5) rfl
  have q6 := VRow.cell hx19 (k := 6) rfl
  have q7 := VRow.cell hx19 (k := 7) rfl
  have q8 := VRow.cell hx19 (k := 8) rfl
  have q9 := VRow.cell hx19 (k := 9) rfl
  clear hx19
  go_wp2_with fail
  refine (bReply_any Bk (0 + 1 + bn + 3 + 2 + 2) 0 0 0 0 0 false it py none none 0 0 0 0 _ _ _ w19 HK19.out (by omega)).mono ?_
  rintro e w20 ⟨⟨v, rfl⟩, hk20, hf20⟩
  have hb20 : Below w14.heap.size w14 w20 := HB19.out.trans (by rw [← HBK.out]; exact hf20.low)
  have hgA := HG14.out.a.keep hb20
  have hgL := HG14.out.b.keep hb20
  rw [← HBK.out] at hgA hgL
  have hzk := hb20.size
  have hlo : w2.heap.size ≤ Bk := by have := HBK.out; omega
  clear q0 q1 q2 q3 q4 q5 q6 q7 q8 q9
  have HPRE := Lib.hid (show VPre w B0 w3.heap.size w2.heap.size ge xe w5.heap.size w4.heap.size s1 s2 g1 x1 B xB M g3 x3 vals gs w7.heap.size w6.heap.size h1 d1 h2 d2 w9.heap.size aa an w11.heap.size w13.heap.size it py w2.heap.size Bk (0 + 1 + bn + 3 + 2 + 2 + 2) [⟨none, 0, 0⟩, ⟨none, 0, 0⟩] ([⟨some ⟨ge, 0, none⟩, en, xe⟩] ++ ([⟨some ⟨g1, 0, none⟩, rn, x1⟩] ++ vals.map toSlc ++ [⟨some ⟨g3, 0, none⟩, on, x3⟩]) ++ [⟨some ⟨h1, 0, none⟩, zn, d1⟩, ⟨some ⟨h2, 0, none⟩, yn, d2⟩] ++ [⟨aa, an, an⟩] ++ [⟨none, 0, 0⟩]) [⟨some ⟨B, 0, none⟩, bn, xB⟩] ea ra ba oa za ya en ec rn rc bn bc on oc zn zc yn yc seq st bid m zo zi ph now w20 from ⟨HS14.out.step hb20, HR14.out.step hb20, HX14.out.step hb20, HO14.out.step hb20, HA14.out.step hb20, HB14.out.step hb20, HC14.out.step hb20, by simpa using hk20, ?segB, by simpa using hgA, hgL, by have := HBK.out; omega⟩)
  case segB =>
    refine ⟨fun x hx => ?_, fun x hx b o e hc => ?_, ?_⟩
    · simp only [List.mem_cons, List.not_mem_nil, or_false, or_self] at hx
      subst hx; exact .inl ⟨rfl, rfl⟩
    · simp only [List.mem_cons, List.not_mem_nil, or_false, or_self] at hx
      subst hx; cases e
    · exact List.pairwise_pair.2 fun b o o' h _ e _ => by cases e
  clear hk20 hf20 hb20 hgA hgL HS14 HR14 HX14 HO14 HA14 HB14 HC14 HG14 HK19 HB19 HLI14 hzk
  have HB20 := Lib.hid HPRE.out.s.below
  go_wp2_with fail
  have e0 : (er == er) = true := by simp
  have hw02 : w.heap.size ≤ w2.heap.size := by omega
  have HBB := Lib.hid HB20.out
  refine wp_region_live3' (by kernel_rfl) [73, 74, 75, 76, 77, 78, 79, 80, 81, 82, 83, 84, 85, 86, 87, 88, 89, 90, 91, 92, 93, 94, 95, 96, 97, 98, 99, 100, 101, 102, 103, 104, 105, 106, 107, 108, 109, 110, 111, 112, 113, 114, 115, 116, 117, 118, 119, 120, 121, 122, 123, 124] (VPI B0 (.agg #[.int .u32 seq, .bool st, .slice ea en ec]) (.agg #[.int .u32 seq, .bool st, .slice (some ⟨ge, 0, none⟩) en xe]) (.agg #[.slice ra rn rc, .slice ba bn bc, .slice oa on oc]) (.agg #[.slice (some ⟨g1, 0, none⟩) rn x1, .slice (some ⟨B, 0, none⟩) bn xB, .slice (some ⟨g3, 0, none⟩) on x3]) (.agg #[.slice za zn zc, .slice ya yn yc]) (.agg #[.slice (some ⟨h1, 0, none⟩) zn d1, .slice (some ⟨h2, 0, none⟩) yn d2]) (.agg #[.int .i64 0, .int .u32 seq, .int .u64 0, .int .u8 0, .int .u64 0, .bool st, .slice aa an an, .int .i64 (-1), .int .i64 0, .slice none 0 0]) (.agg #[.int .i64 0, .int .u32 0, .int .u64 0, .int .u8 0, .int .u64 0, .bool false, .slice none 0 0, .int .i64 it, .int .i64 py, .slice none 0 0]) (.agg #[.int .i64 0, .int .u32 0, .int .u64 0, .int .u8 ph, .int .u64 now, .bool false, .slice none 0 0, .int .i64 (-1), .int .i64 0, .slice none 0 0]) er ph now seq st bid) (fun wa wb => Below w2.heap.size wa wb) 47 VPI_dead (fun W => VPre w B0 w3.heap.size w2.heap.size ge xe w5.heap.size w4.heap.size s1 s2 g1 x1 B xB M g3 x3 vals gs w7.heap.size w6.heap.size h1 d1 h2 d2 w9.heap.size aa an w11.heap.size w13.heap.size it py w2.heap.size Bk (0 + 1 + bn + 3 + 2 + 2 + 2) [⟨none, 0, 0⟩, ⟨none, 0, 0⟩] ([⟨some ⟨ge, 0, none⟩, en, xe⟩] ++ ([⟨some ⟨g1, 0, none⟩, rn, x1⟩] ++ vals.map toSlc ++ [⟨some ⟨g3, 0, none⟩, on, x3⟩]) ++ [⟨some ⟨h1, 0, none⟩, zn, d1⟩, ⟨some ⟨h2, 0, none⟩, yn, d2⟩] ++ [⟨aa, an, an⟩] ++ [⟨none, 0, 0⟩]) [⟨some ⟨B, 0, none⟩, bn, xB⟩] ea ra ba oa za ya en ec rn rc bn bc on oc zn zc yn yc seq st bid m zo zi ph now W) (fun W => Below w.heap.size w W) (by simp) (by kernel_rfl) (by simp) (by decide) (by simp) (by kernel_rfl) (by kernel_rfl) VPI_mono (fun j y wa wb hd _ _ h => VPI_pure (by intro e; subst e; cases hd) h) (HPRE.out.step (Below.refl _ _).drew) (fun wa wb hb h => h.step hb) HBB.out.drew ?hstep ?hlast
  case hlast =>
    intro o v w5 K ho hS hd hK
    simp only [List.length_cons, List.length_nil, Nat.reduceAdd, Nat.reduceSub, List.getElem?_cons_zero, List.getElem?_cons_succ, Option.some.injEq] at ho
    subst ho
    have d51 : v 51 = .bool true := (hd ⟨51, .data⟩ (by simp) rfl).2 (by decide)
    have HSS := Lib.hid hS
    clear hS hd
    simp only [fold, Nat.zero_add, Nat.reduceAdd, List.setIfInBounds_toArray, List.set_cons_zero, List.set_cons_succ]
    rw [d51]
    go_wp2_with fail
    go_ret
    exact ⟨rfl, HSS.out⟩
  case hstep =>
    intro i o v w5 K hi ho hS hpre hd hK
    simp only [List.length_cons, List.length_nil] at hi
    simp only [fold, Nat.zero_add, Nat.reduceAdd, List.setIfInBounds_toArray, List.set_cons_zero, List.set_cons_succ] at hK ⊢
    have hii : i = 0 ∨ i = 1 ∨ i = 2 ∨ i = 3 ∨ i = 4 ∨ i = 5 ∨ i = 6 ∨ i = 7 ∨ i = 8 ∨ i = 9 ∨ i = 10 ∨ i = 11 ∨ i = 12 ∨ i = 13 ∨ i = 14 ∨ i = 15 ∨ i = 16 ∨ i = 17 ∨ i = 18 ∨ i = 19 ∨ i = 20 ∨ i = 21 ∨ i = 22 ∨ i = 23 ∨ i = 24 ∨ i = 25 ∨ i = 26 ∨ i = 27 ∨ i = 28 ∨ i = 29 ∨ i = 30 ∨ i = 31 ∨ i = 32 ∨ i = 33 ∨ i = 34 ∨ i = 35 ∨ i = 36 ∨ i = 37 ∨ i = 38 ∨ i = 39 ∨ i = 40 ∨ i = 41 ∨ i = 42 ∨ i = 43 ∨ i = 44 ∨ i = 45 ∨ i = 46 ∨ i = 47 ∨ i = 48 ∨ i = 49 ∨ i = 50 ∨ i = 51 := by omega
    rcases hii with rfl | rfl | rfl | rfl | rfl | rfl | rfl | rfl | rfl | rfl | rfl | rfl | rfl | rfl | rfl | rfl | rfl | rfl | rfl | rfl | rfl | rfl | rfl | rfl | rfl | rfl | rfl | rfl | rfl | rfl | rfl | rfl | rfl | rfl | rfl | rfl | rfl | rfl | rfl | rfl | rfl | rfl | rfl | rfl | rfl | rfl | rfl | rfl | rfl | rfl | rfl | rfl
    all_goals
      simp only [List.getElem?_cons_zero, List.getElem?_cons_succ, Option.some.injEq] at ho
      subst ho
      simp only [Act.put, List.setIfInBounds_toArray, List.set_cons_zero, List.set_cons_succ] at hK
    · have hP := hpre (by decide)
      have c0 := VRow.cell hP.a.v (k := 0) rfl
      have c1 := VRow.cell hP.a.v (k := 1) rfl
      have c2 := VRow.cell hP.a.v (k := 2) rfl
      have c3 := VRow.cell hP.a.v (k := 3) rfl
      have c4 := VRow.cell hP.a.v (k := 4) rfl
      have c5 := VRow.cell hP.a.v (k := 5) rfl
      have c6 := VRow.cell hP.a.v (k := 6) rfl
      have c7 := VRow.cell hP.a.v (k := 7) rfl
      have c8 := VRow.cell hP.a.v (k := 8) rfl
      have c9 := VRow.cell hP.a.v (k := 9) rfl
      clear hd hpre hP
      go_wp2_with fail
      exact hK _ _ hS (fun _ => Below.refl _ _) (fun h => absurd h (by decide)) ⟨fun h => absurd h (by decide), fun _ => rfl⟩
    · clear hd hpre
      go_wp2_with fail
      exact hK _ _ hS (fun _ => Below.refl _ _) (fun h => absurd h (by decide)) ⟨fun h => absurd h (by decide), fun _ => rfl⟩
    · have d1 : v 1 = .pointer (some ⟨B0, 0, none⟩) := (hd ⟨1, .data⟩ (by simp) rfl).2 (by decide)
      have hP := hpre (by decide)
      have c0 := hP.s.v.cell (k := 0) rfl
      have c1 := hP.s.v.cell (k := 1) rfl
      have c2 := hP.s.v.cell (k := 2) rfl
      rw [d1] at hK ⊢
      clear hd hpre hP
      go_wp2_with fail
      exact hK _ _ hS (fun _ => Below.refl _ _) (fun h => absurd h (by decide)) ⟨fun h => absurd h (by decide), fun _ => rfl⟩
    · have d2 : v 2 = .agg #[.int .u32 seq, .bool st, .slice ea en ec] := (hd ⟨2, .data⟩ (by simp) rfl).2 (by decide)
      have hP := hpre (by decide)
      have HC := Lib.hid (mine24U_any seq st ea en ec bid w5 hP.s.e y1)
      rw [d2] at hK ⊢
      clear hd hpre hP
      go_wp2_with fail
      refine HC.out.mono ?_
      rintro e w6 ⟨a3, n3, c3, rfl, hi3, hb6⟩
      clear HC
      go_wp2_with fail
      exact hK _ _ (hS.trans (hb6.mono hS.size)) (fun _ => hb6) (fun h => absurd h (by decide)) ⟨fun _ => ⟨a3, n3, c3, rfl, hi3⟩, fun h => absurd rfl h⟩
    · have d0 : v 0 = .agg #[.int .i64 0, .int .u32 seq, .int .u64 0, .int .u8 0, .int .u64 0, .bool st, .slice aa an an, .int .i64 (-1), .int .i64 0, .slice none 0 0] := (hd ⟨0, .data⟩ (by simp) rfl).2 (by decide)
      obtain ⟨a3, n3, c3, d3, hi3⟩ := (hd ⟨3, .data⟩ (by simp) rfl).1 rfl
      have hP := hpre (by decide)
      obtain rfl : n3 = an := by rw [← hi3.len, ← hP.a.i.len]
      have HC := Lib.hid ((sameReply_any 0 seq 0 0 0 st (mineL st bid) aa a3 none none n3 n3 c3 0 0 (-1) (-1) 0 0 w5 hP.a.i hi3).mono fun e w6 h => (show e = .returned (.bool true) ∧ Below w5.heap.size w5 w6 by simpa using h))
      rw [d0, d3] at hK ⊢
      clear hd hpre hP
      go_wp2_with fail
      refine HC.out.mono ?_
      rintro e w6 ⟨rfl, hb6⟩
      clear HC
      go_wp2_with fail
      exact hK _ _ (hS.trans (hb6.mono hS.size)) (fun _ => hb6) (fun h => absurd h (by decide)) ⟨fun h => absurd h (by decide), fun _ => rfl⟩
    · have d4 : v 4 = .bool true := (hd ⟨4, .data⟩ (by simp) rfl).2 (by decide)
      rw [d4] at hK ⊢
      clear hd hpre
      go_wp2_with fail
      exact hK _ _ hS (fun _ => Below.refl _ _) (fun h => absurd h (by decide)) ⟨fun h => absurd h (by decide), fun _ => rfl⟩
    · have d5 : v 5 = .bool true := (hd ⟨5, .guard⟩ (by simp) rfl).2 (by decide)
      rw [d5] at hK ⊢
      clear hd hpre
      go_wp2_with fail
      exact hK _ _ hS (fun _ => Below.refl _ _) (fun h => absurd h (by decide)) ⟨fun h => absurd h (by decide), fun _ => rfl⟩
    · have d5 : v 5 = .bool true := (hd ⟨5, .guard⟩ (by simp) rfl).2 (by decide)
      rw [d5] at hK ⊢
      clear hd hpre
      go_wp2_with fail
      exact hK _ _ hS (fun _ => Below.refl _ _) (fun h => absurd h (by decide)) ⟨fun h => absurd h (by decide), fun _ => rfl⟩
    · have d5 : v 5 = .bool true := (hd ⟨5, .guard⟩ (by simp) rfl).2 (by decide)
      have d6 : v 6 = .int .i64 er := (hd ⟨6, .data⟩ (by simp) rfl).2 (by decide)
      have d7 : v 7 = .int .i64 er := (hd ⟨7, .data⟩ (by simp) rfl).2 (by decide)
      rw [d5, d6, d7] at hK ⊢
      clear hd hpre
      go_wp2_with fail
      exact hK _ _ hS (fun _ => Below.refl _ _) (fun h => absurd h (by decide)) ⟨fun h => absurd h (by decide), fun _ => rfl⟩
    · have d5 : v 5 = .bool true := (hd ⟨5, .data⟩ (by simp) rfl).2 (by decide)
      have d8 : v 8 = .bool true := (hd ⟨8, .data⟩ (by simp) rfl).2 (by decide)
      rw [d5, d8] at hK ⊢
      clear hd hpre
      go_wp2_with fail
      exact hK _ _ hS (fun _ => Below.refl _ _) (fun h => absurd h (by decide)) ⟨fun h => absurd h (by decide), fun _ => rfl⟩
    · have d9 : v 9 = .bool true := (hd ⟨9, .data⟩ (by simp) rfl).2 (by decide)
      rw [d9] at hK ⊢
      clear hd hpre
      go_wp2_with fail
      exact hK _ _ hS (fun _ => Below.refl _ _) (fun h => absurd h (by decide)) ⟨fun h => absurd h (by decide), fun _ => rfl⟩
    · have d10 : v 10 = .bool true := (hd ⟨10, .guard⟩ (by simp) rfl).2 (by decide)
      have hP := hpre (by decide)
      have c0 := VRow.cell hP.b (k := 0) rfl
      have c1 := VRow.cell hP.b (k := 1) rfl
      have c2 := VRow.cell hP.b (k := 2) rfl
      have c3 := VRow.cell hP.b (k := 3) rfl
      have c4 := VRow.cell hP.b (k := 4) rfl
      have c5 := VRow.cell hP.b (k := 5) rfl
      have c6 := VRow.cell hP.b (k := 6) rfl
      have c7 := VRow.cell hP.b (k := 7) rfl
      have c8 := VRow.cell hP.b (k := 8) rfl
      have c9 := VRow.cell hP.b (k := 9) rfl
      rw [d10] at hK ⊢
      clear hd hpre hP
      go_wp2_with fail
      exact hK _ _ hS (fun _ => Below.refl _ _) (fun h => absurd h (by decide)) ⟨fun h => absurd h (by decide), fun _ => rfl⟩
    · have d10 : v 10 = .bool true := (hd ⟨10, .guard⟩ (by simp) rfl).2 (by decide)
      have hP := hpre (by decide)
      have c0 := VRow.cell hP.c (k := 0) rfl
      have c1 := VRow.cell hP.c (k := 1) rfl
      have c2 := VRow.cell hP.c (k := 2) rfl
      have c3 := VRow.cell hP.c (k := 3) rfl
      have c4 := VRow.cell hP.c (k := 4) rfl
      have c5 := VRow.cell hP.c (k := 5) rfl
      have c6 := VRow.cell hP.c (k := 6) rfl
      have c7 := VRow.cell hP.c (k := 7) rfl
      have c8 := VRow.cell hP.c (k := 8) rfl
      have c9 := VRow.cell hP.c (k := 9) rfl
      rw [d10] at hK ⊢
      clear hd hpre hP
      go_wp2_with fail
      exact hK _ _ hS (fun _ => Below.refl _ _) (fun h => absurd h (by decide)) ⟨fun h => absurd h (by decide), fun _ => rfl⟩
    · have d10 : v 10 = .bool true := (hd ⟨10, .guard⟩ (by simp) rfl).2 (by decide)
      have d11 : v 11 = .agg #[.int .i64 0, .int .u32 0, .int .u64 0, .int .u8 0, .int .u64 0, .bool false, .slice none 0 0, .int .i64 it, .int .i64 py, .slice none 0 0] := (hd ⟨11, .data⟩ (by simp) rfl).2 (by decide)
      have d12 : v 12 = .agg #[.int .i64 0, .int .u32 0, .int .u64 0, .int .u8 0, .int .u64 0, .bool false, .slice none 0 0, .int .i64 it, .int .i64 py, .slice none 0 0] := (hd ⟨12, .data⟩ (by simp) rfl).2 (by decide)
      have HC := Lib.hid ((sameReply_any 0 0 0 0 0 false [] none none none none 0 0 0 0 0 it it py py w5 (Ints.empty _ _ _) (Ints.empty _ _ _)).mono fun e w6 h => (show e = .returned (.bool true) ∧ Below w5.heap.size w5 w6 by simpa using h))
      rw [d10, d11, d12] at hK ⊢
      clear hd hpre
      go_wp2_with fail
      refine HC.out.mono ?_
      rintro e w6 ⟨rfl, hb6⟩
      clear HC
      go_wp2_with fail
      exact hK _ _ (hS.trans (hb6.mono hS.size)) (fun _ => hb6) (fun h => absurd h (by decide)) ⟨fun h => absurd h (by decide), fun _ => rfl⟩
    · have d10 : v 10 = .bool true := (hd ⟨10, .data⟩ (by simp) rfl).2 (by decide)
      have d13 : v 13 = .bool true := (hd ⟨13, .data⟩ (by simp) rfl).2 (by decide)
      rw [d10, d13] at hK ⊢
      clear hd hpre
      go_wp2_with fail
      exact hK _ _ hS (fun _ => Below.refl _ _) (fun h => absurd h (by decide)) ⟨fun h => absurd h (by decide), fun _ => rfl⟩
    · have d14 : v 14 = .bool true := (hd ⟨14, .data⟩ (by simp) rfl).2 (by decide)
      rw [d14] at hK ⊢
      clear hd hpre
      go_wp2_with fail
      exact hK _ _ hS (fun _ => Below.refl _ _) (fun h => absurd h (by decide)) ⟨fun h => absurd h (by decide), fun _ => rfl⟩
    · have d15 : v 15 = .bool true := (hd ⟨15, .guard⟩ (by simp) rfl).2 (by decide)
      rw [d15] at hK ⊢
      clear hd hpre
      go_wp2_with fail
      exact hK _ _ hS (fun _ => Below.refl _ _) (fun h => absurd h (by decide)) ⟨fun h => absurd h (by decide), fun _ => rfl⟩
    · have d15 : v 15 = .bool true := (hd ⟨15, .guard⟩ (by simp) rfl).2 (by decide)
      have d16 : v 16 = .pointer (some ⟨B0, 9, none⟩) := (hd ⟨16, .data⟩ (by simp) rfl).2 (by decide)
      have hP := hpre (by decide)
      have c9 := hP.s.v.cell (k := 9) rfl
      rw [d15, d16] at hK ⊢
      clear hd hpre hP
      go_wp2_with fail
      exact hK _ _ hS (fun _ => Below.refl _ _) (fun h => absurd h (by decide)) ⟨fun h => absurd h (by decide), fun _ => rfl⟩
    · have d15 : v 15 = .bool true := (hd ⟨15, .guard⟩ (by simp) rfl).2 (by decide)
      rw [d15] at hK ⊢
      clear hd hpre
      go_wp2_with fail
      exact hK _ _ hS (fun _ => Below.refl _ _) (fun h => absurd h (by decide)) ⟨fun h => absurd h (by decide), fun _ => rfl⟩
    · have d15 : v 15 = .bool true := (hd ⟨15, .guard⟩ (by simp) rfl).2 (by decide)
      have d18 : v 18 = .pointer (some ⟨B0, 10, none⟩) := (hd ⟨18, .data⟩ (by simp) rfl).2 (by decide)
      have hP := hpre (by decide)
      have c10 := hP.s.v.cell (k := 10) rfl
      rw [d15, d18] at hK ⊢
      clear hd hpre hP
      go_wp2_with fail
      exact hK _ _ hS (fun _ => Below.refl _ _) (fun h => absurd h (by decide)) ⟨fun h => absurd h (by decide), fun _ => rfl⟩
    · have d15 : v 15 = .bool true := (hd ⟨15, .guard⟩ (by simp) rfl).2 (by decide)
      have d17 : v 17 = .int .u8 ph := (hd ⟨17, .data⟩ (by simp) rfl).2 (by decide)
      have d19 : v 19 = .int .u64 now := (hd ⟨19, .data⟩ (by simp) rfl).2 (by decide)
      have HC := Lib.hid (status_any ph now w5)
      rw [d15, d17, d19] at hK ⊢
      clear hd hpre
      go_wp2_with fail
      refine HC.out.mono ?_
      rintro e w6 ⟨rfl, hb6⟩
      clear HC
      go_wp2_with fail
      exact hK _ _ (hS.trans (hb6.mono hS.size)) (fun _ => hb6) (fun h => absurd h (by decide)) ⟨fun h => absurd h (by decide), fun _ => rfl⟩
    · have d15 : v 15 = .bool true := (hd ⟨15, .guard⟩ (by simp) rfl).2 (by decide)
      rw [d15] at hK ⊢
      clear hd hpre
      go_wp2_with fail
      exact hK _ _ hS (fun _ => Below.refl _ _) (fun h => absurd h (by decide)) ⟨fun h => absurd h (by decide), fun _ => rfl⟩
    · have d15 : v 15 = .bool true := (hd ⟨15, .guard⟩ (by simp) rfl).2 (by decide)
      have d21 : v 21 = .pointer (some ⟨B0, 9, none⟩) := (hd ⟨21, .data⟩ (by simp) rfl).2 (by decide)
      have hP := hpre (by decide)
      have c9 := hP.s.v.cell (k := 9) rfl
      rw [d15, d21] at hK ⊢
      clear hd hpre hP
      go_wp2_with fail
      exact hK _ _ hS (fun _ => Below.refl _ _) (fun h => absurd h (by decide)) ⟨fun h => absurd h (by decide), fun _ => rfl⟩
    · have d15 : v 15 = .bool true := (hd ⟨15, .guard⟩ (by simp) rfl).2 (by decide)
      rw [d15] at hK ⊢
      clear hd hpre
      go_wp2_with fail
      exact hK _ _ hS (fun _ => Below.refl _ _) (fun h => absurd h (by decide)) ⟨fun h => absurd h (by decide), fun _ => rfl⟩
    · have d15 : v 15 = .bool true := (hd ⟨15, .guard⟩ (by simp) rfl).2 (by decide)
      have d23 : v 23 = .pointer (some ⟨B0, 10, none⟩) := (hd ⟨23, .data⟩ (by simp) rfl).2 (by decide)
      have hP := hpre (by decide)
      have c10 := hP.s.v.cell (k := 10) rfl
      rw [d15, d23] at hK ⊢
      clear hd hpre hP
      go_wp2_with fail
      exact hK _ _ hS (fun _ => Below.refl _ _) (fun h => absurd h (by decide)) ⟨fun h => absurd h (by decide), fun _ => rfl⟩
    · have d15 : v 15 = .bool true := (hd ⟨15, .guard⟩ (by simp) rfl).2 (by decide)
      have d22 : v 22 = .int .u8 ph := (hd ⟨22, .data⟩ (by simp) rfl).2 (by decide)
      have d24 : v 24 = .int .u64 now := (hd ⟨24, .data⟩ (by simp) rfl).2 (by decide)
      have HC := Lib.hid (status24_any ph now w5)
      rw [d15, d22, d24] at hK ⊢
      clear hd hpre
      go_wp2_with fail
      refine HC.out.mono ?_
      rintro e w6 ⟨rfl, hb6⟩
      clear HC
      go_wp2_with fail
      exact hK _ _ (hS.trans (hb6.mono hS.size)) (fun _ => hb6) (fun h => absurd h (by decide)) ⟨fun h => absurd h (by decide), fun _ => rfl⟩
    · have d15 : v 15 = .bool true := (hd ⟨15, .guard⟩ (by simp) rfl).2 (by decide)
      have d20 : v 20 = .agg #[.int .i64 0, .int .u32 0, .int .u64 0, .int .u8 ph, .int .u64 now, .bool false, .slice none 0 0, .int .i64 (-1), .int .i64 0, .slice none 0 0] := (hd ⟨20, .data⟩ (by simp) rfl).2 (by decide)
      have d25 : v 25 = .agg #[.int .i64 0, .int .u32 0, .int .u64 0, .int .u8 ph, .int .u64 now, .bool false, .slice none 0 0, .int .i64 (-1), .int .i64 0, .slice none 0 0] := (hd ⟨25, .data⟩ (by simp) rfl).2 (by decide)
      have HC := Lib.hid ((sameReply_any 0 0 0 ph now false [] none none none none 0 0 0 0 0 (-1) (-1) 0 0 w5 (Ints.empty _ _ _) (Ints.empty _ _ _)).mono fun e w6 h => (show e = .returned (.bool true) ∧ Below w5.heap.size w5 w6 by simpa using h))
      rw [d15, d20, d25] at hK ⊢
      clear hd hpre
      go_wp2_with fail
      refine HC.out.mono ?_
      rintro e w6 ⟨rfl, hb6⟩
      clear HC
      go_wp2_with fail
      exact hK _ _ (hS.trans (hb6.mono hS.size)) (fun _ => hb6) (fun h => absurd h (by decide)) ⟨fun h => absurd h (by decide), fun _ => rfl⟩
    · have d15 : v 15 = .bool true := (hd ⟨15, .data⟩ (by simp) rfl).2 (by decide)
      have d26 : v 26 = .bool true := (hd ⟨26, .data⟩ (by simp) rfl).2 (by decide)
      rw [d15, d26] at hK ⊢
      clear hd hpre
      go_wp2_with fail
      exact hK _ _ hS (fun _ => Below.refl _ _) (fun h => absurd h (by decide)) ⟨fun h => absurd h (by decide), fun _ => rfl⟩
    · have d27 : v 27 = .bool true := (hd ⟨27, .data⟩ (by simp) rfl).2 (by decide)
      rw [d27] at hK ⊢
      clear hd hpre
      go_wp2_with fail
      exact hK _ _ hS (fun _ => Below.refl _ _) (fun h => absurd h (by decide)) ⟨fun h => absurd h (by decide), fun _ => rfl⟩
    · have d28 : v 28 = .bool true := (hd ⟨28, .guard⟩ (by simp) rfl).2 (by decide)
      have hP := hpre (by decide)
      have c0 := VRow.cell hP.r.v (k := 0) rfl
      have c1 := VRow.cell hP.r.v (k := 1) rfl
      have c2 := VRow.cell hP.r.v (k := 2) rfl
      rw [d28] at hK ⊢
      clear hd hpre hP
      go_wp2_with fail
      exact hK _ _ hS (fun _ => Below.refl _ _) (fun h => absurd h (by decide)) ⟨fun h => absurd h (by decide), fun _ => rfl⟩
    · have d28 : v 28 = .bool true := (hd ⟨28, .guard⟩ (by simp) rfl).2 (by decide)
      rw [d28] at hK ⊢
      clear hd hpre
      go_wp2_with fail
      exact hK _ _ hS (fun _ => Below.refl _ _) (fun h => absurd h (by decide)) ⟨fun h => absurd h (by decide), fun _ => rfl⟩
    · have d28 : v 28 = .bool true := (hd ⟨28, .guard⟩ (by simp) rfl).2 (by decide)
      have d30 : v 30 = .pointer (some ⟨B0, 0, none⟩) := (hd ⟨30, .data⟩ (by simp) rfl).2 (by decide)
      have hP := hpre (by decide)
      have c0 := hP.s.v.cell (k := 0) rfl
      have c1 := hP.s.v.cell (k := 1) rfl
      have c2 := hP.s.v.cell (k := 2) rfl
      rw [d28, d30] at hK ⊢
      clear hd hpre hP
      go_wp2_with fail
      exact hK _ _ hS (fun _ => Below.refl _ _) (fun h => absurd h (by decide)) ⟨fun h => absurd h (by decide), fun _ => rfl⟩
    · have d28 : v 28 = .bool true := (hd ⟨28, .guard⟩ (by simp) rfl).2 (by decide)
      have d29 : v 29 = .agg #[.int .u32 seq, .bool st, .slice (some ⟨ge, 0, none⟩) en xe] := (hd ⟨29, .data⟩ (by simp) rfl).2 (by decide)
      have d31 : v 31 = .agg #[.int .u32 seq, .bool st, .slice ea en ec] := (hd ⟨31, .data⟩ (by simp) rfl).2 (by decide)
      have hP := hpre (by decide)
      have HC := Lib.hid (leftRecord_any ge xe en ec seq st ea en w2.heap.size bid w5 hP.r.f HLEN.out.1 hP.s.e (by omega))
      rw [d28, d29, d31] at hK ⊢
      clear hd hpre hP
      go_wp2_with fail
      refine HC.out.mono ?_
      rintro e w6 ⟨rfl, hb6⟩
      clear HC
      go_wp2_with fail
      exact hK _ _ (hS.trans (hb6.mono hS.size)) (fun _ => hb6) (fun h => absurd h (by decide)) ⟨fun h => absurd h (by decide), fun _ => rfl⟩
    · have d28 : v 28 = .bool true := (hd ⟨28, .data⟩ (by simp) rfl).2 (by decide)
      have d32 : v 32 = .bool true := (hd ⟨32, .data⟩ (by simp) rfl).2 (by decide)
      rw [d28, d32] at hK ⊢
      clear hd hpre
      go_wp2_with fail
      exact hK _ _ hS (fun _ => Below.refl _ _) (fun h => absurd h (by decide)) ⟨fun h => absurd h (by decide), fun _ => rfl⟩
    · have d33 : v 33 = .bool true := (hd ⟨33, .data⟩ (by simp) rfl).2 (by decide)
      rw [d33] at hK ⊢
      clear hd hpre
      go_wp2_with fail
      exact hK _ _ hS (fun _ => Below.refl _ _) (fun h => absurd h (by decide)) ⟨fun h => absurd h (by decide), fun _ => rfl⟩
    · have d34 : v 34 = .bool true := (hd ⟨34, .guard⟩ (by simp) rfl).2 (by decide)
      have hP := hpre (by decide)
      have c0 := VRow.cell hP.x.v (k := 0) rfl
      have c1 := VRow.cell hP.x.v (k := 1) rfl
      have c2 := VRow.cell hP.x.v (k := 2) rfl
      rw [d34] at hK ⊢
      clear hd hpre hP
      go_wp2_with fail
      exact hK _ _ hS (fun _ => Below.refl _ _) (fun h => absurd h (by decide)) ⟨fun h => absurd h (by decide), fun _ => rfl⟩
    · have d34 : v 34 = .bool true := (hd ⟨34, .guard⟩ (by simp) rfl).2 (by decide)
      rw [d34] at hK ⊢
      clear hd hpre
      go_wp2_with fail
      exact hK _ _ hS (fun _ => Below.refl _ _) (fun h => absurd h (by decide)) ⟨fun h => absurd h (by decide), fun _ => rfl⟩
    · have d34 : v 34 = .bool true := (hd ⟨34, .guard⟩ (by simp) rfl).2 (by decide)
      have d36 : v 36 = .pointer (some ⟨B0, 3, none⟩) := (hd ⟨36, .data⟩ (by simp) rfl).2 (by decide)
      have hP := hpre (by decide)
      have c3 := hP.s.v.cell (k := 3) rfl
      have c4 := hP.s.v.cell (k := 4) rfl
      have c5 := hP.s.v.cell (k := 5) rfl
      rw [d34, d36] at hK ⊢
      clear hd hpre hP
      go_wp2_with fail
      exact hK _ _ hS (fun _ => Below.refl _ _) (fun h => absurd h (by decide)) ⟨fun h => absurd h (by decide), fun _ => rfl⟩
    · have d34 : v 34 = .bool true := (hd ⟨34, .guard⟩ (by simp) rfl).2 (by decide)
      have d35 : v 35 = .agg #[.slice (some ⟨g1, 0, none⟩) rn x1, .slice (some ⟨B, 0, none⟩) bn xB, .slice (some ⟨g3, 0, none⟩) on x3] := (hd ⟨35, .data⟩ (by simp) rfl).2 (by decide)
      have d37 : v 37 = .agg #[.slice ra rn rc, .slice ba bn bc, .slice oa on oc] := (hd ⟨37, .data⟩ (by simp) rfl).2 (by decide)
      have hP := hpre (by decide)
      have HC := Lib.hid (leftMarket_any w4.heap.size s1 s2 g1 x1 B xB M g3 x3 vals gs ra ba oa rn rc bn bc on oc m w5 hP.x.x hP.s.m (by omega) (by omega) (by omega) (fun xs hx => by have := HZ4.out xs hx; omega))
      rw [d34, d35, d37] at hK ⊢
      clear hd hpre hP
      go_wp2_with fail
      refine HC.out.mono ?_
      rintro e w6 ⟨rfl, hb6⟩
      clear HC
      go_wp2_with fail
      exact hK _ _ (hS.trans (hb6.mono hS.size)) (fun _ => hb6) (fun h => absurd h (by decide)) ⟨fun h => absurd h (by decide), fun _ => rfl⟩
    · have d34 : v 34 = .bool true := (hd ⟨34, .data⟩ (by simp) rfl).2 (by decide)
      have d38 : v 38 = .bool true := (hd ⟨38, .data⟩ (by simp) rfl).2 (by decide)
      rw [d34, d38] at hK ⊢
      clear hd hpre
      go_wp2_with fail
      exact hK _ _ hS (fun _ => Below.refl _ _) (fun h => absurd h (by decide)) ⟨fun h => absurd h (by decide), fun _ => rfl⟩
    · have d39 : v 39 = .bool true := (hd ⟨39, .data⟩ (by simp) rfl).2 (by decide)
      rw [d39] at hK ⊢
      clear hd hpre
      go_wp2_with fail
      exact hK _ _ hS (fun _ => Below.refl _ _) (fun h => absurd h (by decide)) ⟨fun h => absurd h (by decide), fun _ => rfl⟩
    · have d40 : v 40 = .bool true := (hd ⟨40, .guard⟩ (by simp) rfl).2 (by decide)
      have hP := hpre (by decide)
      have c0 := VRow.cell hP.o.v (k := 0) rfl
      have c1 := VRow.cell hP.o.v (k := 1) rfl
      rw [d40] at hK ⊢
      clear hd hpre hP
      go_wp2_with fail
      exact hK _ _ hS (fun _ => Below.refl _ _) (fun h => absurd h (by decide)) ⟨fun h => absurd h (by decide), fun _ => rfl⟩
    · have d40 : v 40 = .bool true := (hd ⟨40, .guard⟩ (by simp) rfl).2 (by decide)
      rw [d40] at hK ⊢
      clear hd hpre
      go_wp2_with fail
      exact hK _ _ hS (fun _ => Below.refl _ _) (fun h => absurd h (by decide)) ⟨fun h => absurd h (by decide), fun _ => rfl⟩
    · have d40 : v 40 = .bool true := (hd ⟨40, .guard⟩ (by simp) rfl).2 (by decide)
      have d42 : v 42 = .pointer (some ⟨B0, 6, none⟩) := (hd ⟨42, .data⟩ (by simp) rfl).2 (by decide)
      have hP := hpre (by decide)
      have c6 := hP.s.v.cell (k := 6) rfl
      have c7 := hP.s.v.cell (k := 7) rfl
      rw [d40, d42] at hK ⊢
      clear hd hpre hP
      go_wp2_with fail
      exact hK _ _ hS (fun _ => Below.refl _ _) (fun h => absurd h (by decide)) ⟨fun h => absurd h (by decide), fun _ => rfl⟩
    · have d40 : v 40 = .bool true := (hd ⟨40, .guard⟩ (by simp) rfl).2 (by decide)
      have d41 : v 41 = .agg #[.slice (some ⟨h1, 0, none⟩) zn d1, .slice (some ⟨h2, 0, none⟩) yn d2] := (hd ⟨41, .data⟩ (by simp) rfl).2 (by decide)
      have d43 : v 43 = .agg #[.slice za zn zc, .slice ya yn yc] := (hd ⟨43, .data⟩ (by simp) rfl).2 (by decide)
      have hP := hpre (by decide)
      have HC := Lib.hid (leftOutcome_any w6.heap.size h1 d1 h2 d2 za ya zn zc yn yc zo w5 hP.o.f hP.s.z (by omega) (by omega))
      rw [d40, d41, d43] at hK ⊢
      clear hd hpre hP
      go_wp2_with fail
      refine HC.out.mono ?_
      rintro e w6 ⟨rfl, hb6⟩
      clear HC
      go_wp2_with fail
      exact hK _ _ (hS.trans (hb6.mono hS.size)) (fun _ => hb6) (fun h => absurd h (by decide)) ⟨fun h => absurd h (by decide), fun _ => rfl⟩
    · have d40 : v 40 = .bool true := (hd ⟨40, .data⟩ (by simp) rfl).2 (by decide)
      have d44 : v 44 = .bool true := (hd ⟨44, .data⟩ (by simp) rfl).2 (by decide)
      rw [d40, d44] at hK ⊢
      clear hd hpre
      go_wp2_with fail
      exact hK _ _ hS (fun _ => Below.refl _ _) (fun h => absurd h (by decide)) ⟨fun h => absurd h (by decide), fun _ => rfl⟩
    · have d45 : v 45 = .bool true := (hd ⟨45, .data⟩ (by simp) rfl).2 (by decide)
      rw [d45] at hK ⊢
      clear hd hpre
      go_wp2_with fail
      exact hK _ _ hS (fun _ => Below.refl _ _) (fun h => absurd h (by decide)) ⟨fun h => absurd h (by decide), fun _ => rfl⟩
    · have d46 : v 46 = .bool true := (hd ⟨46, .guard⟩ (by simp) rfl).2 (by decide)
      have hP := hpre (by decide)
      have HC := Lib.hid (apart_any Bk (0 + 1 + bn + 3 + 2 + 2 + 2) w2.heap.size _ _ _ w5 hP.k.k (by omega) hlo hP.k.gB hP.k.gI hP.k.gL (fun x hx => by
        have hrs := toSlc_len hP.x.x.rows (K := 1000) (fun xs hx => HZ4.out xs hx)
        simp only [List.mem_append, List.mem_cons, List.not_mem_nil, or_false] at hx
        rcases hx with (rfl | rfl) | ((((rfl | ((rfl | hx) | rfl)) | (rfl | rfl)) | rfl) | rfl) | rfl
        all_goals first | (have := hrs x hx; omega) | (show _ ≤ 900000; simp only []; omega)))
      rw [d46] at hK ⊢
      clear hd hpre hP
      go_wp2_with fail
      refine HC.out.mono ?_
      rintro e w6 ⟨rfl, hb6⟩
      clear HC
      go_wp2_with fail
      exact hK _ _ (hS.trans (hb6.mono hw02)) (fun h => absurd rfl h) (fun _ => hb6) ⟨fun h => absurd h (by decide), fun _ => rfl⟩
    · have d46 : v 46 = .bool true := (hd ⟨46, .data⟩ (by simp) rfl).2 (by decide)
      have d47 : v 47 = .bool true := (hd ⟨47, .data⟩ (by simp) rfl).2 (by decide)
      rw [d46, d47] at hK ⊢
      clear hd hpre
      go_wp2_with fail
      exact hK _ _ hS (fun _ => Below.refl _ _) (fun h => absurd h (by decide)) ⟨fun h => absurd h (by decide), fun _ => rfl⟩
    · have d48 : v 48 = .bool true := (hd ⟨48, .data⟩ (by simp) rfl).2 (by decide)
      rw [d48] at hK ⊢
      clear hd hpre
      go_wp2_with fail
      exact hK _ _ hS (fun _ => Below.refl _ _) (fun h => absurd h (by decide)) ⟨fun h => absurd h (by decide), fun _ => rfl⟩
    · have d49 : v 49 = .bool true := (hd ⟨49, .guard⟩ (by simp) rfl).2 (by decide)
      have HC := Lib.hid (lives24_any w5)
      rw [d49] at hK ⊢
      clear hd hpre
      go_wp2_with fail
      refine HC.out.mono ?_
      rintro e w6 ⟨rfl, hb6⟩
      clear HC
      go_wp2_with fail
      exact hK _ _ (hS.trans (hb6.mono hS.size)) (fun _ => hb6) (fun h => absurd h (by decide)) ⟨fun h => absurd h (by decide), fun _ => rfl⟩
    · have d49 : v 49 = .bool true := (hd ⟨49, .data⟩ (by simp) rfl).2 (by decide)
      have d50 : v 50 = .bool true := (hd ⟨50, .data⟩ (by simp) rfl).2 (by decide)
      rw [d49, d50] at hK ⊢
      clear hd hpre
      go_wp2_with fail
      exact hK _ _ hS (fun _ => Below.refl _ _) (fun h => absurd h (by decide)) ⟨fun h => absurd h (by decide), fun _ => rfl⟩
end Go.Proofs.YtkddkkcfpnndlaaGreatDoor
