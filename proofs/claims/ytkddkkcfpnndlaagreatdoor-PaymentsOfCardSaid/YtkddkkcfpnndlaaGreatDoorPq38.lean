/- FirstsOf: what First and its reference answer; what the law's state keeps. PaymentsOf: what Lost and Of answer, the program's and the reference's; what the law's state keeps. Walks: salesroomlaw14.lives. Walks: the law PaymentsOf. -/
import Derived.Test.YtkddkkcfpnndlaaGreatDoorPq31
import Derived.Test.YtkddkkcfpnndlaaGreatDoorPq17
import Derived.Test.YtkddkkcfpnndlaaGreatDoorPq35
import Derived.Test.YtkddkkcfpnndlaaGreatDoorPq36
import Derived.Test.YtkddkkcfpnndlaaGreatDoorPq37
import Derived.Test.YtkddkkcfpnndlaaGreatDoorPq30
import Derived.Test.YtkddkkcfpnndlaaGreatDoorPq20
import Derived.Test.YtkddkkcfpnndlaaGreatDoorPq32
import Derived.Test.YtkddkkcfpnndlaaGreatDoorPq27
import Derived.Test.YtkddkkcfpnndlaaGreatDoorPq19
namespace Go.Proofs.YtkddkkcfpnndlaaGreatDoor
open Go.RowKit Sale

/-- an answer in new memory of its own -/
def AnsL (xs : List Int) (err : Int) (w : World) (e : Ending) (w' : World) : Prop :=
  ∃ a n c, e = .returned (.tuple #[.slice a n c, .int .i64 err]) ∧ Ints w' a n c xs ∧ Seg 3 w' w.heap.size w'.heap.size [⟨a, n, c⟩] ∧ n ≤ 8 ∧ Below w.heap.size w w'
theorem ansL_none {w w' : World} {e : Ending} (h : e = .returned (.tuple #[.slice none 0 0, .int .i64 1]) ∧ Below w.heap.size w w') : AnsL [] 1 w e w' :=
  ⟨none, 0, 0, h.1, Ints.empty _ _ _, Seg.one (.inl ⟨rfl, rfl⟩), by omega, h.2⟩
theorem ansL_row {xs : List Int} {n : Nat} {err : Int} {w w' : World} {e : Ending} (h : RetRow err xs n w e w') (hn : n ≤ 8) : AnsL xs err w e w' := by
  obtain ⟨hl, B, rfl, hR, hB, hbd, hb⟩ := h
  have hi := hR.ints (by omega) hbd
  rw [hl] at hi
  exact ⟨_, _, _, rfl, hi, Seg.one (.inr ⟨B, 0, iarr xs, rfl, hB, hR, by simp [iarr, hl], Nat.le_refl _⟩), hn, hb⟩
/-- what the law is given, in memory -/
structure FSt (w0 : World) (B1 : Nat) (ga oa : Option Addr) (gn gc o_n oc : Nat) (gains : List (List Int)) (items : Int) (order : List Int) (wr : World) : Prop where
  v : VRow wr B1 24 [.slice ga gn gc, .int .i64 items]
  g : Rows wr ga gn gc gains
  o : Ints wr oa o_n oc order
  below : Below w0.heap.size w0 wr
theorem FSt.step {w0 : World} {B1 : Nat} {ga oa : Option Addr} {gn gc o_n oc : Nat} {gains : List (List Int)} {items : Int} {order : List Int} {wr wr' : World} (h : FSt w0 B1 ga oa gn gc o_n oc gains items order wr) (hb : Below wr.heap.size wr wr') : FSt w0 B1 ga oa gn gc o_n oc gains items order wr' :=
  ⟨h.v.below hb h.v.lt, h.g.below hb (Nat.le_refl _), h.o.below hb (Nat.le_refl _), h.below.trans (hb.mono h.below.size)⟩
/-- the law's copies -/
structure TSt (l5 B c M : Nat) (vals : List Value) (gs : List Nat) (gains : List (List Int)) (l6 g6 c6 : Nat) (order : List Int) (wr : World) : Prop where
  x : RowsF wr l5 B c M vals gs gains
  y : RowF wr l6 g6 c6 order
theorem TSt.step {l5 B c M : Nat} {vals : List Value} {gs : List Nat} {gains : List (List Int)} {l6 g6 c6 : Nat} {order : List Int} {wr wr' : World} (h : TSt l5 B c M vals gs gains l6 g6 c6 order wr) (hb : Below wr.heap.size wr wr') : TSt l5 B c M vals gs gains l6 g6 c6 order wr' :=
  ⟨h.x.below hb (Nat.le_refl _), h.y.below hb (Nat.le_refl _)⟩
/-- lists that lie apart, below a bound -/
structure GSt (lo hi : Nat) (rs : List Slc) (x : Slc) (wr : World) : Prop where
  a : Seg 3 wr lo hi rs
  b : Seg 25 wr lo hi [x]
  le : hi ≤ wr.heap.size
theorem GSt.step {lo hi : Nat} {rs : List Slc} {x : Slc} {wr wr' : World} (h : GSt lo hi rs x wr) (hb : Below wr.heap.size wr wr') : GSt lo hi rs x wr' :=
  ⟨h.a.keep (hb.mono h.le), h.b.keep (hb.mono h.le), Nat.le_trans h.le hb.size⟩
theorem GSt.more {lo hi : Nat} {rs : List Slc} {x y : Slc} {wr : World} (h : GSt lo hi rs x wr) (h2 : Seg 3 wr hi wr.heap.size [y]) (hl : lo ≤ hi) : GSt lo wr.heap.size (rs ++ [y]) x wr :=
  ⟨h.a.append h2 hl h.le, h.b.wide (Nat.le_refl _) h.le, Nat.le_refl _⟩
theorem GSt.wide {lo hi : Nat} {rs : List Slc} {x : Slc} {wr : World} (h : GSt lo hi rs x wr) : GSt lo wr.heap.size rs x wr :=
  ⟨h.a.wide (Nat.le_refl _) h.le, h.b.wide (Nat.le_refl _) h.le, Nat.le_refl _⟩
end Go.Proofs.YtkddkkcfpnndlaaGreatDoor

namespace Go.Proofs.YtkddkkcfpnndlaaGreatDoor
open Go.RowKit Sale

/-- what Lost answers -/
def lostA (m : Mkt) (i : Int) : Int := if mcheck m = true ∧ 0 ≤ i ∧ i < m.bids.length then lostM m i.toNat else 0
def lostE (m : Mkt) (i : Int) : Int := if mcheck m = true ∧ 0 ≤ i ∧ i < m.bids.length then 0 else 1
theorem lost_ans (ra ba oa : Option Addr) (rn rc bn bc on oc : Nat) (m : Mkt) (i : Int) (w : World) (hm : MktAt w ra ba oa rn rc bn bc on oc m) :
    Calls Tryz.prog 26 #[.agg #[.slice ra rn rc, .slice ba bn bc, .slice oa on oc], .int .i64 i] w fun e w' => e = .returned (.tuple #[.int .i64 (lostA m i), .int .i64 (lostE m i)]) ∧ Below w.heap.size w w' := by
  have hbl := hm.bids.len
  unfold lostA lostE
  by_cases h : mcheck m = true ∧ 0 ≤ i ∧ i < m.bids.length
  · rw [if_pos h, if_pos h]
    obtain ⟨k, rfl⟩ := Int.eq_ofNat_of_zero_le h.2.1
    exact Lost_yes ra ba oa rn rc bn bc on oc k m w hm h.1 (by omega)
  · rw [if_neg h, if_neg h]
    refine Lost_no ra ba oa rn rc bn bc on oc m i w hm ?_
    cases hc : mcheck m with
    | false => exact .inl rfl
    | true =>
      right
      rcases Int.lt_or_le i 0 with h1 | h1
      · exact .inl h1
      · rcases Int.lt_or_le i bn with h2 | h2
        · exact absurd ⟨hc, h1, by omega⟩ h
        · exact .inr h2
theorem lost14_ans (ra ba oa : Option Addr) (rn rc bn bc on oc : Nat) (m : Mkt) (i : Int) (w : World) (hm : MktAt w ra ba oa rn rc bn bc on oc m) (hs : Short rn bn on m) :
    Calls Tryz.prog 27 #[.agg #[.slice ra rn rc, .slice ba bn bc, .slice oa on oc], .int .i64 i] w fun e w' => e = .returned (.tuple #[.int .i64 (lostA m i), .int .i64 (lostE m i)]) ∧ Below w.heap.size w w' := by
  have hbl := hm.bids.len
  unfold lostA lostE
  by_cases h : mcheck m = true ∧ 0 ≤ i ∧ i < m.bids.length
  · rw [if_pos h, if_pos h]
    obtain ⟨k, rfl⟩ := Int.eq_ofNat_of_zero_le h.2.1
    exact lost14_yes ra ba oa rn rc bn bc on oc k m w hm h.1 (by omega)
  · rw [if_neg h, if_neg h]
    refine lost14_no ra ba oa rn rc bn bc on oc m i w hm hs ?_
    cases hc : mcheck m with
    | false => exact .inl rfl
    | true =>
      right
      rcases Int.lt_or_le i 0 with h1 | h1
      · exact .inl h1
      · rcases Int.lt_or_le i bn with h2 | h2
        · exact absurd ⟨hc, h1, by omega⟩ h
        · exact .inr h2
/-- what Of answers -/
def payA (m : Mkt) (has : List Int) : List Int := if (mcheck m && mayB m has) = true then payL m has else []
def payE (m : Mkt) (has : List Int) : Int := if (mcheck m && mayB m has) = true then 0 else 1

def PayAns (b : Bool) (l : List Int) (w : World) (e : Ending) (w' : World) : Prop := match b with
  | true => AnsL l 0 w e w'
  | false => AnsL [] 1 w e w'
set_option maxRecDepth 100000 in
set_option maxHeartbeats 1000000 in
theorem PayOf_ans0 (ra ba oa la : Option Addr) (rn rc bn bc on oc ln lc : Nat) (m : Mkt) (has : List Int) (w : World) (hm : MktAt w ra ba oa rn rc bn bc on oc m) (hl : Ints w la ln lc has) :
    Calls Tryz.prog 28 #[.agg #[.slice ra rn rc, .slice ba bn bc, .slice oa on oc], .slice la ln lc] w (PayAns (mcheck m && mayB m has) (payL m has) w) := by
  have HB0 := Lib.hid (mw_start w ra ba oa rn rc bn bc on oc)
  have hm1 := hm.below (mw_kept HB0.out).2.2.2.2 (Nat.le_refl _)
  have HK := Lib.hid (mcheck_any ra ba oa rn rc bn bc on oc m (mw w ra ba oa rn rc bn bc on oc) hm1.res hm1.bids hm1.ord)
  clear hm1
  have HM := Lib.hid hm; clear hm
  have HL := Lib.hid hl; clear hl
  cases hc : mcheck m with
  | false =>
    rw [Bool.false_and]
    rw [hc] at HK
    clear hc
    go_enter Tryz.func28, Tryz.ntmps28
    go_wp2_with fail
    refine HK.out.mono ?_
    rintro e w1 ⟨rfl, hb⟩
    have HB1 := Lib.hid (mw_below' HB0.out hb); clear hb HK
    go_wp2_with fail
    go_ret2
    exact ansL_none ⟨rfl, (mw_kept HB1.out).2.2.2.2⟩
  | true =>
    rw [Bool.true_and]
    rw [hc] at HK
    have HC := Lib.hid hc; clear hc
    obtain ⟨by', hby⟩ : ∃ b, b = mayB m has := ⟨_, rfl⟩
    rw [← hby]
    have HBY := Lib.hid hby; clear hby
    go_enter Tryz.func28, Tryz.ntmps28
    go_wp2_with fail
    refine HK.out.mono ?_
    rintro e w1 ⟨rfl, hb⟩
    have HB1 := Lib.hid (mw_below' HB0.out hb); clear hb HK
    obtain ⟨c0, c1, c2, hs1, hbw⟩ := mw_kept HB1.out
    have HN := Lib.hid (newBook_any ra ba oa rn rc bn bc on oc m w1 (HM.out.below hbw (Nat.le_refl _)) HC.out)
    have HBW := Lib.hid hbw; clear hbw
    go_wp2_with fail
    refine HN.out.mono ?_
    rintro e w2 ⟨Bk, ga, ha, hc, rfl, hbk, hb2⟩
    have HBK := Lib.hid hbk; clear hbk
    have HB2 := Lib.hid (HBW.out.trans (hb2.mono HBW.out.size)); clear hb2 HN c0 c1 c2
    have HL2 := Lib.hid (HL.out.below HB2.out (Nat.le_refl _))
    have hok := mcheck_ok HC.out
    have HOK := Lib.hid hok; clear hok
    go_wp2_with fail
    refine (may_any Bk ra ba oa ga ha la rn rc bn bc on oc bn hc ln lc m has w2 HBK.out HOK.out HL2.out).mono ?_
    rw [← HBY.out]
    cases by' with
    | false =>
      rintro e w3 ⟨rfl, rfl⟩
      go_wp2_with fail
      go_ret2
      exact ansL_none ⟨rfl, HB2.out⟩
    | true =>
      have hmy := HBY.out.symm
      rintro e w3 ⟨rfl, rfl⟩
      have hln : ln = bn := by
        have := mayB_len hmy
        have := HL.out.len; have := HM.out.bids.len; omega
      subst hln
      have HO := Lib.hid (of_any Bk ra ba oa ga ha la rn rc ln bc on oc ln hc lc m has w2 HBK.out HC.out HL2.out (mayB_item HOK.out hmy))
      clear hmy
      go_wp2_with fail
      refine HO.out.mono ?_
      rintro e w4 ⟨g, rfl, hrow, hgs, hb4⟩
      have HROW := Lib.hid hrow; clear hrow
      have hz := HB2.out.size
      have hgs' : w.heap.size ≤ g := by omega
      have HB4 := Lib.hid (HB2.out.trans (hb4.mono HB2.out.size)); clear hb4 HO
      go_wp2_with fail
      go_ret2
      have hlen : (payL m has).length = ln := by unfold payL; rw [tabN_length]; exact HL.out.len
      exact ansL_row (n := ln) ⟨hlen, g, rfl, HROW.out, hgs', payL_bd HOK.out has, HB4.out⟩ (by have := HOK.out.m8; have := HM.out.bids.len; omega)
theorem PayOf_ans (ra ba oa la : Option Addr) (rn rc bn bc on oc ln lc : Nat) (m : Mkt) (has : List Int) (w : World) (hm : MktAt w ra ba oa rn rc bn bc on oc m) (hl : Ints w la ln lc has) :
    Calls Tryz.prog 28 #[.agg #[.slice ra rn rc, .slice ba bn bc, .slice oa on oc], .slice la ln lc] w (AnsL (payA m has) (payE m has) w) := by
  unfold payA payE
  refine (PayOf_ans0 ra ba oa la rn rc bn bc on oc ln lc m has w hm hl).mono fun e w' h => ?_
  cases hc : (mcheck m && mayB m has) with
  | true => rw [hc] at h; rw [if_pos rfl, if_pos rfl]; exact h
  | false => rw [hc] at h; rw [if_neg (by decide), if_neg (by decide)]; exact h
/-- the reference's -/
def RefL (xs : List Int) (err : Int) (w : World) (e : Ending) (w' : World) : Prop := ∃ a n c, e = .returned (.tuple #[.slice a n c, .int .i64 err]) ∧ Ints w' a n c xs ∧ Below w.heap.size w w'
theorem of14_ans (ra ba oa la : Option Addr) (rn rc bn bc on oc ln lc : Nat) (m : Mkt) (has : List Int) (w : World) (hm : MktAt w ra ba oa rn rc bn bc on oc m) (hs : Short rn bn on m) (hl : Ints w la ln lc has) :
    Calls Tryz.prog 29 #[.agg #[.slice ra rn rc, .slice ba bn bc, .slice oa on oc], .slice la ln lc] w (RefL (payA m has) (payE m has) w) := by
  unfold payA payE
  refine (of14_any ra ba oa la rn rc bn bc on oc ln lc m has w hm hs hl).mono fun e w' h => ?_
  cases hc : (mcheck m && mayB m has) with
  | true => rw [hc] at h; rw [if_pos rfl, if_pos rfl]; exact h
  | false => rw [hc] at h; rw [if_neg (by decide), if_neg (by decide)]; exact h

/-- what a law is given, in memory: a market and a list -/
structure QSt (w0 : World) (B1 : Nat) (ra ba oa ha : Option Addr) (rn rc bn bc on oc hn hc : Nat) (m : Mkt) (has : List Int) (wr : World) : Prop where
  v : VRow wr B1 57 [.slice ra rn rc, .slice ba bn bc, .slice oa on oc]
  m : MktAt wr ra ba oa rn rc bn bc on oc m
  h : Ints wr ha hn hc has
  below : Below w0.heap.size w0 wr
theorem QSt.step {w0 : World} {B1 : Nat} {ra ba oa ha : Option Addr} {rn rc bn bc on oc hn hc : Nat} {m : Mkt} {has : List Int} {wr wr' : World} (h : QSt w0 B1 ra ba oa ha rn rc bn bc on oc hn hc m has wr) (hb : Below wr.heap.size wr wr') : QSt w0 B1 ra ba oa ha rn rc bn bc on oc hn hc m has wr' :=
  ⟨h.v.below hb h.v.lt, h.m.below hb (Nat.le_refl _), h.h.below hb (Nat.le_refl _), h.below.trans (hb.mono h.below.size)⟩
/-- a market's twin, and where it is held -/
structure QX (BX base s1 s2 g1 x1 B xB M g3 x3 rn bn on : Nat) (vals : List Value) (gs : List Nat) (m : Mkt) (wr : World) : Prop where
  v : VRow wr BX 57 [.slice (some ⟨g1, 0, none⟩) rn x1, .slice (some ⟨B, 0, none⟩) bn xB, .slice (some ⟨g3, 0, none⟩) on x3]
  x : MktF wr base s1 s2 g1 x1 B xB M g3 x3 vals gs m
theorem QX.step {BX base s1 s2 g1 x1 B xB M g3 x3 rn bn on : Nat} {vals : List Value} {gs : List Nat} {m : Mkt} {wr wr' : World} (h : QX BX base s1 s2 g1 x1 B xB M g3 x3 rn bn on vals gs m wr) (hb : Below wr.heap.size wr wr') : QX BX base s1 s2 g1 x1 B xB M g3 x3 rn bn on vals gs m wr' :=
  ⟨h.v.below hb h.v.lt, h.x.step hb⟩
theorem MktAt.mbd2 {w : World} {ra ba oa : Option Addr} {rn rc bn bc on oc : Nat} {m : Mkt} (h : MktAt w ra ba oa rn rc bn bc on oc m) (h1 : rn ≤ 100000) (h2 : bn ≤ 100000) (h3 : on ≤ 100000) (hx : ∀ xs, xs ∈ m.bids → xs.length ≤ 100000) : MBd m := by
  have l1 := h.res.len
  have l2 := h.bids.len
  have l3 := h.ord.len
  refine ⟨⟨by omega, h.res.bd⟩, ⟨by omega, fun xs hxs => ⟨hx xs hxs, ?_⟩⟩, ⟨by omega, h.ord.bd⟩⟩
  obtain ⟨k, hk⟩ := List.getElem?_of_mem hxs
  have hkl := (List.getElem?_eq_some_iff.1 hk).1
  obtain ⟨b, o, e⟩ := h.bids.addr (by omega)
  obtain ⟨_, _, _, _, hi⟩ := h.bids.cell b o e k xs hk
  exact hi.bd
theorem LiesAt.up {w : World} {B B' : Nat} {a : Option Addr} {m : Nat} {rs : List Slc} (h : LiesAt w B a m rs) (hb : B ≤ B') : LiesAt w B' a m rs :=
  ⟨h.1, fun hp => by obtain ⟨b, o, e, hl, hc⟩ := h.2 hp; exact ⟨b, o, e, by omega, hc⟩⟩
end Go.Proofs.YtkddkkcfpnndlaaGreatDoor

namespace Go.Proofs.YtkddkkcfpnndlaaGreatDoor
open Go.RowKit Sale

set_option maxRecDepth 100000 in
set_option maxHeartbeats 2000000 in
theorem lives14_any (w : World) : Calls Tryz.prog 24 #[] w fun e w' => e = .returned (.bool true) ∧ Below w.heap.size w w' := by
  have H0 := Lib.hid (m1_at w)
  go_enter Tryz.func24, Tryz.ntmps24
  go_wp2_with fail
  refine (Lost_yes _ _ _ 1 1 2 2 2 2 0 m1 (m1w w) H0.out.mkt (by decide) (by omega)).mono ?_
  rw [show lostM m1 0 = 3 by decide +kernel]
  rintro e w1 ⟨rfl, hb⟩
  have H1 := Lib.hid (H0.out.step hb); clear hb
  have c0 := H1.out.row.cell (k := 0) rfl
  have c1 := H1.out.row.cell (k := 1) rfl
  have c2 := H1.out.row.cell (k := 2) rfl
  go_wp2_with fail
  refine (Lost_yes _ _ _ 1 1 2 2 2 2 1 m1 w1 H1.out.mkt (by decide) (by omega)).mono ?_
  rw [show lostM m1 1 = 0 by decide +kernel]
  rintro e w2 ⟨rfl, hb⟩
  have H2 := Lib.hid (H1.out.step hb); clear hb
  clear c0 c1 c2
  have c0 := H2.out.row.cell (k := 0) rfl
  have c1 := H2.out.row.cell (k := 1) rfl
  have c2 := H2.out.row.cell (k := 2) rfl
  go_wp2_with fail
  have H2' := Lib.hid (H2.out.step ((Below.refl _ _).alloc (Nat.le_refl _) (.cells (iarr [0, -1]) 3)))
  refine (PayOf_any _ _ _ _ 1 1 2 2 2 2 2 2 m1 [0, -1] (w2.alloc (.cells (iarr [0, -1]) 3)) H2'.out.mkt (lit_ints w2 [0, -1] 2 rfl (by omega) (by decide))).mono ?_
  rw [show (mcheck m1 && mayB m1 [0, -1]) = true by decide +kernel, show payL m1 [0, -1] = [5, 0] by decide +kernel]
  rintro e w3 ⟨a3, n3, cp3, rfl, hi3, hb⟩
  have H3 := Lib.hid (H2'.out.step hb); clear hb
  have HI3 := Lib.hid hi3; clear hi3
  clear c0 c1 c2
  have c0 := H3.out.row.cell (k := 0) rfl
  have c1 := H3.out.row.cell (k := 1) rfl
  have c2 := H3.out.row.cell (k := 2) rfl
  go_wp2_with fail
  have H3' := Lib.hid (H3.out.step ((Below.refl _ _).alloc (Nat.le_refl _) (.cells (iarr [0, 0]) 3)))
  refine (PayOf_any _ _ _ _ 1 1 2 2 2 2 2 2 m1 [0, 0] (w3.alloc (.cells (iarr [0, 0]) 3)) H3'.out.mkt (lit_ints w3 [0, 0] 2 rfl (by omega) (by decide))).mono ?_
  rw [show (mcheck m1 && mayB m1 [0, 0]) = false by decide +kernel]
  rintro e w4 ⟨a4, n4, cp4, rfl, _, hb⟩
  have HI4 := Lib.hid ((HI3.out.alloc (.cells (iarr [0, 0]) 3)).below hb (Nat.le_refl _))
  have H4 := Lib.hid (H3'.out.step hb); clear hb
  clear c0 c1 c2
  go_wp2_with fail
  refine (same_any a3 _ n3 cp3 2 2 [5, 0] [5, 0] (w4.alloc (.cells (iarr [5, 0]) 3)) (HI4.out.alloc _) (lit_ints w4 [5, 0] 2 rfl (by omega) (by decide))).mono ?_
  rw [decide_eq_true rfl]
  rintro e w5 ⟨rfl, hb⟩
  have H5 := Lib.hid ((H4.out.step ((Below.refl _ _).alloc (Nat.le_refl _) (.cells (iarr [5, 0]) 3))).step hb); clear hb
  go_wp2_with fail
  go_ret
  exact ⟨rfl, H5.out.below⟩
end Go.Proofs.YtkddkkcfpnndlaaGreatDoor

namespace Go.Proofs.YtkddkkcfpnndlaaGreatDoor
open Go.RowKit Sale

set_option maxRecDepth 100000 in
set_option maxHeartbeats 8000000 in
theorem paymentsOf_any (ra ba oa ha : Option Addr) (rn rc bn bc on oc hn hc : Nat) (m : Mkt) (i : Int) (has : List Int) (w : World) (hm : MktAt w ra ba oa rn rc bn bc on oc m) (hh : Ints w ha hn hc has) (hs : Short rn bn on m) (h1 : hn ≤ 17592186044416) :
    Calls Tryz.prog 5 #[.agg #[.slice ra rn rc, .slice ba bn bc, .slice oa on oc], .int .i64 i, .slice ha hn hc] w fun e w' => e = .returned (.bool true) ∧ Below w.heap.size w w' := by
  have hrl := hm.res.len
  have hbl := hm.bids.len
  have hol := hm.ord.len
  have hhl := hh.len
  have HLEN := Lib.hid (And.intro hrl (And.intro hbl (And.intro hol hhl))); clear hrl hbl hol hhl
  obtain ⟨w1, hw1⟩ : ∃ w1, w1 = w.alloc (.cells #[.slice ra rn rc, .slice ba bn bc, .slice oa on oc] 57) := ⟨_, rfl⟩
  have hb1 : Below w.heap.size w w1 := by rw [hw1]; exact (Below.refl _ _).alloc (Nat.le_refl _) _
  have hv1 : VRow w1 w.heap.size 57 [.slice ra rn rc, .slice ba bn bc, .slice oa on oc] := by rw [hw1]; exact heap_alloc_new w _
  have HS1 := Lib.hid (show QSt w w.heap.size ra ba oa ha rn rc bn bc on oc hn hc m has w1 from ⟨hv1, hm.below hb1 (Nat.le_refl _), hh.below hb1 (Nat.le_refl _), hb1⟩)
  clear hb1 hv1 hm hh
  have HS := Lib.hid hs; clear hs
  have hw1' := hw1.symm
  clear hw1
  have hww := HS1.out.below.size
  have p0 := HS1.out.v.cell (k := 0) rfl
  have p1 := HS1.out.v.cell (k := 1) rfl
  have p2 := HS1.out.v.cell (k := 2) rfl
  go_enter Tryz.func5, Tryz.ntmps5
  go_wp2_with fail
  try rw [hw1']
  clear hw1'
  refine (marketSize_any ra ba oa rn rc bn bc on oc m w1 HS1.out.m HS.out.r HS.out.b HS.out.o HS.out.x).mono ?_
  rintro e w2 ⟨s, rfl, hs1, hs2, hb⟩
  have HSZ := Lib.hid hs2; clear hs2
  have HS2 := Lib.hid (HS1.out.step hb)
  have hz2 := hb.size
  clear hb HS1 p0 p1 p2
  obtain ⟨B1, hB1⟩ : ∃ B1, B1 = w.heap.size := ⟨_, rfl⟩
  have HS2' := Lib.hid (show QSt w B1 ra ba oa ha rn rc bn bc on oc hn hc m has w2 by rw [hB1]; exact HS2.out)
  rw [← hB1]
  clear hB1 HS2
  have HS2 := HS2'; clear HS2'
  have p0 := HS2.out.v.cell (k := 0) rfl
  have p1 := HS2.out.v.cell (k := 1) rfl
  have p2 := HS2.out.v.cell (k := 2) rfl
  obtain ⟨hs10, hs11⟩ := hs1
  by_cases g1 : 1000 < s
  · have e1 : decide (1000 < s) = true := by simpa using g1
    go_wp2_with fail
    refine (lives14_any w2).mono ?_
    rintro e w3 ⟨rfl, hb⟩
    have HS3 := Lib.hid (HS2.out.step hb); clear hb
    go_wp2_with fail
    go_ret
    exact ⟨rfl, HS3.out.below⟩
  have e1 : decide (1000 < s) = false := by simpa using g1
  by_cases g2 : 1000 < (hn : Int)
  · have e2 : decide (1000 < (hn : Int)) = true := by simpa using g2
    go_wp2_with fail
    refine (lives14_any w2).mono ?_
    rintro e w3 ⟨rfl, hb⟩
    have HS3 := Lib.hid (HS2.out.step hb); clear hb
    go_wp2_with fail
    go_ret
    exact ⟨rfl, HS3.out.below⟩
  have e2 : decide (1000 < (hn : Int)) = false := by simpa using g2
  obtain ⟨z1, z2, z3, z4⟩ := HSZ.out (by omega)
  rw [HLEN.out.1] at z1
  rw [HLEN.out.2.1] at z2
  rw [HLEN.out.2.2.1] at z3
  have HMB := Lib.hid (HS2.out.m.mbd2 (by omega) (by omega) (by omega) (fun xs hx => by have := z4 xs hx; omega))
  have HZ4 := Lib.hid z4; clear z4
  have y1 : hn ≤ 1000 := by omega
  clear HSZ
  go_wp2_with fail
  clear e1 e2 g1 g2 hs10 hs11
  refine (twinMarketF_any ra ba oa rn rc bn bc on oc m w2 HS2.out.m (by omega) (by omega) (by omega) (fun xs hx => by have := HZ4.out xs hx; omega)).mono ?_
  rintro e w3 ⟨g1, x1, B, xB, M, g3, x3, s1, s2, vals, gs, rfl, hX, hb3⟩
  have HS3 := Lib.hid (HS2.out.step hb3)
  have hsz3 := hb3.size
  have hsg := hX.seg HLEN.out.1 HLEN.out.2.1 HLEN.out.2.2.1
  have HG3 := Lib.hid (show GSt w2.heap.size w3.heap.size ([⟨some ⟨g1, 0, none⟩, rn, x1⟩] ++ vals.map toSlc ++ [⟨some ⟨g3, 0, none⟩, on, x3⟩]) ⟨some ⟨B, 0, none⟩, bn, xB⟩ w3 from ⟨hsg.1, hsg.2.1, Nat.le_refl _⟩)
  have HLI3 := Lib.hid hsg.2.2
  clear hb3 hsg p0 p1 p2
  obtain ⟨w4, hw4⟩ : ∃ w4, w4 = w3.alloc (.cells #[.slice (some ⟨g1, 0, none⟩) rn x1, .slice (some ⟨B, 0, none⟩) bn xB, .slice (some ⟨g3, 0, none⟩) on x3] 57) := ⟨_, rfl⟩
  have hb4 : Below w3.heap.size w3 w4 := by rw [hw4]; exact (Below.refl _ _).alloc (Nat.le_refl _) _
  have hvx : VRow w4 w3.heap.size 57 [.slice (some ⟨g1, 0, none⟩) rn x1, .slice (some ⟨B, 0, none⟩) bn xB, .slice (some ⟨g3, 0, none⟩) on x3] := by rw [hw4]; exact heap_alloc_new w3 _
  have HS4 := Lib.hid (HS3.out.step hb4)
  have HX4 := Lib.hid (show QX w3.heap.size w2.heap.size s1 s2 g1 x1 B xB M g3 x3 rn bn on vals gs m w4 from ⟨hvx, hX.step hb4⟩)
  have HG4 := Lib.hid (HG3.out.step hb4).wide
  have HLI4 := Lib.hid (HLI3.out.keep hb4)
  have hz4 := hb4.size
  clear hX hvx hb4 HG3 HLI3 HS3
  have hw4' := hw4.symm
  clear hw4
  go_wp2_with fail
  try rw [hw4']
  clear hw4'
  refine (twinIntsF_any ha hn hc has w4 HS4.out.h (by omega)).mono ?_
  rintro e w5 ⟨g6, c6, rfl, hY, hb5⟩
  have HS5 := Lib.hid (HS4.out.step hb5)
  have HX5 := Lib.hid (HX4.out.step hb5)
  have HLI5 := Lib.hid (HLI4.out.keep (hb5.mono (by omega)))
  have HG5 := Lib.hid ((HG4.out.step hb5).more (TwinF.seg hY HLEN.out.2.2.2) (by omega))
  have HY5 := Lib.hid hY
  have hz5 := hb5.size
  clear hY hb5 HS4 HX4 HG4 HLI4
  have hmx := HX5.out.x.mkt HMB.out HLEN.out.1 HLEN.out.2.1 HLEN.out.2.2.1
  have HMX := Lib.hid hmx; clear hmx
  have v0 := HX5.out.v.cell (k := 0) rfl
  have v1 := HX5.out.v.cell (k := 1) rfl
  have v2 := HX5.out.v.cell (k := 2) rfl
  obtain ⟨la, hla⟩ : ∃ la, la = lostA m i := ⟨_, rfl⟩
  obtain ⟨le, hle⟩ : ∃ le, le = lostE m i := ⟨_, rfl⟩
  have HLA := Lib.hid (lost_ans (some ⟨g1, 0, none⟩) (some ⟨B, 0, none⟩) (some ⟨g3, 0, none⟩) rn x1 bn xB on x3 m i w5 HMX.out)
  rw [← hla, ← hle] at HLA
  go_wp2_with fail
  refine HLA.out.mono ?_
  rintro e w6 ⟨rfl, hb6⟩
  have HS6 := Lib.hid (HS5.out.step hb6)
  have HX6 := Lib.hid (HX5.out.step hb6)
  have HLI6 := Lib.hid (HLI5.out.keep (hb6.mono (by omega)))
  have HG6 := Lib.hid (HG5.out.step hb6)
  have HY6 := Lib.hid (HY5.out.below hb6 (Nat.le_refl _))
  have hz6 := hb6.size
  clear hb6 HS5 HX5 HG5 HLI5 HY5 HMX HLA v0 v1 v2
  have p0 := HS6.out.v.cell (k := 0) rfl
  have p1 := HS6.out.v.cell (k := 1) rfl
  have p2 := HS6.out.v.cell (k := 2) rfl
  have HLB := Lib.hid (lost14_ans ra ba oa rn rc bn bc on oc m i w6 HS6.out.m HS.out)
  rw [← hla, ← hle] at HLB
  clear hla hle
  go_wp2_with fail
  refine HLB.out.mono ?_
  rintro e w7 ⟨rfl, hb7⟩
  have HS7 := Lib.hid (HS6.out.step hb7)
  have HX7 := Lib.hid (HX6.out.step hb7)
  have HLI7 := Lib.hid (HLI6.out.keep (hb7.mono (by omega)))
  have HG7 := Lib.hid (HG6.out.step hb7).wide
  have HY7 := Lib.hid (HY6.out.below hb7 (Nat.le_refl _))
  have hz7 := hb7.size
  clear hb7 HS6 HX6 HG6 HLI6 HY6 HLB p0 p1 p2
  have HMX7 := Lib.hid (HX7.out.x.mkt HMB.out HLEN.out.1 HLEN.out.2.1 HLEN.out.2.2.1)
  have hiy := HY7.out.ints (by have := HLEN.out.2.2.2; omega) HS7.out.h.bd
  rw [HLEN.out.2.2.2] at hiy
  have HIY := Lib.hid hiy; clear hiy
  have v0 := HX7.out.v.cell (k := 0) rfl
  have v1 := HX7.out.v.cell (k := 1) rfl
  have v2 := HX7.out.v.cell (k := 2) rfl
  obtain ⟨pl, hpl⟩ : ∃ pl, pl = payA m has := ⟨_, rfl⟩
  obtain ⟨pe, hpe⟩ : ∃ pe, pe = payE m has := ⟨_, rfl⟩
  have HPA := Lib.hid (PayOf_ans (some ⟨g1, 0, none⟩) (some ⟨B, 0, none⟩) (some ⟨g3, 0, none⟩) (some ⟨g6, 0, none⟩) rn x1 bn xB on x3 hn c6 m has w7 HMX7.out HIY.out)
  rw [← hpl, ← hpe] at HPA
  go_wp2_with fail
  refine HPA.out.mono ?_
  rintro e w8 ⟨aa, an, ac, rfl, hA, hSa, ha8, hb8⟩
  have HS8 := Lib.hid (HS7.out.step hb8)
  have HX8 := Lib.hid (HX7.out.step hb8)
  have HLI8 := Lib.hid (HLI7.out.keep (hb8.mono (by omega)))
  have HG8 := Lib.hid ((HG7.out.step hb8).more hSa (by omega))
  have HY8 := Lib.hid (HY7.out.below hb8 (Nat.le_refl _))
  have HA8 := Lib.hid hA
  have hz8 := hb8.size
  clear hb8 hA hSa HS7 HX7 HG7 HLI7 HY7 HMX7 HIY HPA v0 v1 v2
  have p0 := HS8.out.v.cell (k := 0) rfl
  have p1 := HS8.out.v.cell (k := 1) rfl
  have p2 := HS8.out.v.cell (k := 2) rfl
  have HPB := Lib.hid (of14_ans ra ba oa ha rn rc bn bc on oc hn hc m has w8 HS8.out.m HS.out HS8.out.h)
  rw [← hpl, ← hpe] at HPB
  clear hpl hpe
  go_wp2_with fail
  refine HPB.out.mono ?_
  rintro e w9 ⟨ba', bn', bc', rfl, hBB, hb9⟩
  have HS9 := Lib.hid (HS8.out.step hb9)
  have HX9 := Lib.hid (HX8.out.step hb9)
  have HLI9 := Lib.hid (HLI8.out.keep (hb9.mono (by omega)))
  have HG9 := Lib.hid (HG8.out.step hb9).wide
  have HY9 := Lib.hid (HY8.out.below hb9 (Nat.le_refl _))
  have HA9 := Lib.hid (HA8.out.below hb9 (Nat.le_refl _))
  have HB9 := Lib.hid hBB
  have hz9 := hb9.size
  clear hb9 hBB HS8 HX8 HG8 HLI8 HY8 HA8 HPB p0 p1 p2
  have hbk := BookHas.new w9
  obtain ⟨w10, hw10⟩ : ∃ w10, w10 = w9.alloc (.cells #[.int .i64 0, .slice none 0 0, .slice none 0 0, .slice none 0 0, .slice none 0 0, .slice none 0 0, .slice none 0 0, .slice none 0 0, .slice none 0 0, .slice none 0 0] 44) := ⟨_, rfl⟩
  rw [← hw10] at hbk
  have hb10 : Below w9.heap.size w9 w10 := by rw [hw10]; exact (Below.refl _ _).alloc (Nat.le_refl _) _
  have HX10 := Lib.hid (HX9.out.step hb10)
  have HLI10 := Lib.hid ((HLI9.out.keep (hb10.mono (by omega))).up (B' := w9.heap.size) (by omega))
  have HK10 := Lib.hid hbk; clear hbk
  have HB10 := Lib.hid hb10; clear hb10
  obtain ⟨Bk, hBk⟩ : ∃ Bk, Bk = w9.heap.size := ⟨_, rfl⟩
  rw [← hBk] at HK10 HLI10
  have hw10' := hw10.symm
  clear hw10
  have HBK := Lib.hid hBk
  have v0 := HX10.out.v.cell (k := 0) rfl
  have v1 := HX10.out.v.cell (k := 1) rfl
  have v2 := HX10.out.v.cell (k := 2) rfl
  go_wp2_with fail
  try rw [hw10']
  try rw [← hBk]
  clear hw10' hBk
  refine (bMarket_any Bk 0 (some ⟨g1, 0, none⟩) (some ⟨B, 0, none⟩) (some ⟨g3, 0, none⟩) rn x1 bn xB on x3 (vals.map toSlc) [] [] [] w10 HK10.out HLI10.out (by omega)).mono ?_
  rintro e w11 ⟨⟨v, rfl⟩, hk11, hf11⟩
  have HB11 := Lib.hid (show Below w9.heap.size w9 w11 from HB10.out.trans (by rw [← HBK.out]; exact hf11.low))
  have HK11 := Lib.hid hk11
  clear hk11 hf11 HB10 HK10 HLI10 HX10 v0 v1 v2
  go_wp2_with fail
  refine (bInts_any Bk (0 + bn + 3) (some ⟨g6, 0, none⟩) hn c6 _ _ _ w11 HK11.out (by omega)).mono ?_
  rintro e w12 ⟨⟨v, rfl⟩, hk12, hf12⟩
  have HB12 := Lib.hid (show Below w9.heap.size w9 w12 from HB11.out.trans (by rw [← HBK.out]; exact hf12.low))
  have HK12 := Lib.hid hk12
  clear hk12 hf12 HB11 HK11
  go_wp2_with fail
  refine (bInts_any Bk (0 + bn + 3 + 1) aa an ac _ _ _ w12 HK12.out (by omega)).mono ?_
  rintro e w13 ⟨⟨v, rfl⟩, hk13, hf13⟩
  have hb13 : Below w9.heap.size w9 w13 := HB12.out.trans (by rw [← HBK.out]; exact hf13.low)
  have HS13 := Lib.hid (HS9.out.step hb13)
  have HX13 := Lib.hid (HX9.out.step hb13)
  have HG13 := Lib.hid (HG9.out.step hb13)
  have HY13 := Lib.hid (HY9.out.below hb13 (Nat.le_refl _))
  have HA13 := Lib.hid (HA9.out.below hb13 (Nat.le_refl _))
  have HB13 := Lib.hid (HB9.out.below hb13 (Nat.le_refl _))
  have HK13 := Lib.hid hk13
  have hz13 := hb13.size
  clear hk13 hf13 hb13 HB12 HK12 HS9 HX9 HG9 HY9 HA9 HB9 HLI9
  go_wp2_with fail
  refine (same_any aa ba' an ac bn' bc' pl pl w13 HA13.out HB13.out).mono ?_
  rintro e w14 ⟨he, hb14⟩
  rw [decide_eq_true rfl] at he
  subst he
  have HS14 := Lib.hid (HS13.out.step hb14)
  have HX14 := Lib.hid (HX13.out.step hb14)
  have HG14 := Lib.hid (HG13.out.step hb14)
  have HY14 := Lib.hid (HY13.out.below hb14 (Nat.le_refl _))
  have HK14 := Lib.hid (HK13.out.step hb14)
  have hz14 := hb14.size
  clear hb14 HS13 HX13 HG13 HY13 HK13 HA13 HB13
  have p0 := HS14.out.v.cell (k := 0) rfl
  have p1 := HS14.out.v.cell (k := 1) rfl
  have p2 := HS14.out.v.cell (k := 2) rfl
  have v0 := HX14.out.v.cell (k := 0) rfl
  have v1 := HX14.out.v.cell (k := 1) rfl
  have v2 := HX14.out.v.cell (k := 2) rfl
  go_wp2_with fail
  refine (leftMarket_any w2.heap.size s1 s2 g1 x1 B xB M g3 x3 vals gs ra ba oa rn rc bn bc on oc m w14 HX14.out.x HS14.out.m (by omega) (by omega) (by omega) (fun xs hx => by have := HZ4.out xs hx; omega)).mono ?_
  rintro e w15 ⟨rfl, hb15⟩
  have HS15 := Lib.hid (HS14.out.step hb15)
  have HX15 := Lib.hid (HX14.out.step hb15)
  have HG15 := Lib.hid (HG14.out.step hb15)
  have HY15 := Lib.hid (HY14.out.below hb15 (Nat.le_refl _))
  have HK15 := Lib.hid (HK14.out.step hb15)
  have hz15 := hb15.size
  clear hb15 HS14 HX14 HG14 HY14 HK14 p0 p1 p2 v0 v1 v2
  go_wp2_with fail
  refine (leftInts_any g6 c6 hn hc ha hn w4.heap.size has w15 HY15.out HLEN.out.2.2.2 HS15.out.h (by omega)).mono ?_
  rintro e w16 ⟨rfl, hb16⟩
  have HS16 := Lib.hid (HS15.out.step hb16)
  have HX16 := Lib.hid (HX15.out.step hb16)
  have HG16 := Lib.hid (HG15.out.step hb16)
  have HK16 := Lib.hid (HK15.out.step hb16)
  clear hb16 HS15 HX15 HG15 HY15 HK15
  have hsA := HG16.out.a
  have hsB := HG16.out.b
  rw [← HBK.out] at hsA hsB
  have HSA := Lib.hid hsA; clear hsA
  have HSB := Lib.hid hsB; clear hsB
  have hlo : w2.heap.size ≤ Bk := by have := HBK.out; omega
  go_wp2_with fail
  refine (apart_any Bk (0 + bn + 3 + 1 + 1) w2.heap.size _ _ _ w16 HK16.out (by omega) hlo (Seg.nil _ _ _ _) (by simpa using HSA.out) (by simpa using HSB.out) ?_).mono ?_
  · intro x hx
    have hrs := toSlc_len HX16.out.x.rows (K := 1000) (fun xs hx => HZ4.out xs hx)
    simp only [List.nil_append, List.mem_append, List.mem_cons, List.not_mem_nil, or_false, false_or] at hx
    rcases hx with ((((rfl | hx) | rfl) | rfl) | rfl) | rfl
    all_goals first | (have := hrs x hx; omega) | (show _ ≤ 900000; simp only []; omega)
  rintro e w17 ⟨rfl, hb17⟩
  have HB17 := Lib.hid (HS16.out.below.trans (hb17.mono (by omega))); clear hb17
  go_wp2_with fail
  refine (lives14_any w17).mono ?_
  rintro e w18 ⟨rfl, hb18⟩
  have HB18 := Lib.hid (HB17.out.trans (hb18.mono HB17.out.size)); clear hb18
  go_wp2_with fail
  go_ret
  exact ⟨rfl, HB18.out⟩
end Go.Proofs.YtkddkkcfpnndlaaGreatDoor
