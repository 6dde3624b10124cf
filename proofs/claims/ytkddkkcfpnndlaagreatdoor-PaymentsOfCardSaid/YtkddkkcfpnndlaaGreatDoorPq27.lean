/- Walks: markets.Without. Walks: payments: the book of a market, and what all have but one. Walks: payments: what all have but one; what is lost by one. Walks: payments.Lost, Of. Walks: payments.Of. -/
import Derived.Test.YtkddkkcfpnndlaaGreatDoorPq19
import Derived.Test.YtkddkkcfpnndlaaGreatDoorPq08
import Derived.Test.YtkddkkcfpnndlaaGreatDoorPq20
import Derived.Test.YtkddkkcfpnndlaaGreatDoorPq06
import Derived.Test.YtkddkkcfpnndlaaGreatDoorPq05
import Derived.Deep.RegionHeld3
import Derived.Deep.DeepCutAuto
namespace Go.Proofs.YtkddkkcfpnndlaaGreatDoor
open Go.RowKit

/-- a clone -/
def Cloned (n : Nat) (xs : List Int) (w : World) (e : Ending) (w' : World) : Prop :=
  ∃ a c, e = .returned (.slice a n c) ∧ n ≤ c ∧ Ints w' a n c xs ∧ (∀ b o, a = some ⟨b, o, none⟩ → w.heap.size ≤ b ∧ b < w'.heap.size) ∧ Below w.heap.size w w'
theorem cloned_any (a : Option Addr) (n c : Nat) (xs : List Int) (w : World) (h : Ints w a n c xs) (hsz : n < 17592186044000) :
    Calls Tryz.prog 111 #[.slice a n c] w (Cloned n xs w) := by
  refine (clone_any a n c xs w h hsz).mono ?_
  rintro e w' ⟨v, rfl, ho, hb⟩
  obtain ⟨a2, c2, rfl, hi⟩ := ho.ints (by rw [h.len]; exact h.big) h.bd
  rw [h.len] at hi ho ⊢
  refine ⟨a2, c2, rfl, hi.cap, hi, fun b o e => ?_, hb⟩
  subst e
  have h1 := World.ownsRow.lt ho b rfl
  exact h1

theorem Ints.toClip {w : World} {a : Option Addr} {n c : Nat} {xs : List Int} (h : Ints w a n c xs) : Ints w a n n xs :=
  ⟨h.len, Nat.le_refl _, h.big, h.addr, h.cell, h.bd, fun e => ⟨(h.nil e).1, (h.nil e).1⟩⟩
theorem Below.step {B : Nat} {w w1 w2 : World} (hb : Below w1.heap.size w1 w2) (h : Below B w w1) (hB : B ≤ w1.heap.size) : Below B w w2 := h.trans (hb.mono hB)
theorem VRow.step {w w' : World} {B : Nat} {T : TypeId} {vals : List Value} (h : VRow w B T vals) (hb : Below w.heap.size w w') : VRow w' B T vals := h.below hb h.lt

theorem below_on {w w1 w2 : World} (hb : Below w1.heap.size w1 w2) (h : Below w.heap.size w w1) : Below w.heap.size w w2 := h.trans (hb.mono h.size)
theorem below_alloc {w w1 : World} {o : Obj} (h : Below w.heap.size w w1) : Below w.heap.size w (w1.alloc o) := h.alloc h.size o
theorem cell_up {w w' : World} {b o : Nat} {v : Value} (hb : Below w.heap.size w w') (h : w.cell? ⟨b, o, none⟩ = some v) : w'.cell? ⟨b, o, none⟩ = some v := cell_step hb h
/-- a list of integers lies apart from a block of lists -/
theorem Ints.apartV {w : World} {a : Option Addr} {n c B : Nat} {T : TypeId} {xs : List Int} {vals : List Value} (h : Ints w a n c xs) (hV : VRow w B T vals) (hs : ∀ v, v ∈ vals → ∃ a n c, v = .slice a n c) : 0 < n → ∀ b o, a = some ⟨b, o, none⟩ → b ≠ B := by
  intro hn b o e eb
  subst eb
  obtain ⟨x, hx, _⟩ := h.get hn
  have h1 := h.cell b o e 0 x hx
  unfold VRow at hV
  rw [cell_of_row w b (o + 0) _ T _ hV] at h1
  obtain ⟨a', n', c', e'⟩ := hs (.int .i64 x) (by
    have : vals[o + 0]? = some (.int .i64 x) := by simpa using h1
    exact List.mem_of_getElem? this)
  cases e'
theorem VRow.apartT {w : World} {B B' : Nat} {T T' : TypeId} {vals vals' : List Value} (h : VRow w B T vals) (h' : VRow w B' T' vals') (hT : T ≠ T') : B ≠ B' := by
  intro e
  subst e
  unfold VRow at h h'
  rw [h] at h'
  exact hT (by injection h' with h'; injection h' with _ h' _)
/-- what the literal leaves -/
structure Lit3 (w1 wx : World) (Bx Bo : Nat) (a1 a3 : Option Addr) (rn bn on : Nat) (m : Mkt) : Prop where
  row : VRow wx Bx 57 [.slice a1 rn rn, .slice (some ⟨Bo, 0, none⟩) bn bn, .slice a3 on on]
  rows : VRow wx Bo 25 (List.replicate bn (Value.slice none 0 0))
  res : Ints wx a1 rn rn m.res
  ord : Ints wx a3 on on m.ord
  far1 : 0 < rn → ∀ b o, a1 = some ⟨b, o, none⟩ → b ≠ Bo
  far3 : 0 < on → ∀ b o, a3 = some ⟨b, o, none⟩ → b ≠ Bo
  bx : w1.heap.size ≤ Bx
  bo : w1.heap.size ≤ Bo
  ne : Bo ≠ Bx
  below : Below w1.heap.size w1 wx

/-- what each operation of the literal yields -/
def PW (H B rb ro bb bo ob oo rn rc on bc oc : Nat) (m : Mkt) (i : Nat) (x : Value) (w : World) : Prop := match i with
  | 0 => x = .pointer (some ⟨B, 0, none⟩)
  | 1 => x = .slice (some ⟨rb, ro, none⟩) rn rc
  | 2 => ∃ a c, x = .slice a rn c ∧ rn ≤ c ∧ Ints w a rn c m.res
  | 3 => ∃ a, x = .slice a rn rn ∧ Ints w a rn rn m.res
  | 4 => x = .pointer (some ⟨B, 1, none⟩)
  | 5 => x = .slice (some ⟨bb, bo, none⟩) on bc
  | 6 => x = .int .i64 on
  | 7 => ∃ g, x = .slice (some ⟨g, 0, none⟩) on on ∧ H ≤ g ∧ VRow w g 25 (List.replicate on (Value.slice none 0 0))
  | 8 => x = .pointer (some ⟨B, 2, none⟩)
  | 9 => x = .slice (some ⟨ob, oo, none⟩) on oc
  | 10 => ∃ a c, x = .slice a on c ∧ on ≤ c ∧ Ints w a on c m.ord
  | 11 => ∃ a, x = .slice a on on ∧ Ints w a on on m.ord
  | 12 => ∃ a1 g a3, x = .agg #[.slice a1 rn rn, .slice (some ⟨g, 0, none⟩) on on, .slice a3 on on] ∧ Ints w a1 rn rn m.res ∧ H ≤ g ∧ VRow w g 25 (List.replicate on (Value.slice none 0 0)) ∧ Ints w a3 on on m.ord
  | 13 => ∃ g, x = .pointer (some ⟨g, 0, none⟩) ∧ H ≤ g ∧ VRow w g 57 [.slice none 0 0, .slice none 0 0, .slice none 0 0]
  | _ => True

theorem PW_mono {H B rb ro bb bo ob oo rn rc on bc oc : Nat} {m : Mkt} : ∀ (j : Nat) (y : Value) (w w' : World), Below w.heap.size w w' → PW H B rb ro bb bo ob oo rn rc on bc oc m j y w → PW H B rb ro bb bo ob oo rn rc on bc oc m j y w'
  | 0, _, _, _, _, h => h
  | 1, _, _, _, _, h => h
  | 2, _, _, _, hb, ⟨a, c, e, h1, h2⟩ => ⟨a, c, e, h1, h2.step hb⟩
  | 3, _, _, _, hb, ⟨a, e, h2⟩ => ⟨a, e, h2.step hb⟩
  | 4, _, _, _, _, h => h
  | 5, _, _, _, _, h => h
  | 6, _, _, _, _, h => h
  | 7, _, _, _, hb, ⟨g, e, hg, h⟩ => ⟨g, e, hg, h.step hb⟩
  | 8, _, _, _, _, h => h
  | 9, _, _, _, _, h => h
  | 10, _, _, _, hb, ⟨a, c, e, h1, h2⟩ => ⟨a, c, e, h1, h2.step hb⟩
  | 11, _, _, _, hb, ⟨a, e, h2⟩ => ⟨a, e, h2.step hb⟩
  | 12, _, _, _, hb, ⟨a1, g, a3, e, h1, hg, h2, h3⟩ => ⟨a1, g, a3, e, h1.step hb, hg, h2.step hb, h3.step hb⟩
  | 13, _, _, _, hb, ⟨g, e, hg, h⟩ => ⟨g, e, hg, h.step hb⟩
  | _ + 14, _, _, _, _, _ => trivial

set_option maxRecDepth 100000 in
set_option maxHeartbeats 4000000 in
theorem Without_yes (ra ba oa : Option Addr) (rn rc bn bc on oc i0 : Nat) (m : Mkt) (w : World) (hm : MktAt w ra ba oa rn rc bn bc on oc m) (hc : mcheck m = true) (hi : i0 < bn) :
    Calls Tryz.prog 155 #[.agg #[.slice ra rn rc, .slice ba bn bc, .slice oa on oc], .int .i64 i0] w fun e w' => ∃ a1 a2 a3, e = .returned (.tuple #[.agg #[.slice a1 rn rn, .slice a2 bn bn, .slice a3 on on], .int .i64 0]) ∧ MktAt w' a1 a2 a3 rn rn bn bn on on (withoutM m i0) ∧ Below w.heap.size w w' := by
  have hok := mcheck_ok hc
  have hrl := hm.res.len
  have hbl := hm.bids.len
  have hol := hm.ord.len
  have hn1 := hok.n1
  have hn8 := hok.n8
  have hm1 := hok.m1
  have hm8 := hok.m8
  have ho8 : on = bn := by
    obtain ⟨on', e, hp⟩ := hok.order
    have := hp.length_eq
    rw [e] at hol
    simp at this hol
    omega
  subst ho8
  rw [hrl] at hn1 hn8
  rw [hbl] at hm1 hm8
  have HRL := Lib.hid hrl; clear hrl
  have HBL := Lib.hid hbl; clear hbl
  have HOK := Lib.hid hok; clear hok
  have HC := Lib.hid hc; clear hc
  have HOL := Lib.hid hol; clear hol
  have HB0 := Lib.hid (show Below w.heap.size w ((mw w ra ba oa rn rc on bc on oc).alloc (.cells #[.slice none 0 0, .slice none 0 0, .slice none 0 0] 57)) from ((Below.refl _ w).alloc (Nat.le_refl _) _).alloc (by simp) _)
  have HM := Lib.hid hm; clear hm
  obtain ⟨bb, bo, rfl⟩ := HM.out.bids.addr (by omega)
  obtain ⟨rb, ro, rfl⟩ := HM.out.res.addr (by omega)
  obtain ⟨ob, oo, rfl⟩ := HM.out.ord.addr (by omega)
  have hmA := HM.out.below HB0.out (Nat.le_refl _)
  have HK := Lib.hid (mcheck_any _ _ _ rn rc on bc on oc m _ hmA.res hmA.bids hmA.ord)
  clear hmA
  have hmkB := mkRows on (by omega)
  go_enter Tryz.func155, Tryz.ntmps155
  go_wp2_with fail
  refine HK.out.mono ?_
  rw [HC.out]
  rintro e w1 ⟨rfl, hb⟩
  have hb0 := hb
  have hcs : (w1.cell? ⟨w.heap.size, 0, none⟩ = some (.slice (some ⟨rb, ro, none⟩) rn rc) ∧ w1.cell? ⟨w.heap.size, 1, none⟩ = some (.slice (some ⟨bb, bo, none⟩) on bc) ∧ w1.cell? ⟨w.heap.size, 2, none⟩ = some (.slice (some ⟨ob, oo, none⟩) on oc)) := by
    refine ⟨?_, ?_, ?_⟩
    all_goals (rw [hb0.cell (p := ⟨w.heap.size, _, none⟩) (by simp [mw]; omega)]; simp [mw, go_sem])
  obtain ⟨k0, k1, k2⟩ := hcs
  have hz1 : w.heap.size + 1 < w1.heap.size := by have := hb0.size; simp [mw] at this; omega
  have HBW1 := Lib.hid (HB0.out.trans (hb0.mono (by simp [mw]; omega)))
  have hrv : VRow w1 (w.heap.size + 1) 57 [.slice none 0 0, .slice none 0 0, .slice none 0 0] := by
    have h := (VRow.new (mw w (some ⟨rb, ro, none⟩) (some ⟨bb, bo, none⟩) (some ⟨ob, oo, none⟩) rn rc on bc on oc) 57 [.slice none 0 0, .slice none 0 0, .slice none 0 0])
    have e : (mw w (some ⟨rb, ro, none⟩) (some ⟨bb, bo, none⟩) (some ⟨ob, oo, none⟩) rn rc on bc on oc).heap.size = w.heap.size + 1 := by simp [mw]
    rw [e] at h
    exact VRow.below h hb0 (by simp [mw])
  have HRV := Lib.hid hrv; clear hrv
  clear hb hb0 HK
  have e1 : decide ((i0 : Int) < 0) = false := by simp
  have e2 : decide ((on : Int) ≤ (i0 : Int)) = false := by simp; omega
  have e3 : decide (on ≤ i0) = false := by simp; omega
  have hM1 := HM.out.below HBW1.out (Nat.le_refl _)
  have HIR := Lib.hid hM1.res
  have HIO := Lib.hid hM1.ord
  clear hM1
  go_upto_region 3 with fail
  go_cut [6] (fun s6 wx => ∃ (Bx Bo : Nat) (a1 a3 : Option Addr), s6 = .pointer (some ⟨Bx, 0, none⟩) ∧ Lit3 w1 wx Bx Bo a1 a3 rn on on m)
  case first =>
    refine wp_region_each' (by kernel_rfl) [24, 25, 26, 27, 28, 29, 30, 31, 32, 33, 34, 35, 36, 6] (PW w1.heap.size w.heap.size rb ro bb bo ob oo rn rc on bc oc m) (fun w' => Below w1.heap.size w1 w') (by simp) (by kernel_rfl) (by simp) (by decide) (by simp [fold]) ?hmono (Below.refl _ _).drew ?hstep ?hlast
    case hmono => exact PW_mono
    case hlast =>
      intro o v wx K ho hB hd hK
      simp only [List.length_cons, List.length_nil, Nat.reduceAdd, Nat.reduceSub, List.getElem?_cons_zero, List.getElem?_cons_succ, Option.some.injEq] at ho
      subst ho
      simp only [fold, Nat.zero_add, Nat.reduceAdd, List.setIfInBounds_toArray, List.set_cons_zero, List.set_cons_succ]
      obtain ⟨a1, g, a3, d12, h1, hg2, h2, h3⟩ : PW w1.heap.size w.heap.size rb ro bb bo ob oo rn rc on bc oc m 12 (v 12) wx := hd 12 (by simp)
      obtain ⟨Bx, d13, hg13, h13⟩ : PW w1.heap.size w.heap.size rb ro bb bo ob oo rn rc on bc oc m 13 (v 13) wx := hd 13 (by simp)
      rw [d12, d13]
      have c0 := h13.cell (k := 0) rfl
      have c1 := h13.cell (k := 1) rfl
      have c2 := h13.cell (k := 2) rfl
      have f0 := h13.frozen 0
      have f1 := h13.frozen 1
      have f2 := h13.frozen 2
      have H13 := Lib.hid h13; clear h13
      have H1 := Lib.hid h1; clear h1
      have H2 := Lib.hid h2; clear h2
      have H3 := Lib.hid h3; clear h3
      have HBB := Lib.hid hB; clear hB
      clear hd
      go_wp2_with fail
      go_meet
      have hne : g ≠ Bx := H2.out.apartT H13.out (by decide)
      have hsl : ∀ v, v ∈ List.replicate on (Value.slice none 0 0) → ∃ a n c, v = .slice a n c := fun v hv => ⟨none, 0, 0, (List.mem_replicate.1 hv).2⟩
      have hs3 : ∀ v, v ∈ [Value.slice none 0 0, .slice none 0 0, .slice none 0 0] → ∃ a n c, v = .slice a n c := fun v hv => ⟨none, 0, 0, by simpa using hv⟩
      have hr1 := H1.out.apartV H13.out hs3
      have hr3 := H3.out.apartV H13.out hs3
      refine ⟨Bx, g, a1, a3, rfl, ((H13.out.set 0 _).set 1 _).set 2 _, ?_, ((H1.out.far hr1 _).far hr1 _).far hr1 _, ((H3.out.far hr3 _).far hr3 _).far hr3 _, H1.out.apartV H2.out hsl, H3.out.apartV H2.out hsl, hg13, hg2, hne, ((HBB.out.setCell (by simpa using hg13) _).setCell (by simpa using hg13) _).setCell (by simpa using hg13) _⟩
      unfold VRow
      rw [heap_setCell_other _ _ _ _ (by simpa using hne), heap_setCell_other _ _ _ _ (by simpa using hne), heap_setCell_other _ _ _ _ (by simpa using hne)]
      exact H2.out
    case hstep =>
      intro i o v wx K hi ho hB hd hK
      simp only [List.length_cons, List.length_nil] at hi
      simp only [fold, Nat.zero_add, Nat.reduceAdd, List.setIfInBounds_toArray, List.set_cons_zero, List.set_cons_succ]
      rcases (by omega : i = 0 ∨ i = 1 ∨ i = 2 ∨ i = 3 ∨ i = 4 ∨ i = 5 ∨ i = 6 ∨ i = 7 ∨ i = 8 ∨ i = 9 ∨ i = 10 ∨ i = 11 ∨ i = 12 ∨ i = 13) with rfl | rfl | rfl | rfl | rfl | rfl | rfl | rfl | rfl | rfl | rfl | rfl | rfl | rfl
      all_goals
        simp only [List.getElem?_cons_zero, List.getElem?_cons_succ, Option.some.injEq] at ho
        subst ho
        simp only [fold, Nat.zero_add, Nat.reduceAdd, Act.put, List.setIfInBounds_toArray, List.set_cons_zero, List.set_cons_succ] at hK
      · clear hd
        go_wp2_with fail
        exact hK _ _ hB (Below.refl _ _) rfl
      · have d0 : v 0 = .pointer (some ⟨w.heap.size, 0, none⟩) := hd ⟨0, .data⟩ (by simp) rfl
        have hcc := cell_up hB k0
        rw [d0] at hK ⊢
        clear hd
        go_wp2_with fail
        exact hK _ _ hB (Below.refl _ _) rfl
      · have d1 : v 1 = .slice (some ⟨rb, ro, none⟩) rn rc := hd ⟨1, .data⟩ (by simp) rfl
        rw [d1] at hK ⊢
        clear hd
        go_wp2_with fail
        refine (cloned_any _ _ _ m.res _ (HIR.out.below hB (Nat.le_refl _)) (by omega)).mono ?_
        rintro e w' ⟨a1, c1, rfl, hc1, hi1, _, hb1⟩
        go_wp2_with fail
        exact hK _ _ (below_on hb1 hB) hb1 ⟨a1, c1, rfl, hc1, hi1⟩
      · obtain ⟨a, c, d2, hc2, hi2⟩ : PW w1.heap.size w.heap.size rb ro bb bo ob oo rn rc on bc oc m 2 (v 2) wx := hd ⟨2, .data⟩ (by simp) rfl
        rw [d2] at hK ⊢
        clear hd
        go_wp2_with fail
        refine (clip_any _ _ _ _ hc2).mono ?_
        rintro e w' ⟨rfl, rfl⟩
        go_wp2_with fail
        exact hK _ _ hB (Below.refl _ _) ⟨a, rfl, hi2.toClip⟩
      · clear hd
        go_wp2_with fail
        exact hK _ _ hB (Below.refl _ _) rfl
      · have d4 : v 4 = .pointer (some ⟨w.heap.size, 1, none⟩) := hd ⟨4, .data⟩ (by simp) rfl
        have hcc := cell_up hB k1
        rw [d4] at hK ⊢
        clear hd
        go_wp2_with fail
        exact hK _ _ hB (Below.refl _ _) rfl
      · have d5 : v 5 = .slice (some ⟨bb, bo, none⟩) on bc := hd ⟨5, .data⟩ (by simp) rfl
        rw [d5] at hK ⊢
        clear hd
        go_wp2_with fail
        exact hK _ _ hB (Below.refl _ _) rfl
      · have d6 : v 6 = .int .i64 on := hd ⟨6, .data⟩ (by simp) rfl
        rw [d6] at hK ⊢
        clear hd
        go_wp2_with fail
        exact hK _ _ (below_alloc hB) ((Below.refl _ _).alloc (Nat.le_refl _) _) ⟨_, rfl, hB.size, VRow.new _ _ _⟩
      · clear hd
        go_wp2_with fail
        exact hK _ _ hB (Below.refl _ _) rfl
      · have d8 : v 8 = .pointer (some ⟨w.heap.size, 2, none⟩) := hd ⟨8, .data⟩ (by simp) rfl
        have hcc := cell_up hB k2
        rw [d8] at hK ⊢
        clear hd
        go_wp2_with fail
        exact hK _ _ hB (Below.refl _ _) rfl
      · have d9 : v 9 = .slice (some ⟨ob, oo, none⟩) on oc := hd ⟨9, .data⟩ (by simp) rfl
        rw [d9] at hK ⊢
        clear hd
        go_wp2_with fail
        refine (cloned_any _ _ _ m.ord _ (HIO.out.below hB (Nat.le_refl _)) (by omega)).mono ?_
        rintro e w' ⟨a1, c1, rfl, hc1, hi1, _, hb1⟩
        go_wp2_with fail
        exact hK _ _ (below_on hb1 hB) hb1 ⟨a1, c1, rfl, hc1, hi1⟩
      · obtain ⟨a, c, d2, hc2, hi2⟩ : PW w1.heap.size w.heap.size rb ro bb bo ob oo rn rc on bc oc m 10 (v 10) wx := hd ⟨10, .data⟩ (by simp) rfl
        rw [d2] at hK ⊢
        clear hd
        go_wp2_with fail
        refine (clip_any _ _ _ _ hc2).mono ?_
        rintro e w' ⟨rfl, rfl⟩
        go_wp2_with fail
        exact hK _ _ hB (Below.refl _ _) ⟨a, rfl, hi2.toClip⟩
      · obtain ⟨a1, d3, h3⟩ : PW w1.heap.size w.heap.size rb ro bb bo ob oo rn rc on bc oc m 3 (v 3) wx := hd ⟨3, .data⟩ (by simp) rfl
        obtain ⟨g, d7, hg7, h7⟩ : PW w1.heap.size w.heap.size rb ro bb bo ob oo rn rc on bc oc m 7 (v 7) wx := hd ⟨7, .data⟩ (by simp) rfl
        obtain ⟨a3, d11, h11⟩ : PW w1.heap.size w.heap.size rb ro bb bo ob oo rn rc on bc oc m 11 (v 11) wx := hd ⟨11, .data⟩ (by simp) rfl
        rw [d3, d7, d11] at hK ⊢
        clear hd
        go_wp2_with fail
        exact hK _ _ hB (Below.refl _ _) ⟨a1, g, a3, rfl, h3, hg7, h7, h11⟩
      · clear hd
        go_wp2_with fail
        exact hK _ _ (below_alloc hB) ((Below.refl _ _).alloc (Nat.le_refl _) _) ⟨_, rfl, hB.size, VRow.new _ _ _⟩
  case rest =>
    obtain ⟨Bx, Bo, a1, a3, rfl, hL⟩ := hcut
    have hcb := cell_step (hL.below.mono (Nat.le_refl _)) k1
    have HL := Lib.hid hL; clear hL
    have hwl : (withoutM m i0).bids.length = on := by rw [withoutM_length]; exact HBL.out
    have HWL := Lib.hid hwl; clear hwl
    clear k0 k1 k2
    go_wp2_with fail
    go_loopg [40] on (fun g' s40 wr => ∃ (i : Nat) (vals : List Value), i + g' = on ∧ s40 = .int .i64 i ∧ Made wr Bo w1.heap.size wr.heap.size on ((withoutM m i0).bids.take i) vals ∧ (∀ j, i ≤ j → j < on → vals[j]? = some (Value.slice none 0 0)) ∧
      VRow wr Bx 57 [.slice a1 rn rn, .slice (some ⟨Bo, 0, none⟩) on on, .slice a3 on on] ∧ Ints wr a1 rn rn m.res ∧ Ints wr a3 on on m.ord ∧ Below w1.heap.size w1 wr)
    case atStart =>
      exact ⟨0, _, by omega, rfl, ⟨HL.out.rows, by simp, HL.out.bo, HL.out.rows.lt, fun j xs hj => by simp at hj⟩, fun j _ hj => by simp [hj], HL.out.row, HL.out.res, HL.out.ord, HL.out.below⟩
    case round =>
      obtain ⟨i, vals, hi', rfl, hMd, hrest, hX, hR, hO, hB⟩ := hrel
      have HI := Lib.hid hi'; clear hi'
      by_cases hlt : i < on
      · obtain ⟨bid, hbid⟩ := HM.out.bids.get hlt
        obtain ⟨la, ln, lc, hcl, hli⟩ := HM.out.bids.row (HBW1.out.trans (hB.mono HBW1.out.size)) (Nat.le_refl _) (b := bb) (o := bo) (k := i) rfl hbid
        have hln : ln ≤ 8 := by
          rcases HOK.out.bid bid (List.mem_of_getElem? hbid) with e | ⟨e, _⟩
          · have := hli.len; rw [e] at this; simp at this; omega
          · have := hli.len; have := HRL.out; omega
        have hv0 := hrest i (Nat.le_refl _) hlt
        have hgl : ((withoutM m i0).bids.take i).length = i := by rw [List.length_take, HWL.out]; omega
        have HMD := Lib.hid hMd; clear hMd
        have HREST := Lib.hid hrest; clear hrest
        have HGL := Lib.hid hgl; clear hgl
        by_cases hii : i = i0
        · have f1 : ((i : Int) != (i0 : Int)) = false := by simp [hii]
          have hpush := HMD.out.push (xs := []) (top' := wr.heap.size) (Nat.le_refl _) (a := none) (c := 0) (by rw [HGL.out]; exact hv0) (Ints.empty _ _ _) (fun h => by simp at h)
          rw [show (withoutM m i0).bids.take i ++ [[]] = (withoutM m i0).bids.take (i + 1) by
            rw [List.take_add_one]
            simp [withoutM, hii, HBL.out, hi]] at hpush
          have HP := Lib.hid hpush; clear hpush
          have HX := Lib.hid hX; clear hX
          have HR := Lib.hid hR; clear hR
          have HO := Lib.hid hO; clear hO
          have HB := Lib.hid hB; clear hB
          have HLI := Lib.hid hli; clear hli
          have HBID := Lib.hid hbid; clear hbid
          have HV0 := Lib.hid hv0; clear hv0
          have HII := Lib.hid hii; clear hii
          go_wp2_with fail
          go_roundg (gk - 1)
          case measure => have := HI.out; omega
          case rel => exact ⟨i + 1, vals, by have := HI.out; omega, by go_num, HP.out, fun j h1 h2 => HREST.out j (by omega) h2, HX.out, HR.out, HO.out, HB.out⟩
        · have f1 : ((i : Int) != (i0 : Int)) = true := by simp; omega
          have cX := hX.cell (k := 1) rfl
          have cV := HMD.out.row.cell hv0
          have fV := HMD.out.row.frozen i
          have hsz := HMD.out.hi
          have hszx := hX.lt
          have i1 : (i : Int) < (on : Int) := by omega
          have HX := Lib.hid hX; clear hX
          have HR := Lib.hid hR; clear hR
          have HO := Lib.hid hO; clear hO
          have HB := Lib.hid hB; clear hB
          have HLI := Lib.hid hli; clear hli
          have HBID := Lib.hid hbid; clear hbid
          have HV0 := Lib.hid hv0; clear hv0
          have HII := Lib.hid hii; clear hii
          go_wp2_with fail
          have hne := HL.out.ne
          go_region_held3 (fun w' => w'.cell? ⟨Bx, 1, none⟩ = some (.slice (some ⟨Bo, 0, none⟩) on on))
            (first | assumption | (rw [World.cell?_setCell_far _ _ _ _ (by simpa using hne)]; assumption) | (simp only [World.cell?_drew]; assumption) | go_keep)
            (first
              | (go_at_call 111; refine (cloned_any la ln lc bid _ ?_ (by omega)).mono ?_; (exact HLI.out.below (HBW1.out.trans (HB.out.drew.mono HBW1.out.size)) (Nat.le_refl _)); rintro e w' ⟨a4, c4, rfl, hc4, hi4, hf4, hb4⟩; have q1 := cell_step (v := .slice (some ⟨Bo, 0, none⟩) on on) (b := Bx) (o := 1) hb4 cX; have q2 := cell_step (v := .slice none 0 0) (b := Bo) (o := i) hb4 cV; have q3 : w'.frozen? ⟨Bo, i, none⟩ = false := (hb4.frozen (p := ⟨Bo, i, none⟩) hsz).trans fV)
              | (go_at_call 98; refine (clip_any _ _ _ _ ‹_›).mono ?_; rintro e w' ⟨rfl, rfl⟩))
          go_wp2_with fail
          go_roundg (gk - 1)
          case measure => have := HI.out; omega
          case rel =>
            have hln2 := HLI.out.len
            have hb5 : Below wr.heap.size wr w' := (Below.refl wr.heap.size wr).drew.trans hb4
            have hfar : ∀ b o, a4 = some ⟨b, o, none⟩ → b ≠ Bo := fun b o e => by have := (hf4 b o e).1; simp at this; omega
            have hM2 := (HMD.out.below hb5 (Nat.le_refl _)).set (i := i) (by rw [HGL.out]; exact Nat.le_refl _) (.slice a4 ln ln)
            have hI2 := hi4.toClip.far (p := ⟨Bo, i, none⟩) (fun _ b o e => hfar b o e) (.slice a4 ln ln)
            have hP := hM2.push (xs := bid) (top' := w'.heap.size) hb5.size (a := a4) (c := ln) (by rw [HGL.out, hln2, List.getElem?_set_self (by rw [HMD.out.len]; exact hlt)]) (by rw [hln2]; exact hI2) (fun _ b o e => by
              have h1 := hf4 b o e
              have h2 := HB.out.size
              simp at h1
              exact ⟨by omega, h1.2, hfar b o e⟩)
            rw [show (withoutM m i0).bids.take i ++ [bid] = (withoutM m i0).bids.take (i + 1) by
              rw [List.take_add_one]
              have : (withoutM m i0).bids[i]? = some bid := by simp only [withoutM]; rw [List.getElem?_set_ne (fun e => HII.out e.symm)]; exact HBID.out
              rw [this]; rfl] at hP
            refine ⟨i + 1, _, by have := HI.out; omega, by go_num, by simpa using hP, fun j h1 h2 => by rw [List.getElem?_set_ne (by omega)]; exact HREST.out j (by omega) h2, ?_, (HR.out.step hb5).far (fun hn b o e => HL.out.far1 hn b o e) _, (HO.out.step hb5).far (fun hn b o e => HL.out.far3 hn b o e) _, (HB.out.trans (hb5.mono HB.out.size)).setCell (by simpa using HL.out.bo) _⟩
            unfold VRow
            rw [heap_setCell_other _ _ _ _ (by simpa using hne.symm)]
            exact HX.out.step hb5
      · obtain rfl : i = on := by have := HI.out; omega
        have x0 := hX.cell (k := 0) rfl
        have x1 := hX.cell (k := 1) rfl
        have x2 := hX.cell (k := 2) rfl
        have HX := Lib.hid hX; clear hX
        have HR := Lib.hid hR; clear hR
        have HO := Lib.hid hO; clear hO
        have HB := Lib.hid hB; clear hB
        have HMD := Lib.hid hMd; clear hMd
        rw [List.take_of_length_le (by rw [HWL.out]; exact Nat.le_refl _)] at HMD
        have hrv := HRV.out.below HB.out hz1
        have r0 := hrv.cell (k := 0) rfl
        have r1 := hrv.cell (k := 1) rfl
        have r2 := hrv.cell (k := 2) rfl
        have q0 := hrv.frozen 0
        have q1 := hrv.frozen 1
        have q2 := hrv.frozen 2
        have HRW := Lib.hid hrv; clear hrv
        go_wp2_with fail
        have hs3 : ∀ v, v ∈ [Value.slice none 0 0, .slice none 0 0, .slice none 0 0] → ∃ a n c, v = .slice a n c := fun v hv => ⟨none, 0, 0, by simpa using hv⟩
        have hr1 := HR.out.apartV HRW.out hs3
        have hr3 := HO.out.apartV HRW.out hs3
        have hMf := ((HMD.out.under (p := ⟨w.heap.size + 1, 0, none⟩) hz1 (.slice a1 rn rn)).under (p := ⟨w.heap.size + 1, 1, none⟩) hz1 (.slice (some ⟨Bo, 0, none⟩) i i)).under (p := ⟨w.heap.size + 1, 2, none⟩) hz1 (.slice a3 i i)
        refine bodyPost_ret (v := .tuple #[.agg #[.slice a1 rn rn, .slice (some ⟨Bo, 0, none⟩) i i, .slice a3 i i], .int .i64 0]) (by simp [results, Tryz.results155, go_sem, r0, r1, r2]) rfl ⟨a1, _, a3, rfl, ⟨((HR.out.far hr1 _).far hr1 _).far hr1 _, hMf.rows HWL.out (by omega), ((HO.out.far hr3 _).far hr3 _).far hr3 _⟩, ?_⟩
        exact (((HBW1.out.trans (HB.out.mono HBW1.out.size)).setCell (by simp) _).setCell (by simp) _).setCell (by simp) _
end Go.Proofs.YtkddkkcfpnndlaaGreatDoor

namespace Go.Proofs.YtkddkkcfpnndlaaGreatDoor
open Go.RowKit Sale

/-- the order as numbers of no sign; who has what -/
def ordN (m : Mkt) : List Nat := m.ord.map Int.toNat
def hasM (m : Mkt) : List Int := firstOf (gainsM m) m.res.length (ordN m)
theorem hasM_length (m : Mkt) : (hasM m).length = m.bids.length := by unfold hasM; rw [firstOf_length, gainsM_length]
theorem MOk.ordN {m : Mkt} (h : MOk m) : m.ord = (ordN m).map (fun k : Nat => (k : Int)) ∧ (ordN m).Perm (List.range m.bids.length) := by
  obtain ⟨on, e, hp⟩ := h.order
  have : Go.Proofs.YtkddkkcfpnndlaaGreatDoor.ordN m = on := by
    unfold Go.Proofs.YtkddkkcfpnndlaaGreatDoor.ordN
    rw [e, List.map_map]
    conv => rhs; rw [← List.map_id on]
    exact List.map_congr_left fun x _ => by simp
  rw [this]
  exact ⟨e, hp⟩
theorem MOk.first {m : Mkt} (h : MOk m) : IsFirst (gi (gainsM m)) m.res.length (Go.Proofs.YtkddkkcfpnndlaaGreatDoor.ordN m) (slotOf (hasM m)) :=
  first_is (by rw [gainsM_length]; exact h.ordN.2)
theorem MOk.fits {m : Mkt} (h : MOk m) : Fits (gi (gainsM m)) m.res.length (List.range m.bids.length) (fun _ => true) (slotOf (hasM m)) := h.first.fits.perm h.ordN.2
theorem MOk.best {m : Mkt} (h : MOk m) : total (gi (gainsM m)) (slotOf (hasM m)) (List.range m.bids.length) = opt (gi (gainsM m)) m.res.length (List.range m.bids.length) (fun _ => true) := by
  rw [← opt_perm h.first.nodup h.ordN.2, ← h.first.best, total_perm h.ordN.2]
theorem hasM_ge (m : Mkt) : ∀ x, x ∈ hasM m → -1 ≤ x := firstOf_ge _ _ _
/-- an entry: none, or an item that is there -/
theorem MOk.item {m : Mkt} (h : MOk m) {i : Nat} {x : Int} (hx : (hasM m)[i]? = some x) (hne : x ≠ -1) : ∃ k : Nat, x = (k : Int) ∧ k < m.res.length ∧ slotOf (hasM m) i = some k ∧ 0 ≤ gi (gainsM m) i k := by
  have hi : i < m.bids.length := by rw [← hasM_length]; exact (List.getElem?_eq_some_iff.1 hx).1
  have h1 := hasM_ge m x (List.mem_of_getElem? hx)
  have hs : slotOf (hasM m) i = some x.toNat := by rw [slot_of hx, if_neg hne]
  have h2 := h.fits.some i (List.mem_range.2 hi) _ hs
  exact ⟨x.toNat, by omega, h2.1, hs, h2.2.2⟩

theorem FirstM {m : Mkt} (h : MOk m) (ga oa : Option Addr) (gn gc on oc : Nat) (w : World) (hg : Rows w ga gn gc (gainsM m)) (ho : Ints w oa on oc m.ord) :
    Calls Tryz.prog 11 #[.slice ga gn gc, .int .i64 (m.res.length : Nat), .slice oa on oc] w (RetList 0 (hasM m) w) := by
  have h1 := h.ordN.1
  have h2 := h.ord
  rw [h1] at ho h2
  exact First_yes ga oa gn gc on oc (gainsM m) m.res.length (ordN m) w hg ho h.wcheck (by rw [gainsM_length]; exact h2)

/-- a book's cells -/
def bookV (ra ba oa ga ha : Option Addr) (rn rc bn bc on oc gc hc : Nat) : List Value := [.slice ra rn rc, .slice ba bn bc, .slice oa on oc, .slice ga bn gc, .slice ha bn hc]
structure BookAt (w : World) (Bk : Nat) (ra ba oa ga ha : Option Addr) (rn rc bn bc on oc gc hc : Nat) (m : Mkt) : Prop where
  row : VRow w Bk 199 (bookV ra ba oa ga ha rn rc bn bc on oc gc hc)
  mkt : MktAt w ra ba oa rn rc bn bc on oc m
  gains : Rows w ga bn gc (gainsM m)
  has : Ints w ha bn hc (hasM m)
theorem Rows.step {w w' : World} {a : Option Addr} {n c : Nat} {xss : List (List Int)} (h : Rows w a n c xss) (hb : Below w.heap.size w w') : Rows w' a n c xss := h.below hb (Nat.le_refl _)
theorem BookAt.step {w w' : World} {Bk : Nat} {ra ba oa ga ha : Option Addr} {rn rc bn bc on oc gc hc : Nat} {m : Mkt} (h : BookAt w Bk ra ba oa ga ha rn rc bn bc on oc gc hc m) (hb : Below w.heap.size w w') : BookAt w' Bk ra ba oa ga ha rn rc bn bc on oc gc hc m :=
  ⟨h.row.step hb, h.mkt.below hb (Nat.le_refl _), h.gains.step hb, h.has.step hb⟩

set_option maxRecDepth 100000 in
set_option maxHeartbeats 2000000 in
theorem newBook_any (ra ba oa : Option Addr) (rn rc bn bc on oc : Nat) (m : Mkt) (w : World) (hm : MktAt w ra ba oa rn rc bn bc on oc m) (hc : mcheck m = true) :
    Calls Tryz.prog 101 #[.agg #[.slice ra rn rc, .slice ba bn bc, .slice oa on oc]] w fun e w' => ∃ Bk ga ha hc, e = .returned (.pointer (some ⟨Bk, 0, none⟩)) ∧ BookAt w' Bk ra ba oa ga ha rn rc bn bc on oc bn hc m ∧ Below w.heap.size w w' := by
  have hok := mcheck_ok hc
  have hrl := hm.res.len
  have HOK := Lib.hid hok; clear hok
  have HRL := Lib.hid hrl; clear hrl
  have hb0 : Below w.heap.size w ((w.alloc (.cells #[.slice ra rn rc, .slice ba bn bc, .slice oa on oc] 57)).alloc (.cells #[.slice ra rn rc, .slice ba bn bc, .slice oa on oc, .slice none 0 0, .slice none 0 0] 199)) := ((Below.refl _ w).alloc (Nat.le_refl _) _).alloc (by simp) _
  have HM := Lib.hid hm; clear hm
  have HG := Lib.hid (Gains_made ra ba oa rn rc bn bc on oc m _ (HM.out.below hb0 (Nat.le_refl _)) hc)
  have HB0 := Lib.hid hb0; clear hb0
  go_enter Tryz.func101, Tryz.ntmps101
  go_wp2_with fail
  refine HG.out.mono ?_
  rintro e w1 ⟨gb, vals, rfl, hg1, hb1⟩
  have hV1 : VRow w1 (w.heap.size + 1) 199 [.slice ra rn rc, .slice ba bn bc, .slice oa on oc, .slice none 0 0, .slice none 0 0] := by
    have h := VRow.new (w.alloc (.cells #[.slice ra rn rc, .slice ba bn bc, .slice oa on oc] 57)) 199 [.slice ra rn rc, .slice ba bn bc, .slice oa on oc, .slice none 0 0, .slice none 0 0]
    rw [show (w.alloc (.cells #[.slice ra rn rc, .slice ba bn bc, .slice oa on oc] 57)).heap.size = w.heap.size + 1 by simp] at h
    exact VRow.step h hb1
  have hM1 : VRow w1 w.heap.size 57 [.slice ra rn rc, .slice ba bn bc, .slice oa on oc] := VRow.step ((VRow.new w _ _).alloc _) hb1
  have HBW1 := Lib.hid (HB0.out.trans (hb1.mono (by simp; omega)))
  have hz1 := hV1.lt
  have c3 := hV1.cell (k := 3) rfl
  have f3 := hV1.frozen 3
  have m0 := hM1.cell (k := 0) rfl
  have m2 := hM1.cell (k := 2) rfl
  have hV2 := hV1.set 3 (.slice (some ⟨gb, 0, none⟩) bn bn)
  have hM2 := hM1
  have hne : w.heap.size ≠ w.heap.size + 1 := by omega
  have m0' : (w1.setCell ⟨w.heap.size + 1, 3, none⟩ (.slice (some ⟨gb, 0, none⟩) bn bn)).cell? ⟨w.heap.size, 0, none⟩ = some (.slice ra rn rc) := by rw [World.cell?_setCell_far _ _ _ _ (by simp)]; exact m0
  have m2' : (w1.setCell ⟨w.heap.size + 1, 3, none⟩ (.slice (some ⟨gb, 0, none⟩) bn bn)).cell? ⟨w.heap.size, 2, none⟩ = some (.slice oa on oc) := by rw [World.cell?_setCell_far _ _ _ _ (by simp)]; exact m2
  have c3' := hV2.cell (k := 3) rfl
  have hs3 : ∀ v, v ∈ [Value.slice ra rn rc, .slice ba bn bc, .slice oa on oc, .slice none 0 0, .slice none 0 0] → ∃ a n c, v = .slice a n c := fun v hv => by
    simp at hv
    rcases hv with rfl | rfl | rfl | rfl <;> exact ⟨_, _, _, rfl⟩
  have HV2 := Lib.hid hV2; clear hV2
  have HG1 := Lib.hid hg1; clear hg1
  have HHV := Lib.hid hV1; clear hV1
  have HHM := Lib.hid hM1; clear hM1 hM2 hb1 HG
  have hbl := HM.out.bids.len
  have HBL := Lib.hid hbl; clear hbl
  have hbig := HM.out.bids.big
  go_upto_region 3 with fail
  obtain ⟨w2, hw2⟩ : ∃ w2, w2 = w1.setCell ⟨w.heap.size + 1, 3, none⟩ (.slice (some ⟨gb, 0, none⟩) bn bn) := ⟨_, rfl⟩
  rw [← hw2] at m0' m2' c3' HV2 ⊢
  have hg2 := HG1.out.under (p := ⟨w.heap.size + 1, 3, none⟩) (by simp) (.slice (some ⟨gb, 0, none⟩) bn bn)
  rw [← hw2] at hg2
  have hb2 := HBW1.out.setCell (p := ⟨w.heap.size + 1, 3, none⟩) (by simp) (.slice (some ⟨gb, 0, none⟩) bn bn)
  rw [← hw2] at hb2
  have hsz2 : w2.heap.size = w1.heap.size := by rw [hw2]; simp
  have hr2 := hg2.rows (by rw [gainsM_length]; exact HBL.out) hbig
  have hfirst := fun W (hW : Below w2.heap.size w2 W) => FirstM HOK.out (some ⟨gb, 0, none⟩) oa bn bn on oc W (hr2.step hW) (HM.out.ord.below (hb2.trans (hW.mono hb2.size)) (Nat.le_refl _))
  rw [HRL.out] at hfirst
  have f4 := HV2.out.frozen 4
  have c4 := HV2.out.cell (k := 4) rfl
  have HG2 := Lib.hid hg2; clear hg2
  have HB2 := Lib.hid hb2; clear hb2
  have HF := Lib.hid hfirst; clear hfirst
  have HSZ := Lib.hid hsz2; clear hsz2
  clear hw2 m0 m2 c3 f3 hr2
  go_region_held3 (fun w' => w'.cell? ⟨w.heap.size, 0, none⟩ = some (.slice ra rn rc) ∧ w'.cell? ⟨w.heap.size, 2, none⟩ = some (.slice oa on oc) ∧ w'.cell? ⟨w.heap.size + 1, 3, none⟩ = some (.slice (some ⟨gb, 0, none⟩) bn bn))
    (first | (go_split_ands; refine ⟨?_, ?_, ?_⟩ <;> first | assumption | go_keep) | go_keep)
    ((go_at_call 11; refine (HF.out _ (Below.refl _ _).drew).mono ?_; rintro e w3 ⟨a3, n3, cap3, rfl, hi3, hb3⟩; have q0 := cell_step (v := .slice ra rn rc) (b := w.heap.size) (o := 0) hb3 m0'; have q1 := cell_step (v := .slice oa on oc) (b := w.heap.size) (o := 2) hb3 m2'; have q2 := cell_step (v := .slice (some ⟨gb, 0, none⟩) bn bn) (b := w.heap.size + 1) (o := 3) hb3 c3'; have q3 := cell_step (v := .slice none 0 0) (b := w.heap.size + 1) (o := 4) hb3 c4; have q4 : w3.frozen? ⟨w.heap.size + 1, 4, none⟩ = false := (hb3.frozen (p := ⟨w.heap.size + 1, 4, none⟩) (by simp; exact block_lt_of_cell c4)).trans f4; have q5 := ((HV2.out.step ((Below.refl w2.heap.size w2).drew.trans hb3)).set 4 (.slice a3 n3 cap3)).cell (k := 3) rfl))
  go_wp2_with fail
  go_ret
  have hn3 : n3 = bn := by rw [← hi3.len, hasM_length]; exact HBL.out
  subst hn3
  have hB3 : Below w.heap.size w w3 := HB2.out.trans ((Below.refl w2.heap.size w2).drew.trans hb3 |>.mono HB2.out.size)
  have hst : Below w2.heap.size w2 w3 := (Below.refl w2.heap.size w2).drew.trans hb3
  have hV3 := (HV2.out.step hst).set 4 (.slice a3 n3 cap3)
  have hG3 := ((HG2.out.below hst (by rw [HSZ.out]; exact Nat.le_refl _)).under (p := ⟨w.heap.size + 1, 4, none⟩) (by simp) (.slice a3 n3 cap3)).rows (by rw [gainsM_length]; exact HBL.out) hbig
  have hap := hi3.apartV (HV2.out.step hst) (fun v hv => by
    simp at hv
    rcases hv with rfl | rfl | rfl | rfl | rfl <;> exact ⟨_, _, _, rfl⟩)
  refine ⟨w.heap.size + 1, _, a3, cap3, rfl, ⟨hV3, ?_, hG3, hi3.far hap _⟩, hB3.setCell (by simp) _⟩
  exact HM.out.below (hB3.setCell (by simp) _) (Nat.le_refl _)
end Go.Proofs.YtkddkkcfpnndlaaGreatDoor

namespace Go.Proofs.YtkddkkcfpnndlaaGreatDoor
open Go.RowKit Sale

/-- what the first k have, but for one -/
def oTo (m : Mkt) (i0 k : Nat) : Int := total (gi (gainsM m)) (upd (slotOf (hasM m)) i0 none) (List.range k)
theorem oTo_succ (m : Mkt) (i0 k : Nat) : oTo m i0 (k + 1) = oTo m i0 k + gain (gi (gainsM m)) (upd (slotOf (hasM m)) i0 none) k := by
  unfold oTo
  rw [List.range_succ, total_append]
  simp [total]
theorem oTo_same (m : Mkt) (k : Nat) : oTo m k (k + 1) = oTo m k k := by
  rw [oTo_succ]; unfold gain; rw [upd_same]; simp
theorem oTo_none {m : Mkt} {i0 k : Nat} (h : (hasM m)[k]? = some (-1)) : oTo m i0 (k + 1) = oTo m i0 k := by
  rw [oTo_succ]
  have : gain (gi (gainsM m)) (upd (slotOf (hasM m)) i0 none) k = 0 := by
    unfold gain
    by_cases e : k = i0
    · subst e; rw [upd_same]
    · rw [upd_other e, slot_of h, if_pos rfl]
  omega
theorem oTo_some {m : Mkt} {i0 k j : Nat} (h : slotOf (hasM m) k = some j) (hne : k ≠ i0) : oTo m i0 (k + 1) = oTo m i0 k + gi (gainsM m) k j := by
  rw [oTo_succ]
  unfold gain
  rw [upd_other hne, h]
theorem oTo_bd {m : Mkt} (hm : MOk m) (i0 : Nat) : ∀ k : Nat, -1000000 * (k : Int) ≤ oTo m i0 k ∧ oTo m i0 k ≤ 1000000 * (k : Int)
  | 0 => by simp [oTo, total]
  | k + 1 => by
    have ih := oTo_bd hm i0 k
    rw [oTo_succ]
    have : -1000000 ≤ gain (gi (gainsM m)) (upd (slotOf (hasM m)) i0 none) k ∧ gain (gi (gainsM m)) (upd (slotOf (hasM m)) i0 none) k ≤ 1000000 := by
      unfold gain
      cases upd (slotOf (hasM m)) i0 none k with
      | none => simp
      | some j => exact hm.bd k j
    push_cast
    omega

set_option maxRecDepth 100000 in
set_option maxHeartbeats 2000000 in
theorem others_any (Bk i0 : Nat) (ra ba oa ga ha : Option Addr) (rn rc bn bc on oc gc hc : Nat) (m : Mkt) (w : World) (hb : BookAt w Bk ra ba oa ga ha rn rc bn bc on oc gc hc m) (hok : MOk m) :
    Calls Tryz.prog 156 #[.pointer (some ⟨Bk, 0, none⟩), .int .i64 i0] w fun e w' => e = .returned (.int .i64 (oTo m i0 bn)) ∧ w = w' := by
  have hbl := hb.mkt.bids.len
  have hbig := hb.mkt.bids.big
  have hm8 := hok.m8
  rw [hbl] at hm8
  have c2 := hb.row.cell (k := 4) rfl
  have c1 := hb.row.cell (k := 3) rfl
  have HB := Lib.hid hb; clear hb
  have HOK := Lib.hid hok; clear hok
  have HBL := Lib.hid hbl; clear hbl
  go_enter Tryz.func156, Tryz.ntmps156
  go_wp2_with fail
  go_loopg [4, 12] bn (fun g' s4 s12 wr => ∃ k : Nat, k + g' = bn ∧ s12 = .int .i64 k ∧ s4 = .int .i64 (oTo m i0 k) ∧ wr = w)
  case atStart => exact ⟨0, by omega, rfl, rfl, rfl⟩
  case round =>
    obtain ⟨k, hk, rfl, rfl, rfl⟩ := hrel
    have HK := Lib.hid hk; clear hk
    by_cases hlt : k < bn
    · obtain ⟨x, hx, _⟩ := HB.out.has.get hlt
      obtain ⟨hb', ho', rfl⟩ := HB.out.has.addr (by omega)
      have cx := HB.out.has.cell hb' ho' rfl k x hx
      have hbd := oTo_bd HOK.out i0 k
      have hge := hasM_ge m x (List.mem_of_getElem? hx)
      by_cases hne : x = -1
      · have e1 : decide (0 ≤ x) = false := by simp; omega
        have hs := oTo_none (i0 := i0) (by rw [← hne]; exact hx)
        have HS := Lib.hid hs; clear hs
        have HX := Lib.hid hx; clear hx
        have HNE := Lib.hid hne; clear hne
        obtain ⟨t, ht⟩ : ∃ t, t = oTo m i0 k := ⟨_, rfl⟩
        rw [← ht] at hbd ⊢
        have HT := Lib.hid ht; clear ht
        by_cases hki : k = i0
        · have f1 : ((k : Int) != (i0 : Int)) = false := by simp [hki]
          have HKI := Lib.hid hki; clear hki
          go_wp2_with fail
          go_roundg (gk - 1)
          case measure => have := HK.out; omega
          case rel => exact ⟨k + 1, by have := HK.out; omega, by go_num, by rw [HS.out, HT.out], rfl⟩
        · have f1 : ((k : Int) != (i0 : Int)) = true := by simp; omega
          have HKI := Lib.hid hki; clear hki
          go_wp2_with fail
          go_roundg (gk - 1)
          case measure => have := HK.out; omega
          case rel => exact ⟨k + 1, by have := HK.out; omega, by go_num, by rw [HS.out, HT.out], rfl⟩
      · obtain ⟨j, rfl, hjn, hsl, _⟩ := HOK.out.item hx hne
        have e1 : decide (0 ≤ (j : Int)) = true := by simp
        obtain ⟨row, hrow⟩ := HB.out.gains.get hlt
        obtain ⟨gb, go', rfl⟩ := HB.out.gains.addr (by omega)
        obtain ⟨la, ln, lc, hcl, hli⟩ := HB.out.gains.cell gb go' rfl k row hrow
        have hln : ln = m.res.length := by have h1 := HOK.out.rows.1 row (List.mem_of_getElem? hrow); have := hli.len; omega
        have hjl : j < ln := by omega
        obtain ⟨y, hy, _⟩ := hli.get hjl
        obtain ⟨lb, lo, rfl⟩ := hli.addr (by omega)
        have cy := hli.cell lb lo rfl j y hy
        have hgi : gi (gainsM m) k j = y := gi_at hrow hy
        have hyb := HOK.out.bd k j
        rw [hgi] at hyb
        have i2 : (j : Int) < (ln : Int) := by omega
        have i1 : (k : Int) < (bn : Int) := by omega
        have HGI := Lib.hid hgi; clear hgi
        have HSL := Lib.hid hsl; clear hsl
        have HROW := Lib.hid hrow; clear hrow
        have HLI := Lib.hid hli; clear hli
        have HX := Lib.hid hx; clear hx
        have HY := Lib.hid hy; clear hy
        have HLN := Lib.hid hln; clear hln
        obtain ⟨hyb1, hyb2⟩ := hyb
        obtain ⟨t, ht⟩ : ∃ t, t = oTo m i0 k := ⟨_, rfl⟩
        rw [← ht] at hbd ⊢
        have HT := Lib.hid ht; clear ht
        obtain ⟨hbd1, hbd2⟩ := hbd
        by_cases hki : k = i0
        · have f1 : ((k : Int) != (i0 : Int)) = false := by simp [hki]
          have HKI := Lib.hid hki; clear hki
          go_wp2_with fail
          go_roundg (gk - 1)
          case measure => have := HK.out; omega
          case rel => exact ⟨k + 1, by have := HK.out; omega, by go_num, by rw [← HKI.out, oTo_same, HT.out, HKI.out], rfl⟩
        · have f1 : ((k : Int) != (i0 : Int)) = true := by simp; omega
          have HKI := Lib.hid hki; clear hki
          have e3 : IntKind.i64.wrap (t + y) = t + y := IntWalk.i64_in _ (by omega)
          go_wp2_with fail
          go_roundg (gk - 1)
          case measure => have := HK.out; omega
          case rel => exact ⟨k + 1, by have := HK.out; omega, by go_num, by rw [oTo_some HSL.out HKI.out, HGI.out, HT.out], rfl⟩
    · obtain rfl : k = bn := by have := HK.out; omega
      go_wp2_with fail
      go_ret
      exact ⟨rfl, rfl⟩

/-- what others lose by one -/
def lostM (m : Mkt) (i0 : Nat) : Int := bestVal (gainsM (withoutM m i0)) m.res.length - oTo m i0 m.bids.length
theorem bestVal_bd {m : Mkt} (hm : MOk m) : 0 ≤ bestVal (gainsM m) m.res.length ∧ bestVal (gainsM m) m.res.length ≤ 8000000 := by
  unfold bestVal
  refine ⟨opt_nonneg _ _ _ _, ?_⟩
  have h := opt_le (g := gi (gainsM m)) (n := m.res.length) (B := 1000000) (by omega) (List.range (gainsM m).length) (fun _ => true) fun l _ r _ => (hm.bd l r).2
  have := hm.m8
  rw [List.length_range, gainsM_length] at h
  rw [gainsM_length]
  omega
set_option maxRecDepth 100000 in
set_option maxHeartbeats 2000000 in
theorem lost_any (Bk i0 : Nat) (ra ba oa ga ha : Option Addr) (rn rc bn bc on oc gc hc : Nat) (m : Mkt) (w : World) (hb : BookAt w Bk ra ba oa ga ha rn rc bn bc on oc gc hc m) (hc' : mcheck m = true) (hi : i0 < bn) :
    Calls Tryz.prog 102 #[.pointer (some ⟨Bk, 0, none⟩), .int .i64 i0] w fun e w' => e = .returned (.int .i64 (lostM m i0)) ∧ Below w.heap.size w w' := by
  have hok := mcheck_ok hc'
  have hbl := hb.mkt.bids.len
  have hrl := hb.mkt.res.len
  have c0 := hb.row.cell (k := 0) rfl
  have c1 := hb.row.cell (k := 1) rfl
  have c2 := hb.row.cell (k := 2) rfl
  have hBk := hb.row.lt
  have HB := Lib.hid hb; clear hb
  have HOK := Lib.hid hok; clear hok
  have HBL := Lib.hid hbl; clear hbl
  have HRL := Lib.hid hrl; clear hrl
  have HC := Lib.hid hc'; clear hc'
  go_enter Tryz.func102, Tryz.ntmps102
  go_wp2_with fail
  refine (Without_yes ra ba oa rn rc bn bc on oc i0 m w HB.out.mkt HC.out hi).mono ?_
  rintro e w1 ⟨a1, a2, a3, rfl, hm1, hb1⟩
  clear c0 c1 c2
  have HM1 := Lib.hid hm1; clear hm1
  have HB1 := Lib.hid hb1; clear hb1
  have hmw := HOK.out.without i0
  have HMW := Lib.hid hmw; clear hmw
  have hb2 : Below w1.heap.size w1 (w1.alloc (.cells #[.slice a1 rn rn, .slice a2 bn bn, .slice a3 on on] 57)) := (Below.refl _ _).alloc (Nat.le_refl _) _
  have HG := Lib.hid (Gains_yes a1 a2 a3 rn rn bn bn on on (withoutM m i0) _ (HM1.out.below hb2 (Nat.le_refl _)) (mcheck_of HMW.out))
  have HB2 := Lib.hid (HB1.out.trans (hb2.mono HB1.out.size)); clear hb2
  go_wp2_with fail
  refine HG.out.mono ?_
  rintro e w3 ⟨a4, rfl, hg, hb3⟩
  have HG3 := Lib.hid hg; clear hg
  have HB3 := Lib.hid (HB2.out.trans (hb3.mono HB2.out.size)); clear hb3 HG
  have k0 := (HB.out.step HB3.out).row.cell (k := 0) rfl
  go_wp2_with fail
  refine (Best_any a4 bn bn (gainsM (withoutM m i0)) rn w3 HG3.out).mono ?_
  rw [if_pos (by have := HMW.out.wcheck; rwa [show (withoutM m i0).res.length = rn from HRL.out] at this), if_pos (by have := HMW.out.wcheck; rwa [show (withoutM m i0).res.length = rn from HRL.out] at this), Int.toNat_natCast]
  rintro e w4 ⟨rfl, hb4⟩
  have HB4 := Lib.hid (HB3.out.trans (hb4.mono HB3.out.size)); clear hb4 k0
  have hbv := bestVal_bd HMW.out
  rw [show (withoutM m i0).res.length = rn from HRL.out] at hbv
  obtain ⟨bv, hbve⟩ : ∃ bv, bv = bestVal (gainsM (withoutM m i0)) rn := ⟨_, rfl⟩
  rw [← hbve] at hbv ⊢
  have HBV := Lib.hid hbve; clear hbve
  go_wp2_with fail
  refine (others_any Bk i0 ra ba oa ga ha rn rc bn bc on oc gc hc m w4 (HB.out.step HB4.out) HOK.out).mono ?_
  rintro e w5 ⟨rfl, rfl⟩
  have hbd := oTo_bd HOK.out i0 bn
  have hm8 := HOK.out.m8
  rw [HBL.out] at hm8
  obtain ⟨t, ht⟩ : ∃ t, t = oTo m i0 bn := ⟨_, rfl⟩
  rw [← ht] at hbd ⊢
  have HT := Lib.hid ht; clear ht
  obtain ⟨b1, b2⟩ := hbd
  obtain ⟨b3, b4⟩ := hbv
  have e3 : IntKind.i64.wrap (bv - t) = bv - t := IntWalk.i64_in _ (by omega)
  go_wp2_with fail
  go_ret
  exact ⟨ret_int (by rw [HT.out, HBV.out]; unfold lostM; rw [HRL.out, HBL.out]), HB4.out⟩
end Go.Proofs.YtkddkkcfpnndlaaGreatDoor

namespace Go.Proofs.YtkddkkcfpnndlaaGreatDoor
open Go.RowKit Sale

theorem lostM_bd {m : Mkt} (hm : MOk m) (i0 : Nat) : -8000000 ≤ lostM m i0 ∧ lostM m i0 ≤ 16000000 := by
  unfold lostM
  have h1 := oTo_bd hm i0 m.bids.length
  have h2 := bestVal_bd (hm.without i0)
  have h3 := hm.m8
  rw [show (withoutM m i0).res.length = m.res.length from rfl] at h2
  omega

theorem Lost_no (ra ba oa : Option Addr) (rn rc bn bc on oc : Nat) (m : Mkt) (i0 : Int) (w : World) (hm : MktAt w ra ba oa rn rc bn bc on oc m) (h : mcheck m = false ∨ i0 < 0 ∨ (bn : Int) ≤ i0) :
    Calls Tryz.prog 26 #[.agg #[.slice ra rn rc, .slice ba bn bc, .slice oa on oc], .int .i64 i0] w fun e w' => e = .returned (.tuple #[.int .i64 0, .int .i64 1]) ∧ Below w.heap.size w w' := by
  have HB0 := Lib.hid (mw_start w ra ba oa rn rc bn bc on oc)
  have hm1 := hm.below (mw_kept HB0.out).2.2.2.2 (Nat.le_refl _)
  have HK := Lib.hid (mcheck_any ra ba oa rn rc bn bc on oc m (mw w ra ba oa rn rc bn bc on oc) hm1.res hm1.bids hm1.ord)
  clear hm1 hm
  cases hc : mcheck m with
  | false =>
    rw [hc] at HK
    clear hc h
    go_enter Tryz.func26, Tryz.ntmps26
    go_wp2_with fail
    refine HK.out.mono ?_
    rintro e w1 ⟨rfl, hb⟩
    have HB1 := Lib.hid (mw_below' HB0.out hb); clear hb HK
    go_wp2_with fail
    go_ret2
    exact ⟨rfl, (mw_kept HB1.out).2.2.2.2⟩
  | true =>
    rw [hc] at HK h
    clear hc
    have h := h.resolve_left (by decide)
    by_cases hneg : i0 < 0
    · have e1 : decide (i0 < 0) = true := by simpa using hneg
      go_enter Tryz.func26, Tryz.ntmps26
      go_wp2_with fail
      refine HK.out.mono ?_
      rintro e w1 ⟨rfl, hb⟩
      have HB1 := Lib.hid (mw_below' HB0.out hb); clear hb HK
      go_wp2_with fail
      go_ret2
      exact ⟨rfl, (mw_kept HB1.out).2.2.2.2⟩
    · have e1 : decide (i0 < 0) = false := by simpa using hneg
      have e2 : decide ((bn : Int) ≤ i0) = true := by
        rw [decide_eq_true_eq]; exact h.resolve_left hneg
      have H := Lib.hid h; clear h
      have HN := Lib.hid hneg; clear hneg
      go_enter Tryz.func26, Tryz.ntmps26
      go_wp2_with fail
      refine HK.out.mono ?_
      rintro e w1 ⟨rfl, hb⟩
      have HB1 := Lib.hid (mw_below' HB0.out hb); clear hb HK
      obtain ⟨c0, c1, _, hs1, _⟩ := mw_kept HB1.out
      go_wp2_with fail
      go_ret2
      exact ⟨rfl, (mw_kept HB1.out).2.2.2.2⟩

set_option maxHeartbeats 1000000 in
theorem Lost_yes (ra ba oa : Option Addr) (rn rc bn bc on oc i0 : Nat) (m : Mkt) (w : World) (hm : MktAt w ra ba oa rn rc bn bc on oc m) (hc : mcheck m = true) (hi : i0 < bn) :
    Calls Tryz.prog 26 #[.agg #[.slice ra rn rc, .slice ba bn bc, .slice oa on oc], .int .i64 i0] w fun e w' => e = .returned (.tuple #[.int .i64 (lostM m i0), .int .i64 0]) ∧ Below w.heap.size w w' := by
  have HB0 := Lib.hid (mw_start w ra ba oa rn rc bn bc on oc)
  have hm1 := hm.below (mw_kept HB0.out).2.2.2.2 (Nat.le_refl _)
  have HK := Lib.hid (mcheck_any ra ba oa rn rc bn bc on oc m (mw w ra ba oa rn rc bn bc on oc) hm1.res hm1.bids hm1.ord)
  clear hm1
  have HM := Lib.hid hm; clear hm
  have HC := Lib.hid hc; clear hc
  have e1 : decide ((i0 : Int) < 0) = false := by simp
  have e2 : decide ((bn : Int) ≤ (i0 : Int)) = false := by simp; omega
  have e3 : decide (bn ≤ i0) = false := by simp; omega
  go_enter Tryz.func26, Tryz.ntmps26
  go_wp2_with fail
  refine HK.out.mono ?_
  rw [HC.out]
  rintro e w1 ⟨rfl, hb⟩
  have HB1 := Lib.hid (mw_below' HB0.out hb); clear hb HK
  obtain ⟨c0, c1, c2, hs1, hbw⟩ := mw_kept HB1.out
  have HN := Lib.hid (newBook_any ra ba oa rn rc bn bc on oc m w1 (HM.out.below hbw (Nat.le_refl _)) HC.out)
  have HBW := Lib.hid hbw; clear hbw
  go_wp2_with fail
  refine HN.out.mono ?_
  rintro e w2 ⟨Bk, ga, ha, hc, rfl, hbk, hb2⟩
  have HBK := Lib.hid hbk; clear hbk
  have HB2 := Lib.hid (HBW.out.trans (hb2.mono HBW.out.size)); clear hb2 HN c0 c1 c2
  go_wp2_with fail
  refine (lost_any Bk i0 ra ba oa ga ha rn rc bn bc on oc bn hc m w2 HBK.out HC.out hi).mono ?_
  rintro e w3 ⟨rfl, hb3⟩
  have HB3 := Lib.hid (HB2.out.trans (hb3.mono HB2.out.size)); clear hb3
  go_wp2_with fail
  go_ret2
  exact ⟨rfl, HB3.out⟩

/-- what each pays -/
def payAt (m : Mkt) (has : List Int) (i : Nat) : Int := if 0 ≤ has.getD i (-1) then m.res.getD (has.getD i (-1)).toNat 0 + lostM m i else 0
def payL (m : Mkt) (has : List Int) : List Int := tabN has.length (payAt m has)
theorem payAt_bd {m : Mkt} (hm : MOk m) (has : List Int) (i : Nat) : -16000000 ≤ payAt m has i ∧ payAt m has i ≤ 32000000 := by
  unfold payAt
  have h1 := lostM_bd hm i
  split
  · have h2 : 0 ≤ m.res.getD (has.getD i (-1)).toNat 0 ∧ m.res.getD (has.getD i (-1)).toNat 0 ≤ 1000000 := by
      rw [List.getD_eq_getElem?_getD]
      cases h : m.res[(has.getD i (-1)).toNat]? with
      | none => simp
      | some x => exact hm.res x (List.mem_of_getElem? h)
    omega
  · omega

set_option maxRecDepth 100000 in
set_option maxHeartbeats 2000000 in
theorem of_any (Bk : Nat) (ra ba oa ga ha la : Option Addr) (rn rc bn bc on oc gc hc lc : Nat) (m : Mkt) (has : List Int) (w : World) (hb : BookAt w Bk ra ba oa ga ha rn rc bn bc on oc gc hc m) (hc' : mcheck m = true)
    (hl : Ints w la bn lc has) (hit : ∀ x, x ∈ has → x < m.res.length) :
    Calls Tryz.prog 107 #[.pointer (some ⟨Bk, 0, none⟩), .slice la bn lc, .func (.func 102) #[.pointer (some ⟨Bk, 0, none⟩)] #[]] w fun e w' => ∃ g, e = .returned (.slice (some ⟨g, 0, none⟩) bn bn) ∧ Row w' g 3 (payL m has) ∧ w.heap.size ≤ g ∧ Below w.heap.size w w' := by
  have hok := mcheck_ok hc'
  have hbl := hb.mkt.bids.len
  have hrl := hb.mkt.res.len
  have hm8 := hok.m8
  rw [hbl] at hm8
  have hll := hl.len
  have HB := Lib.hid hb; clear hb
  have HOK := Lib.hid hok; clear hok
  have HBL := Lib.hid hbl; clear hbl
  have HRL := Lib.hid hrl; clear hrl
  have HC := Lib.hid hc'; clear hc'
  have HL := Lib.hid hl; clear hl
  have HLL := Lib.hid hll; clear hll
  have HIT := Lib.hid hit; clear hit
  have hmk := mkInts bn (by omega)
  go_enter Tryz.func107, Tryz.ntmps107
  go_wp2_with fail
  have hrow0 := Row.new w 3 (List.replicate bn 0)
  have HROW0 := Lib.hid hrow0; clear hrow0
  have HBA := Lib.hid (show Below w.heap.size w (w.alloc (.cells (iarr (List.replicate bn 0)) 3)) from (Below.refl _ _).alloc (Nat.le_refl _) _)
  go_loopg [15] bn (fun g' s15 wr => ∃ k : Nat, k + g' = bn ∧ s15 = .int .i64 k ∧ Row wr w.heap.size 3 (tabN bn fun j => if j < k then payAt m has j else 0) ∧ Below w.heap.size w wr)
  case atStart =>
    refine ⟨0, by omega, rfl, ?_, HBA.out⟩
    have e : tabN bn (fun j => if j < 0 then payAt m has j else 0) = List.replicate bn (0 : Int) := by
      unfold tabN; apply List.ext_getElem?; intro j; by_cases hj : j < bn <;> simp [hj]
    rw [e]
    exact HROW0.out
  case round =>
    obtain ⟨k, hk, rfl, hR, hB⟩ := hrel
    have HK := Lib.hid hk; clear hk
    by_cases hlt : k < bn
    · obtain ⟨x, hx, _⟩ := HL.out.get hlt
      obtain ⟨lb, lo, rfl⟩ := HL.out.addr (by omega)
      have cx := (HL.out.below hB (Nat.le_refl _)).cell lb lo rfl k x hx
      have hgd : has.getD k (-1) = x := by rw [List.getD_eq_getElem?_getD, hx]; rfl
      by_cases h0 : 0 ≤ x
      · have e1 : decide (0 ≤ x) = true := by simpa using h0
        obtain ⟨j, rfl⟩ := Int.eq_ofNat_of_zero_le h0
        have hj := HIT.out _ (List.mem_of_getElem? hx)
        have hjr : j < rn := by rw [← HRL.out]; omega
        have hbk := HB.out.step hB
        have c0 := hbk.row.cell (k := 0) rfl
        obtain ⟨y, hy, _⟩ := HB.out.mkt.res.get hjr
        obtain ⟨rb, ro, rfl⟩ := HB.out.mkt.res.addr (by omega)
        have cy := hbk.mkt.res.cell rb ro rfl j y hy
        have hy6 := HOK.out.res y (List.mem_of_getElem? hy)
        have hlb := lostM_bd HOK.out k
        have hco := hR.cell (k := k) (x := 0) (by rw [tabN_get _ hlt, if_neg (by omega)])
        have hfo := hR.frozen k
        have hwlt := hR.lt
        have hlost := fun W (hW : Below wr.heap.size wr W) => lost_any Bk k _ ba oa ga ha rn rc bn bc on oc gc hc m W (hbk.step hW) HC.out hlt
        have HLOST := Lib.hid hlost; clear hlost
        have hpay : payAt m has k = y + lostM m k := by
          unfold payAt
          rw [hgd, if_pos (by omega), Int.toNat_natCast, List.getD_eq_getElem?_getD, hy]; rfl
        obtain ⟨lk, hlk⟩ : ∃ lk, lk = lostM m k := ⟨_, rfl⟩
        rw [← hlk] at HLOST hlb hpay
        have HPAY := Lib.hid hpay; clear hpay
        have HLK := Lib.hid hlk; clear hlk
        have HR := Lib.hid hR; clear hR
        have HBB := Lib.hid hB; clear hB
        have HBK := Lib.hid hbk; clear hbk
        have HX := Lib.hid hx; clear hx
        have HY := Lib.hid hy; clear hy
        have HGD := Lib.hid hgd; clear hgd
        obtain ⟨hb1, hb2⟩ := hlb
        obtain ⟨hy1, hy2⟩ := hy6
        have i1 : (j : Int) < (rn : Int) := by omega
        have i0 : (k : Int) < (bn : Int) := by omega
        have e3 : IntKind.i64.wrap (y + lk) = y + lk := IntWalk.i64_in _ (by omega)
        clear hj h0
        go_wp2_with fail
        go_region_held3 (fun w' => w'.cell? ⟨Bk, 0, none⟩ = some (.slice (some ⟨rb, ro, none⟩) rn rc) ∧ w'.cell? ⟨rb, ro + j, none⟩ = some (.int .i64 y))
          (first | (go_split_ands; refine ⟨?_, ?_⟩ <;> first | assumption | go_keep) | go_keep)
          ((go_at_call 102; refine (HLOST.out _ (Below.refl _ _).drew).mono ?_; rintro e w3 ⟨rfl, hb3⟩; have q0 := cell_step (v := .slice (some ⟨rb, ro, none⟩) rn rc) (b := Bk) (o := 0) hb3 c0; have q1 := cell_step (v := .int .i64 y) (b := rb) (o := ro + j) hb3 cy; have q3 := cell_step (v := .int .i64 0) (b := w.heap.size) (o := k) hb3 hco; have q4 : w3.frozen? ⟨w.heap.size, k, none⟩ = false := (hb3.frozen (p := ⟨w.heap.size, k, none⟩) hwlt).trans hfo; have q5 := (Row.below HR.out ((Below.refl wr.heap.size wr).drew.trans hb3) hwlt); have q6 : (w3.setCell ⟨w.heap.size, k, none⟩ (.int .i64 (y + lk))).cell? ⟨Bk, 0, none⟩ = some (.slice (some ⟨rb, ro, none⟩) rn rc) := (((VRow.step HBK.out.row ((Below.refl wr.heap.size wr).drew.trans hb3))).cell (k := 0) rfl ▸ World.cell?_setCell_far _ _ _ _ (by have := HB.out.row.lt; simp; omega)); have q7 : (w3.setCell ⟨w.heap.size, k, none⟩ (.int .i64 (y + lk))).cell? ⟨rb, ro + j, none⟩ = some (.int .i64 y) := (World.cell?_setCell_far _ _ _ _ (by have := block_lt_of_cell (HB.out.mkt.res.cell rb ro rfl j y HY.out); simp at this ⊢; omega)).trans q1))
        go_wp2_with fail
        go_roundg (gk - 1)
        case measure => have := HK.out; omega
        case rel =>
          refine ⟨k + 1, by have := HK.out; omega, by go_num, ?_, (HBB.out.trans ((Below.refl wr.heap.size wr).drew.trans hb3 |>.mono HBB.out.size)).setCell (by simp) _⟩
          have h2 := q5.set k (y + lk)
          rw [tabN_set] at h2
          rw [show (tabN bn fun j => if j < k + 1 then payAt m has j else 0) = tabN bn (fun j => if j = k then y + lk else if j < k then payAt m has j else 0) from tabN_congr fun j hj => by
            by_cases e : j = k
            · subst e; rw [if_pos (by omega), if_pos rfl, HPAY.out]
            · rw [if_neg e]
              by_cases h : j < k
              · rw [if_pos (by omega), if_pos h]
              · rw [if_neg (by omega), if_neg h]]
          exact h2
      · have e1 : decide (0 ≤ x) = false := by simpa using h0
        have hpay : payAt m has k = 0 := by unfold payAt; rw [hgd, if_neg h0]
        have HPAY := Lib.hid hpay; clear hpay
        have HR := Lib.hid hR; clear hR
        have HBB := Lib.hid hB; clear hB
        have HX := Lib.hid hx; clear hx
        have HGD := Lib.hid hgd; clear hgd
        have H0 := Lib.hid h0; clear h0
        go_wp2_with fail
        go_roundg (gk - 1)
        case measure => have := HK.out; omega
        case rel =>
          refine ⟨k + 1, by have := HK.out; omega, by go_num, ?_, HBB.out⟩
          rw [show (tabN bn fun j => if j < k + 1 then payAt m has j else 0) = tabN bn (fun j => if j < k then payAt m has j else 0) from tabN_congr fun j hj => by
            by_cases e : j = k
            · subst e; rw [if_pos (by omega), if_neg (by omega), HPAY.out]
            · by_cases h : j < k
              · rw [if_pos (by omega), if_pos h]
              · rw [if_neg (by omega), if_neg h]]
          exact HR.out
    · obtain rfl : k = bn := by have := HK.out; omega
      have HR := Lib.hid hR; clear hR
      have HBB := Lib.hid hB; clear hB
      go_wp2_with fail
      go_ret
      refine ⟨_, rfl, ?_, Nat.le_refl _, HBB.out⟩
      have := HR.out
      rw [show tabN k (fun j => if j < k then payAt m has j else 0) = payL m has from by
        unfold payL; rw [HLL.out]; exact tabN_congr fun j hj => by rw [if_pos hj]] at this
      exact this

end Go.Proofs.YtkddkkcfpnndlaaGreatDoor

namespace Go.Proofs.YtkddkkcfpnndlaaGreatDoor
open Go.RowKit Sale

/-- may items be had so? -/
def okMay (m : Mkt) (has : List Int) (i : Nat) (x : Int) : Bool := decide (x = -1) || (decide (0 ≤ x) && decide (x < m.res.length) && decide (0 ≤ gi (gainsM m) i x.toNat) && !(has.take i).contains x)
def mayTo (m : Mkt) (has : List Int) (k : Nat) : Bool := (List.range k).all fun i => okMay m has i (has.getD i (-1))
def mayB (m : Mkt) (has : List Int) : Bool := decide (has.length = m.bids.length) && mayTo m has has.length
theorem mayTo_succ {m : Mkt} {has : List Int} {k : Nat} {x : Int} (hx : has[k]? = some x) : mayTo m has (k + 1) = (mayTo m has k && okMay m has k x) := by
  simp [mayTo, List.range_succ, List.all_append, hx]
theorem mayTo_no {m : Mkt} {has : List Int} {k n : Nat} {x : Int} (hx : has[k]? = some x) (hk : k < n) (ho : okMay m has k x = false) : mayTo m has n = false := by
  unfold mayTo
  rw [List.all_eq_false]
  exact ⟨k, List.mem_range.2 hk, by rw [List.getD_eq_getElem?_getD, hx, Option.getD_some, ho]; simp⟩
theorem Ints.take {w : World} {a : Option Addr} {n c : Nat} {xs : List Int} (h : Ints w a n c xs) {k : Nat} (hk : k ≤ n) : Ints w a k c (xs.take k) :=
  ⟨by rw [List.length_take, h.len]; omega, Nat.le_trans hk h.cap, by have := h.big; omega, fun h0 => h.addr (by omega), fun b o e j x hx => by
    have hj : j < k := by have := (List.getElem?_eq_some_iff.1 hx).1; simp at this; omega
    rw [List.getElem?_take_of_lt hj] at hx
    exact h.cell b o e j x hx, fun x hx => h.bd x (List.mem_of_mem_take hx), fun e => by have := h.nil e; omega⟩

set_option maxRecDepth 100000 in
set_option maxHeartbeats 4000000 in
theorem may_any (Bk : Nat) (ra ba oa ga ha la : Option Addr) (rn rc bn bc on oc gc hc ln lc : Nat) (m : Mkt) (has : List Int) (w : World) (hb : BookAt w Bk ra ba oa ga ha rn rc bn bc on oc gc hc m) (hok : MOk m)
    (hl : Ints w la ln lc has) :
    Calls Tryz.prog 106 #[.pointer (some ⟨Bk, 0, none⟩), .slice la ln lc] w fun e w' => e = .returned (.bool (mayB m has)) ∧ w = w' := by
  have hbl := hb.mkt.bids.len
  have hrl := hb.mkt.res.len
  have hm8 := hok.m8
  rw [hbl] at hm8
  have hll := hl.len
  have hlb := hl.big
  have c0 := hb.row.cell (k := 0) rfl
  have c1 := hb.row.cell (k := 1) rfl
  have c3 := hb.row.cell (k := 3) rfl
  have HB := Lib.hid hb; clear hb
  have HOK := Lib.hid hok; clear hok
  have HBL := Lib.hid hbl; clear hbl
  have HRL := Lib.hid hrl; clear hrl
  have HL := Lib.hid hl; clear hl
  have HLL := Lib.hid hll; clear hll
  by_cases hlen : ln = bn
  · subst hlen
    go_enter Tryz.func106, Tryz.ntmps106
    go_wp2_with fail
    go_loopg [18] ln (fun g' s18 wr => ∃ k : Nat, k + g' = ln ∧ s18 = .int .i64 k ∧ mayTo m has k = true ∧ wr = w)
    case atStart => exact ⟨0, by omega, rfl, rfl, rfl⟩
    case round =>
      obtain ⟨k, hk, rfl, hM, rfl⟩ := hrel
      have HK := Lib.hid hk; clear hk
      have HM := Lib.hid hM; clear hM
      by_cases hlt : k < ln
      · obtain ⟨x, hx, _⟩ := HL.out.get hlt
        obtain ⟨lb, lo, rfl⟩ := HL.out.addr (by omega)
        have cx := HL.out.cell lb lo rfl k x hx
        have hsu := mayTo_succ (m := m) hx
        have hno := fun h => (show mayB m has = false by unfold mayB; rw [mayTo_no hx (n := has.length) (by rw [HLL.out]; exact hlt) h, Bool.and_false])
        have HNO := Lib.hid hno; clear hno
        have HSU := Lib.hid hsu; clear hsu
        have HX := Lib.hid hx; clear hx
        by_cases h1 : x = -1
        · have e1 : (x != -1) = false := by simp [h1]
          have hok1 : okMay m has k x = true := by simp [okMay, h1]
          have HO := Lib.hid hok1; clear hok1
          have H1 := Lib.hid h1; clear h1
          go_wp2_with fail
          go_roundg (gk - 1)
          case measure => have := HK.out; omega
          case rel => exact ⟨k + 1, by have := HK.out; omega, by go_num, by rw [HSU.out, HM.out, HO.out]; rfl, rfl⟩
        · have e1 : (x != -1) = true := by simp [h1]
          by_cases hneg : x < 0
          · have e2 : decide (x < 0) = true := by simpa using hneg
            have hok1 : okMay m has k x = false := by simp [okMay, h1]; omega
            have HO := Lib.hid hok1; clear hok1
            have H1 := Lib.hid h1; clear h1
            have HN := Lib.hid hneg; clear hneg
            go_wp2_with fail
            go_ret
            exact ⟨ret_bool (HNO.out HO.out).symm, rfl⟩
          · obtain ⟨j, rfl⟩ := Int.eq_ofNat_of_zero_le (show 0 ≤ x by omega)
            have e2 : decide ((j : Int) < 0) = false := by simp
            have H1 := Lib.hid h1; clear h1
            clear hneg
            by_cases hjr : j < rn
            · have e3 : decide ((rn : Int) ≤ (j : Int)) = false := by simp; omega
              have e3' : decide (rn ≤ j) = false := by simp; omega
              obtain ⟨row, hrow⟩ := HB.out.gains.get hlt
              obtain ⟨gb, go', rfl⟩ := HB.out.gains.addr (by omega)
              obtain ⟨ra', rn', rc', hcl, hli⟩ := HB.out.gains.cell gb go' rfl k row hrow
              have hln : rn' = rn := by have h1 := HOK.out.rows.1 row (List.mem_of_getElem? hrow); have := hli.len; have := HRL.out; omega
              subst hln
              obtain ⟨y, hy, _⟩ := hli.get hjr
              obtain ⟨rb, ro, rfl⟩ := hli.addr (by omega)
              have cy := hli.cell rb ro rfl j y hy
              have hgi : gi (gainsM m) k j = y := gi_at hrow hy
              have i1 : (k : Int) < (ln : Int) := by omega
              have i2 : (j : Int) < (rn' : Int) := by omega
              have hcap := HL.out.cap
              have HGI := Lib.hid hgi; clear hgi
              have HROW := Lib.hid hrow; clear hrow
              have HLI := Lib.hid hli; clear hli
              have HY := Lib.hid hy; clear hy
              by_cases hy0 : y < 0
              · have e4 : decide (y < 0) = true := by simpa using hy0
                have hok1 : okMay m has k (j : Int) = false := by
                  simp only [okMay, Int.toNat_natCast, HGI.out]
                  rw [decide_eq_false (show ¬ (0 : Int) ≤ y by omega), decide_eq_false (show ¬ (j : Int) = -1 by omega)]; simp
                have HO := Lib.hid hok1; clear hok1
                have HY0 := Lib.hid hy0; clear hy0
                go_wp2_with fail
                go_ret
                exact ⟨ret_bool (HNO.out HO.out).symm, rfl⟩
              · have e4 : decide (y < 0) = false := by simpa using hy0
                have HY0 := Lib.hid hy0; clear hy0
                go_wp2_with fail
                refine (contains_any (some ⟨lb, lo, none⟩) k lc (has.take k) (j : Int) wr (HL.out.take (by omega))).mono ?_
                cases hct : (has.take k).contains (j : Int) with
                | true =>
                  have hok1 : okMay m has k (j : Int) = false := by
                    simp only [okMay, hct, decide_eq_false (show ¬ (j : Int) = -1 by omega)]; simp
                  have HO := Lib.hid hok1; clear hok1
                  have HCT := Lib.hid hct; clear hct
                  rintro e w1 ⟨rfl, rfl⟩
                  go_wp2_with fail
                  go_ret
                  exact ⟨ret_bool (HNO.out HO.out).symm, rfl⟩
                | false =>
                  have hok1 : okMay m has k (j : Int) = true := by
                    simp only [okMay, hct, Int.toNat_natCast, HGI.out]
                    rw [decide_eq_true (show (0 : Int) ≤ y by have := HY0.out; omega), decide_eq_true (show (0 : Int) ≤ (j : Int) by omega), decide_eq_true (show (j : Int) < (m.res.length : Int) by have := HRL.out; omega)]; simp
                  have HO := Lib.hid hok1; clear hok1
                  have HCT := Lib.hid hct; clear hct
                  rintro e w1 ⟨rfl, rfl⟩
                  go_wp2_with fail
                  go_roundg (gk - 1)
                  case measure => have := HK.out; omega
                  case rel => exact ⟨k + 1, by have := HK.out; omega, by go_num, by rw [HSU.out, HM.out, HO.out]; rfl, rfl⟩
            · have e3 : decide ((rn : Int) ≤ (j : Int)) = true := by simp; omega
              have e3' : decide (rn ≤ j) = true := by simp; omega
              have hok1 : okMay m has k (j : Int) = false := by
                simp only [okMay, decide_eq_false (show ¬ (j : Int) = -1 by omega), decide_eq_false (show ¬ (j : Int) < (m.res.length : Int) by have := HRL.out; omega)]; simp
              have HO := Lib.hid hok1; clear hok1
              have HJ := Lib.hid hjr; clear hjr
              go_wp2_with fail
              go_ret
              exact ⟨ret_bool (HNO.out HO.out).symm, rfl⟩
      · obtain rfl : k = ln := by have := HK.out; omega
        go_wp2_with fail
        go_ret
        refine ⟨ret_bool ?_, rfl⟩
        unfold mayB
        rw [HLL.out, HBL.out, HM.out]; simp
  · have e1 : ((ln : Int) != (bn : Int)) = true := by simp; omega
    have HLEN := Lib.hid hlen; clear hlen
    go_enter Tryz.func106, Tryz.ntmps106
    go_wp2_with fail
    go_ret
    refine ⟨ret_bool ?_, rfl⟩
    unfold mayB
    rw [HLL.out, HBL.out]; simp [HLEN.out]

def PayRes (b : Bool) (l : List Int) (w : World) (e : Ending) (w' : World) : Prop := match b with
  | true => RetList 0 l w e w'
  | false => RetList 1 [] w e w'

set_option maxRecDepth 100000 in
set_option maxHeartbeats 1000000 in
theorem PayOf_any (ra ba oa la : Option Addr) (rn rc bn bc on oc ln lc : Nat) (m : Mkt) (has : List Int) (w : World) (hm : MktAt w ra ba oa rn rc bn bc on oc m) (hl : Ints w la ln lc has) :
    Calls Tryz.prog 28 #[.agg #[.slice ra rn rc, .slice ba bn bc, .slice oa on oc], .slice la ln lc] w (PayRes (mcheck m && mayB m has) (payL m has) w) := by
  have HB0 := Lib.hid (mw_start w ra ba oa rn rc bn bc on oc)
  have hm1 := hm.below (mw_kept HB0.out).2.2.2.2 (Nat.le_refl _)
  have HK := Lib.hid (mcheck_any ra ba oa rn rc bn bc on oc m (mw w ra ba oa rn rc bn bc on oc) hm1.res hm1.bids hm1.ord)
  clear hm1
  have HM := Lib.hid hm; clear hm
  have HL := Lib.hid hl; clear hl
  cases hc : mcheck m with
  | false =>
    rw [Bool.false_and]
    rw [hc] at HK
    clear hc
    go_enter Tryz.func28, Tryz.ntmps28
    go_wp2_with fail
    refine HK.out.mono ?_
    rintro e w1 ⟨rfl, hb⟩
    have HB1 := Lib.hid (mw_below' HB0.out hb); clear hb HK
    go_wp2_with fail
    go_ret2
    exact ⟨none, 0, 0, rfl, Ints.empty _ _ _, (mw_kept HB1.out).2.2.2.2⟩
  | true =>
    rw [Bool.true_and]
    rw [hc] at HK
    have HC := Lib.hid hc; clear hc
    obtain ⟨by', hby⟩ : ∃ b, b = mayB m has := ⟨_, rfl⟩
    rw [← hby]
    have HBY := Lib.hid hby; clear hby
    go_enter Tryz.func28, Tryz.ntmps28
    go_wp2_with fail
    refine HK.out.mono ?_
    rintro e w1 ⟨rfl, hb⟩
    have HB1 := Lib.hid (mw_below' HB0.out hb); clear hb HK
    obtain ⟨c0, c1, c2, hs1, hbw⟩ := mw_kept HB1.out
    have HN := Lib.hid (newBook_any ra ba oa rn rc bn bc on oc m w1 (HM.out.below hbw (Nat.le_refl _)) HC.out)
    have HBW := Lib.hid hbw; clear hbw
    go_wp2_with fail
    refine HN.out.mono ?_
    rintro e w2 ⟨Bk, ga, ha, hc, rfl, hbk, hb2⟩
    have HBK := Lib.hid hbk; clear hbk
    have HB2 := Lib.hid (HBW.out.trans (hb2.mono HBW.out.size)); clear hb2 HN c0 c1 c2
    have HL2 := Lib.hid (HL.out.below HB2.out (Nat.le_refl _))
    have hok := mcheck_ok HC.out
    have HOK := Lib.hid hok; clear hok
    go_wp2_with fail
    refine (may_any Bk ra ba oa ga ha la rn rc bn bc on oc bn hc ln lc m has w2 HBK.out HOK.out HL2.out).mono ?_
    rw [← HBY.out]
    cases by' with
    | false =>
      rintro e w3 ⟨rfl, rfl⟩
      go_wp2_with fail
      go_ret2
      exact ⟨none, 0, 0, rfl, Ints.empty _ _ _, HB2.out⟩
    | true =>
      have hmy := HBY.out.symm
      rintro e w3 ⟨rfl, rfl⟩
      have hln : ln = bn := by
        simp only [mayB, Bool.and_eq_true, decide_eq_true_eq] at hmy
        have := HL.out.len; have := HM.out.bids.len; omega
      subst hln
      have hit : ∀ x, x ∈ has → x < m.res.length := fun x hx => by
        simp only [mayB, Bool.and_eq_true, decide_eq_true_eq] at hmy
        obtain ⟨i, hi⟩ := List.mem_iff_getElem?.1 hx
        have h1 := List.all_eq_true.1 hmy.2 i (List.mem_range.2 (List.getElem?_eq_some_iff.1 hi).1)
        rw [List.getD_eq_getElem?_getD, hi, Option.getD_some] at h1
        simp only [okMay, Bool.or_eq_true, Bool.and_eq_true, decide_eq_true_eq] at h1
        have := HOK.out.n1
        omega
      have HO := Lib.hid (of_any Bk ra ba oa ga ha la rn rc ln bc on oc ln hc lc m has w2 HBK.out HC.out HL2.out hit)
      clear hit hmy
      go_wp2_with fail
      refine HO.out.mono ?_
      rintro e w4 ⟨g, rfl, hrow, _, hb4⟩
      have HROW := Lib.hid hrow; clear hrow
      have HB4 := Lib.hid (HB2.out.trans (hb4.mono HB2.out.size)); clear hb4 HO
      go_wp2_with fail
      go_ret2
      have hlen : (payL m has).length = ln := by unfold payL; rw [tabN_length]; exact HL.out.len
      have hin := HROW.out.ints (by rw [hlen]; exact HL.out.big) (fun x hx => by
        unfold payL tabN at hx
        obtain ⟨i, _, rfl⟩ := List.mem_map.1 hx
        have := payAt_bd HOK.out has i
        omega)
      rw [hlen] at hin
      exact ⟨_, ln, ln, rfl, hin, HB4.out⟩
end Go.Proofs.YtkddkkcfpnndlaaGreatDoor
