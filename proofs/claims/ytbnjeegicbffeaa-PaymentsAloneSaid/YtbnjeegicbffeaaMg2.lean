/- Walks: markets.Without. -/
import Derived.Test.YtbnjeegicbffeaaMg1
import Derived.Test.YtbnjeegicbffeaaPs2
import Derived.Test.YtbnjeegicbffeaaEach
import Derived.Deep.RegionHeld3
import Derived.Deep.DeepCutAuto
namespace Go.Proofs.Ytbnjeegicbffeaa
open Go.RowKit

/-- a clone -/
def Cloned (n : Nat) (xs : List Int) (w : World) (e : Ending) (w' : World) : Prop :=
  ∃ a c, e = .returned (.slice a n c) ∧ n ≤ c ∧ Ints w' a n c xs ∧ (∀ b o, a = some ⟨b, o, none⟩ → w.heap.size ≤ b ∧ b < w'.heap.size) ∧ Below w.heap.size w w'
theorem cloned_any (a : Option Addr) (n c : Nat) (xs : List Int) (w : World) (h : Ints w a n c xs) (hsz : n < 17592186044000) :
    Calls Try.prog 62 #[.slice a n c] w (Cloned n xs w) := by
  refine (clone_any a n c xs w h hsz).mono ?_
  rintro e w' ⟨v, rfl, ho, hb⟩
  obtain ⟨a2, c2, rfl, hi⟩ := ho.ints (by rw [h.len]; exact h.big) h.bd
  rw [h.len] at hi ho ⊢
  refine ⟨a2, c2, rfl, hi.cap, hi, fun b o e => ?_, hb⟩
  subst e
  have h1 := World.ownsRow.lt ho b rfl
  exact h1

theorem Ints.step {w w' : World} {a : Option Addr} {n c : Nat} {xs : List Int} (h : Ints w a n c xs) (hb : Below w.heap.size w w') : Ints w' a n c xs := h.below hb (Nat.le_refl _)
theorem Ints.toClip {w : World} {a : Option Addr} {n c : Nat} {xs : List Int} (h : Ints w a n c xs) : Ints w a n n xs :=
  ⟨h.len, Nat.le_refl _, h.big, h.addr, h.cell, h.bd, fun e => ⟨(h.nil e).1, (h.nil e).1⟩⟩
theorem Below.step {B : Nat} {w w1 w2 : World} (hb : Below w1.heap.size w1 w2) (h : Below B w w1) (hB : B ≤ w1.heap.size) : Below B w w2 := h.trans (hb.mono hB)
theorem cell_step {w w' : World} {b o : Nat} {v : Value} (hb : Below w.heap.size w w') (h : w.cell? ⟨b, o, none⟩ = some v) : w'.cell? ⟨b, o, none⟩ = some v := by
  rw [hb.cell (p := ⟨b, o, none⟩) (block_lt_of_cell h)]; exact h
theorem size_step {w w' : World} (hb : Below w.heap.size w w') : ∀ b, b < w.heap.size → b < w'.heap.size := fun _ h => Nat.lt_of_lt_of_le h hb.size
theorem VRow.step {w w' : World} {B : Nat} {T : TypeId} {vals : List Value} (h : VRow w B T vals) (hb : Below w.heap.size w w') : VRow w' B T vals := h.below hb h.lt

theorem below_on {w w1 w2 : World} (hb : Below w1.heap.size w1 w2) (h : Below w.heap.size w w1) : Below w.heap.size w w2 := h.trans (hb.mono h.size)
theorem below_alloc {w w1 : World} {o : Obj} (h : Below w.heap.size w w1) : Below w.heap.size w (w1.alloc o) := h.alloc h.size o
theorem below_drew {w w1 : World} (h : Below w.heap.size w w1) : Below w.heap.size w w1.drew := h.drew
theorem cell_alloc {w : World} {b o : Nat} {v : Value} {ob : Obj} (h : w.cell? ⟨b, o, none⟩ = some v) : (w.alloc ob).cell? ⟨b, o, none⟩ = some v := cell_step ((Below.refl _ _).alloc (Nat.le_refl _) _) h
theorem cell_drew {w : World} {b o : Nat} {v : Value} (h : w.cell? ⟨b, o, none⟩ = some v) : w.drew.cell? ⟨b, o, none⟩ = some v := h
theorem cell_up {w w' : World} {b o : Nat} {v : Value} (hb : Below w.heap.size w w') (h : w.cell? ⟨b, o, none⟩ = some v) : w'.cell? ⟨b, o, none⟩ = some v := cell_step hb h
/-- a list of integers lies apart from a block of lists -/
theorem Ints.apartV {w : World} {a : Option Addr} {n c B : Nat} {T : TypeId} {xs : List Int} {vals : List Value} (h : Ints w a n c xs) (hV : VRow w B T vals) (hs : ∀ v, v ∈ vals → ∃ a n c, v = .slice a n c) : 0 < n → ∀ b o, a = some ⟨b, o, none⟩ → b ≠ B := by
  intro hn b o e eb
  subst eb
  obtain ⟨x, hx, _⟩ := h.get hn
  have h1 := h.cell b o e 0 x hx
  unfold VRow at hV
  rw [cell_of_row w b (o + 0) _ T _ hV] at h1
  obtain ⟨a', n', c', e'⟩ := hs (.int .i64 x) (by
    have : vals[o + 0]? = some (.int .i64 x) := by simpa using h1
    exact List.mem_of_getElem? this)
  cases e'
theorem VRow.apartT {w : World} {B B' : Nat} {T T' : TypeId} {vals vals' : List Value} (h : VRow w B T vals) (h' : VRow w B' T' vals') (hT : T ≠ T') : B ≠ B' := by
  intro e
  subst e
  unfold VRow at h h'
  rw [h] at h'
  exact hT (by injection h' with h'; injection h' with _ h' _)
/-- what the literal leaves -/
structure Lit3 (w1 wx : World) (Bx Bo : Nat) (a1 a3 : Option Addr) (rn bn on : Nat) (m : Mkt) : Prop where
  row : VRow wx Bx 25 [.slice a1 rn rn, .slice (some ⟨Bo, 0, none⟩) bn bn, .slice a3 on on]
  rows : VRow wx Bo 22 (List.replicate bn (Value.slice none 0 0))
  res : Ints wx a1 rn rn m.res
  ord : Ints wx a3 on on m.ord
  far1 : 0 < rn → ∀ b o, a1 = some ⟨b, o, none⟩ → b ≠ Bo
  far3 : 0 < on → ∀ b o, a3 = some ⟨b, o, none⟩ → b ≠ Bo
  bx : w1.heap.size ≤ Bx
  bo : w1.heap.size ≤ Bo
  ne : Bo ≠ Bx
  below : Below w1.heap.size w1 wx

/-- what each operation of the literal yields -/
def PW (H B rb ro bb bo ob oo rn rc on bc oc : Nat) (m : Mkt) (i : Nat) (x : Value) (w : World) : Prop := match i with
  | 0 => x = .pointer (some ⟨B, 0, none⟩)
  | 1 => x = .slice (some ⟨rb, ro, none⟩) rn rc
  | 2 => ∃ a c, x = .slice a rn c ∧ rn ≤ c ∧ Ints w a rn c m.res
  | 3 => ∃ a, x = .slice a rn rn ∧ Ints w a rn rn m.res
  | 4 => x = .pointer (some ⟨B, 1, none⟩)
  | 5 => x = .slice (some ⟨bb, bo, none⟩) on bc
  | 6 => x = .int .i64 on
  | 7 => ∃ g, x = .slice (some ⟨g, 0, none⟩) on on ∧ H ≤ g ∧ VRow w g 22 (List.replicate on (Value.slice none 0 0))
  | 8 => x = .pointer (some ⟨B, 2, none⟩)
  | 9 => x = .slice (some ⟨ob, oo, none⟩) on oc
  | 10 => ∃ a c, x = .slice a on c ∧ on ≤ c ∧ Ints w a on c m.ord
  | 11 => ∃ a, x = .slice a on on ∧ Ints w a on on m.ord
  | 12 => ∃ a1 g a3, x = .agg #[.slice a1 rn rn, .slice (some ⟨g, 0, none⟩) on on, .slice a3 on on] ∧ Ints w a1 rn rn m.res ∧ H ≤ g ∧ VRow w g 22 (List.replicate on (Value.slice none 0 0)) ∧ Ints w a3 on on m.ord
  | 13 => ∃ g, x = .pointer (some ⟨g, 0, none⟩) ∧ H ≤ g ∧ VRow w g 25 [.slice none 0 0, .slice none 0 0, .slice none 0 0]
  | _ => True

theorem PW_mono {H B rb ro bb bo ob oo rn rc on bc oc : Nat} {m : Mkt} : ∀ (j : Nat) (y : Value) (w w' : World), Below w.heap.size w w' → PW H B rb ro bb bo ob oo rn rc on bc oc m j y w → PW H B rb ro bb bo ob oo rn rc on bc oc m j y w'
  | 0, _, _, _, _, h => h
  | 1, _, _, _, _, h => h
  | 2, _, _, _, hb, ⟨a, c, e, h1, h2⟩ => ⟨a, c, e, h1, h2.step hb⟩
  | 3, _, _, _, hb, ⟨a, e, h2⟩ => ⟨a, e, h2.step hb⟩
  | 4, _, _, _, _, h => h
  | 5, _, _, _, _, h => h
  | 6, _, _, _, _, h => h
  | 7, _, _, _, hb, ⟨g, e, hg, h⟩ => ⟨g, e, hg, h.step hb⟩
  | 8, _, _, _, _, h => h
  | 9, _, _, _, _, h => h
  | 10, _, _, _, hb, ⟨a, c, e, h1, h2⟩ => ⟨a, c, e, h1, h2.step hb⟩
  | 11, _, _, _, hb, ⟨a, e, h2⟩ => ⟨a, e, h2.step hb⟩
  | 12, _, _, _, hb, ⟨a1, g, a3, e, h1, hg, h2, h3⟩ => ⟨a1, g, a3, e, h1.step hb, hg, h2.step hb, h3.step hb⟩
  | 13, _, _, _, hb, ⟨g, e, hg, h⟩ => ⟨g, e, hg, h.step hb⟩
  | _ + 14, _, _, _, _, _ => trivial

set_option maxRecDepth 100000 in
set_option maxHeartbeats 4000000 in
theorem Without_yes (ra ba oa : Option Addr) (rn rc bn bc on oc i0 : Nat) (m : Mkt) (w : World) (hm : MktAt w ra ba oa rn rc bn bc on oc m) (hc : mcheck m = true) (hi : i0 < bn) :
    Calls Try.prog 39 #[.agg #[.slice ra rn rc, .slice ba bn bc, .slice oa on oc], .int .i64 i0] w fun e w' => ∃ a1 a2 a3, e = .returned (.tuple #[.agg #[.slice a1 rn rn, .slice a2 bn bn, .slice a3 on on], .int .i64 0]) ∧ MktAt w' a1 a2 a3 rn rn bn bn on on (withoutM m i0) ∧ Below w.heap.size w w' := by
  have hok := mcheck_ok hc
  have hrl := hm.res.len
  have hbl := hm.bids.len
  have hol := hm.ord.len
  have hn1 := hok.n1
  have hn8 := hok.n8
  have hm1 := hok.m1
  have hm8 := hok.m8
  have ho8 : on = bn := by
    obtain ⟨on', e, hp⟩ := hok.order
    have := hp.length_eq
    rw [e] at hol
    simp at this hol
    omega
  subst ho8
  rw [hrl] at hn1 hn8
  rw [hbl] at hm1 hm8
  have HRL := Lib.hid hrl; clear hrl
  have HBL := Lib.hid hbl; clear hbl
  have HOK := Lib.hid hok; clear hok
  have HC := Lib.hid hc; clear hc
  have HOL := Lib.hid hol; clear hol
  have HB0 := Lib.hid (show Below w.heap.size w ((mw w ra ba oa rn rc on bc on oc).alloc (.cells #[.slice none 0 0, .slice none 0 0, .slice none 0 0] 25)) from ((Below.refl _ w).alloc (Nat.le_refl _) _).alloc (by simp) _)
  have HM := Lib.hid hm; clear hm
  obtain ⟨bb, bo, rfl⟩ := HM.out.bids.addr (by omega)
  obtain ⟨rb, ro, rfl⟩ := HM.out.res.addr (by omega)
  obtain ⟨ob, oo, rfl⟩ := HM.out.ord.addr (by omega)
  have hmA := HM.out.below HB0.out (Nat.le_refl _)
  have HK := Lib.hid (mcheck_any _ _ _ rn rc on bc on oc m _ hmA.res hmA.bids hmA.ord)
  clear hmA
  have hmkB := mkRows on (by omega)
  go_enter Try.func39, Try.ntmps39
  go_wp2_with fail
  refine HK.out.mono ?_
  rw [HC.out]
  rintro e w1 ⟨rfl, hb⟩
  have hb0 := hb
  have hcs : (w1.cell? ⟨w.heap.size, 0, none⟩ = some (.slice (some ⟨rb, ro, none⟩) rn rc) ∧ w1.cell? ⟨w.heap.size, 1, none⟩ = some (.slice (some ⟨bb, bo, none⟩) on bc) ∧ w1.cell? ⟨w.heap.size, 2, none⟩ = some (.slice (some ⟨ob, oo, none⟩) on oc)) := by
    refine ⟨?_, ?_, ?_⟩
    all_goals (rw [hb0.cell (p := ⟨w.heap.size, _, none⟩) (by simp [mw]; omega)]; simp [mw, go_sem])
  obtain ⟨k0, k1, k2⟩ := hcs
  have hz1 : w.heap.size + 1 < w1.heap.size := by have := hb0.size; simp [mw] at this; omega
  have HBW1 := Lib.hid (HB0.out.trans (hb0.mono (by simp [mw]; omega)))
  have hrv : VRow w1 (w.heap.size + 1) 25 [.slice none 0 0, .slice none 0 0, .slice none 0 0] := by
    have h := (VRow.new (mw w (some ⟨rb, ro, none⟩) (some ⟨bb, bo, none⟩) (some ⟨ob, oo, none⟩) rn rc on bc on oc) 25 [.slice none 0 0, .slice none 0 0, .slice none 0 0])
    have e : (mw w (some ⟨rb, ro, none⟩) (some ⟨bb, bo, none⟩) (some ⟨ob, oo, none⟩) rn rc on bc on oc).heap.size = w.heap.size + 1 := by simp [mw]
    rw [e] at h
    exact VRow.below h hb0 (by simp [mw])
  have HRV := Lib.hid hrv; clear hrv
  clear hb hb0 HK
  have e1 : decide ((i0 : Int) < 0) = false := by simp
  have e2 : decide ((on : Int) ≤ (i0 : Int)) = false := by simp; omega
  have e3 : decide (on ≤ i0) = false := by simp; omega
  have hM1 := HM.out.below HBW1.out (Nat.le_refl _)
  have HIR := Lib.hid hM1.res
  have HIO := Lib.hid hM1.ord
  clear hM1
  go_upto_region 3 with fail
  go_cut [6] (fun s6 wx => ∃ (Bx Bo : Nat) (a1 a3 : Option Addr), s6 = .pointer (some ⟨Bx, 0, none⟩) ∧ Lit3 w1 wx Bx Bo a1 a3 rn on on m)
  case first =>
    refine wp_region_each' (by kernel_rfl) [24, 25, 26, 27, 28, 29, 30, 31, 32, 33, 34, 35, 36, 6] (PW w1.heap.size w.heap.size rb ro bb bo ob oo rn rc on bc oc m) (fun w' => Below w1.heap.size w1 w') (by simp) (by kernel_rfl) (by simp) (by decide) (by simp [fold]) ?hmono (Below.refl _ _).drew ?hstep ?hlast
    case hmono => exact PW_mono
    case hlast =>
      intro o v wx K ho hB hd hK
      simp only [List.length_cons, List.length_nil, Nat.reduceAdd, Nat.reduceSub, List.getElem?_cons_zero, List.getElem?_cons_succ, Option.some.injEq] at ho
      subst ho
      simp only [fold, Nat.zero_add, Nat.reduceAdd, List.setIfInBounds_toArray, List.set_cons_zero, List.set_cons_succ]
      obtain ⟨a1, g, a3, d12, h1, hg2, h2, h3⟩ : PW w1.heap.size w.heap.size rb ro bb bo ob oo rn rc on bc oc m 12 (v 12) wx := hd 12 (by simp)
      obtain ⟨Bx, d13, hg13, h13⟩ : PW w1.heap.size w.heap.size rb ro bb bo ob oo rn rc on bc oc m 13 (v 13) wx := hd 13 (by simp)
      rw [d12, d13]
      have c0 := h13.cell (k := 0) rfl
      have c1 := h13.cell (k := 1) rfl
      have c2 := h13.cell (k := 2) rfl
      have f0 := h13.frozen 0
      have f1 := h13.frozen 1
      have f2 := h13.frozen 2
      have H13 := Lib.hid h13; clear h13
      have H1 := Lib.hid h1; clear h1
      have H2 := Lib.hid h2; clear h2
      have H3 := Lib.hid h3; clear h3
      have HBB := Lib.hid hB; clear hB
      clear hd
      go_wp2_with fail
      go_meet
      have hne : g ≠ Bx := H2.out.apartT H13.out (by decide)
      have hsl : ∀ v, v ∈ List.replicate on (Value.slice none 0 0) → ∃ a n c, v = .slice a n c := fun v hv => ⟨none, 0, 0, (List.mem_replicate.1 hv).2⟩
      have hs3 : ∀ v, v ∈ [Value.slice none 0 0, .slice none 0 0, .slice none 0 0] → ∃ a n c, v = .slice a n c := fun v hv => ⟨none, 0, 0, by simpa using hv⟩
      have hr1 := H1.out.apartV H13.out hs3
      have hr3 := H3.out.apartV H13.out hs3
      refine ⟨Bx, g, a1, a3, rfl, ((H13.out.set 0 _).set 1 _).set 2 _, ?_, ((H1.out.far hr1 _).far hr1 _).far hr1 _, ((H3.out.far hr3 _).far hr3 _).far hr3 _, H1.out.apartV H2.out hsl, H3.out.apartV H2.out hsl, hg13, hg2, hne, ((HBB.out.setCell (by simpa using hg13) _).setCell (by simpa using hg13) _).setCell (by simpa using hg13) _⟩
      unfold VRow
      rw [heap_setCell_other _ _ _ _ (by simpa using hne), heap_setCell_other _ _ _ _ (by simpa using hne), heap_setCell_other _ _ _ _ (by simpa using hne)]
      exact H2.out
    case hstep =>
      intro i o v wx K hi ho hB hd hK
      simp only [List.length_cons, List.length_nil] at hi
      simp only [fold, Nat.zero_add, Nat.reduceAdd, List.setIfInBounds_toArray, List.set_cons_zero, List.set_cons_succ]
      rcases (by omega : i = 0 ∨ i = 1 ∨ i = 2 ∨ i = 3 ∨ i = 4 ∨ i = 5 ∨ i = 6 ∨ i = 7 ∨ i = 8 ∨ i = 9 ∨ i = 10 ∨ i = 11 ∨ i = 12 ∨ i = 13) with rfl | rfl | rfl | rfl | rfl | rfl | rfl | rfl | rfl | rfl | rfl | rfl | rfl | rfl
      all_goals
        simp only [List.getElem?_cons_zero, List.getElem?_cons_succ, Option.some.injEq] at ho
        subst ho
        simp only [fold, Nat.zero_add, Nat.reduceAdd, Act.put, List.setIfInBounds_toArray, List.set_cons_zero, List.set_cons_succ] at hK
      · clear hd
        go_wp2_with fail
        exact hK _ _ hB (Below.refl _ _) rfl
      · have d0 : v 0 = .pointer (some ⟨w.heap.size, 0, none⟩) := hd ⟨0, .data⟩ (by simp) rfl
        have hcc := cell_up hB k0
        rw [d0] at hK ⊢
        clear hd
        go_wp2_with fail
        exact hK _ _ hB (Below.refl _ _) rfl
      · have d1 : v 1 = .slice (some ⟨rb, ro, none⟩) rn rc := hd ⟨1, .data⟩ (by simp) rfl
        rw [d1] at hK ⊢
        clear hd
        go_wp2_with fail
        refine (cloned_any _ _ _ m.res _ (HIR.out.below hB (Nat.le_refl _)) (by omega)).mono ?_
        rintro e w' ⟨a1, c1, rfl, hc1, hi1, _, hb1⟩
        go_wp2_with fail
        exact hK _ _ (below_on hb1 hB) hb1 ⟨a1, c1, rfl, hc1, hi1⟩
      · obtain ⟨a, c, d2, hc2, hi2⟩ : PW w1.heap.size w.heap.size rb ro bb bo ob oo rn rc on bc oc m 2 (v 2) wx := hd ⟨2, .data⟩ (by simp) rfl
        rw [d2] at hK ⊢
        clear hd
        go_wp2_with fail
        refine (clip_any _ _ _ _ hc2).mono ?_
        rintro e w' ⟨rfl, rfl⟩
        go_wp2_with fail
        exact hK _ _ hB (Below.refl _ _) ⟨a, rfl, hi2.toClip⟩
      · clear hd
        go_wp2_with fail
        exact hK _ _ hB (Below.refl _ _) rfl
      · have d4 : v 4 = .pointer (some ⟨w.heap.size, 1, none⟩) := hd ⟨4, .data⟩ (by simp) rfl
        have hcc := cell_up hB k1
        rw [d4] at hK ⊢
        clear hd
        go_wp2_with fail
        exact hK _ _ hB (Below.refl _ _) rfl
      · have d5 : v 5 = .slice (some ⟨bb, bo, none⟩) on bc := hd ⟨5, .data⟩ (by simp) rfl
        rw [d5] at hK ⊢
        clear hd
        go_wp2_with fail
        exact hK _ _ hB (Below.refl _ _) rfl
      · have d6 : v 6 = .int .i64 on := hd ⟨6, .data⟩ (by simp) rfl
        rw [d6] at hK ⊢
        clear hd
        go_wp2_with fail
        exact hK _ _ (below_alloc hB) ((Below.refl _ _).alloc (Nat.le_refl _) _) ⟨_, rfl, hB.size, VRow.new _ _ _⟩
      · clear hd
        go_wp2_with fail
        exact hK _ _ hB (Below.refl _ _) rfl
      · have d8 : v 8 = .pointer (some ⟨w.heap.size, 2, none⟩) := hd ⟨8, .data⟩ (by simp) rfl
        have hcc := cell_up hB k2
        rw [d8] at hK ⊢
        clear hd
        go_wp2_with fail
        exact hK _ _ hB (Below.refl _ _) rfl
      · have d9 : v 9 = .slice (some ⟨ob, oo, none⟩) on oc := hd ⟨9, .data⟩ (by simp) rfl
        rw [d9] at hK ⊢
        clear hd
        go_wp2_with fail
        refine (cloned_any _ _ _ m.ord _ (HIO.out.below hB (Nat.le_refl _)) (by omega)).mono ?_
        rintro e w' ⟨a1, c1, rfl, hc1, hi1, _, hb1⟩
        go_wp2_with fail
        exact hK _ _ (below_on hb1 hB) hb1 ⟨a1, c1, rfl, hc1, hi1⟩
      · obtain ⟨a, c, d2, hc2, hi2⟩ : PW w1.heap.size w.heap.size rb ro bb bo ob oo rn rc on bc oc m 10 (v 10) wx := hd ⟨10, .data⟩ (by simp) rfl
        rw [d2] at hK ⊢
        clear hd
        go_wp2_with fail
        refine (clip_any _ _ _ _ hc2).mono ?_
        rintro e w' ⟨rfl, rfl⟩
        go_wp2_with fail
        exact hK _ _ hB (Below.refl _ _) ⟨a, rfl, hi2.toClip⟩
      · obtain ⟨a1, d3, h3⟩ : PW w1.heap.size w.heap.size rb ro bb bo ob oo rn rc on bc oc m 3 (v 3) wx := hd ⟨3, .data⟩ (by simp) rfl
        obtain ⟨g, d7, hg7, h7⟩ : PW w1.heap.size w.heap.size rb ro bb bo ob oo rn rc on bc oc m 7 (v 7) wx := hd ⟨7, .data⟩ (by simp) rfl
        obtain ⟨a3, d11, h11⟩ : PW w1.heap.size w.heap.size rb ro bb bo ob oo rn rc on bc oc m 11 (v 11) wx := hd ⟨11, .data⟩ (by simp) rfl
        rw [d3, d7, d11] at hK ⊢
        clear hd
        go_wp2_with fail
        exact hK _ _ hB (Below.refl _ _) ⟨a1, g, a3, rfl, h3, hg7, h7, h11⟩
      · clear hd
        go_wp2_with fail
        exact hK _ _ (below_alloc hB) ((Below.refl _ _).alloc (Nat.le_refl _) _) ⟨_, rfl, hB.size, VRow.new _ _ _⟩
  case rest =>
    obtain ⟨Bx, Bo, a1, a3, rfl, hL⟩ := hcut
    have hcb := cell_step (hL.below.mono (Nat.le_refl _)) k1
    have HL := Lib.hid hL; clear hL
    have hwl : (withoutM m i0).bids.length = on := by rw [withoutM_length]; exact HBL.out
    have HWL := Lib.hid hwl; clear hwl
    clear k0 k1 k2
    go_wp2_with fail
    go_loopg [40] on (fun g' s40 wr => ∃ (i : Nat) (vals : List Value), i + g' = on ∧ s40 = .int .i64 i ∧ Made wr Bo w1.heap.size wr.heap.size on ((withoutM m i0).bids.take i) vals ∧ (∀ j, i ≤ j → j < on → vals[j]? = some (Value.slice none 0 0)) ∧
      VRow wr Bx 25 [.slice a1 rn rn, .slice (some ⟨Bo, 0, none⟩) on on, .slice a3 on on] ∧ Ints wr a1 rn rn m.res ∧ Ints wr a3 on on m.ord ∧ Below w1.heap.size w1 wr)
    case atStart =>
      exact ⟨0, _, by omega, rfl, ⟨HL.out.rows, by simp, HL.out.bo, HL.out.rows.lt, fun j xs hj => by simp at hj⟩, fun j _ hj => by simp [hj], HL.out.row, HL.out.res, HL.out.ord, HL.out.below⟩
    case round =>
      obtain ⟨i, vals, hi', rfl, hMd, hrest, hX, hR, hO, hB⟩ := hrel
      have HI := Lib.hid hi'; clear hi'
      by_cases hlt : i < on
      · obtain ⟨bid, hbid⟩ := HM.out.bids.get hlt
        obtain ⟨la, ln, lc, hcl, hli⟩ := HM.out.bids.row (HBW1.out.trans (hB.mono HBW1.out.size)) (Nat.le_refl _) (b := bb) (o := bo) (k := i) rfl hbid
        have hln : ln ≤ 8 := by
          rcases HOK.out.bid bid (List.mem_of_getElem? hbid) with e | ⟨e, _⟩
          · have := hli.len; rw [e] at this; simp at this; omega
          · have := hli.len; have := HRL.out; omega
        have hv0 := hrest i (Nat.le_refl _) hlt
        have hgl : ((withoutM m i0).bids.take i).length = i := by rw [List.length_take, HWL.out]; omega
        have HMD := Lib.hid hMd; clear hMd
        have HREST := Lib.hid hrest; clear hrest
        have HGL := Lib.hid hgl; clear hgl
        by_cases hii : i = i0
        · have f1 : ((i : Int) != (i0 : Int)) = false := by simp [hii]
          have hpush := HMD.out.push (xs := []) (top' := wr.heap.size) (Nat.le_refl _) (a := none) (c := 0) (by rw [HGL.out]; exact hv0) (Ints.empty _ _ _) (fun h => by simp at h)
          rw [show (withoutM m i0).bids.take i ++ [[]] = (withoutM m i0).bids.take (i + 1) by
            rw [List.take_add_one]
            simp [withoutM, hii, HBL.out, hi]] at hpush
          have HP := Lib.hid hpush; clear hpush
          have HX := Lib.hid hX; clear hX
          have HR := Lib.hid hR; clear hR
          have HO := Lib.hid hO; clear hO
          have HB := Lib.hid hB; clear hB
          have HLI := Lib.hid hli; clear hli
          have HBID := Lib.hid hbid; clear hbid
          have HV0 := Lib.hid hv0; clear hv0
          have HII := Lib.hid hii; clear hii
          go_wp2_with fail
          go_roundg (gk - 1)
          case measure => have := HI.out; omega
          case rel => exact ⟨i + 1, vals, by have := HI.out; omega, by go_num, HP.out, fun j h1 h2 => HREST.out j (by omega) h2, HX.out, HR.out, HO.out, HB.out⟩
        · have f1 : ((i : Int) != (i0 : Int)) = true := by simp; omega
          have cX := hX.cell (k := 1) rfl
          have cV := HMD.out.row.cell hv0
          have fV := HMD.out.row.frozen i
          have hsz := HMD.out.hi
          have hszx := hX.lt
          have i1 : (i : Int) < (on : Int) := by omega
          have HX := Lib.hid hX; clear hX
          have HR := Lib.hid hR; clear hR
          have HO := Lib.hid hO; clear hO
          have HB := Lib.hid hB; clear hB
          have HLI := Lib.hid hli; clear hli
          have HBID := Lib.hid hbid; clear hbid
          have HV0 := Lib.hid hv0; clear hv0
          have HII := Lib.hid hii; clear hii
          go_wp2_with fail
          have hne := HL.out.ne
          go_region_held3 (fun w' => w'.cell? ⟨Bx, 1, none⟩ = some (.slice (some ⟨Bo, 0, none⟩) on on))
            (first | assumption | (rw [World.cell?_setCell_far _ _ _ _ (by simpa using hne)]; assumption) | (simp only [World.cell?_drew]; assumption) | go_keep)
            (first
              | (go_at_call 62; refine (cloned_any la ln lc bid _ ?_ (by omega)).mono ?_; (exact HLI.out.below (HBW1.out.trans (HB.out.drew.mono HBW1.out.size)) (Nat.le_refl _)); rintro e w' ⟨a4, c4, rfl, hc4, hi4, hf4, hb4⟩; have q1 := cell_step (v := .slice (some ⟨Bo, 0, none⟩) on on) (b := Bx) (o := 1) hb4 cX; have q2 := cell_step (v := .slice none 0 0) (b := Bo) (o := i) hb4 cV; have q3 : w'.frozen? ⟨Bo, i, none⟩ = false := (hb4.frozen (p := ⟨Bo, i, none⟩) hsz).trans fV)
              | (go_at_call 54; refine (clip_any _ _ _ _ ‹_›).mono ?_; rintro e w' ⟨rfl, rfl⟩))
          go_wp2_with fail
          go_roundg (gk - 1)
          case measure => have := HI.out; omega
          case rel =>
            have hln2 := HLI.out.len
            have hb5 : Below wr.heap.size wr w' := (Below.refl wr.heap.size wr).drew.trans hb4
            have hfar : ∀ b o, a4 = some ⟨b, o, none⟩ → b ≠ Bo := fun b o e => by have := (hf4 b o e).1; simp at this; omega
            have hM2 := (HMD.out.below hb5 (Nat.le_refl _)).set (i := i) (by rw [HGL.out]; exact Nat.le_refl _) (.slice a4 ln ln)
            have hI2 := hi4.toClip.far (p := ⟨Bo, i, none⟩) (fun _ b o e => hfar b o e) (.slice a4 ln ln)
            have hP := hM2.push (xs := bid) (top' := w'.heap.size) hb5.size (a := a4) (c := ln) (by rw [HGL.out, hln2, List.getElem?_set_self (by rw [HMD.out.len]; exact hlt)]) (by rw [hln2]; exact hI2) (fun _ b o e => by
              have h1 := hf4 b o e
              have h2 := HB.out.size
              simp at h1
              exact ⟨by omega, h1.2, hfar b o e⟩)
            rw [show (withoutM m i0).bids.take i ++ [bid] = (withoutM m i0).bids.take (i + 1) by
              rw [List.take_add_one]
              have : (withoutM m i0).bids[i]? = some bid := by simp only [withoutM]; rw [List.getElem?_set_ne (fun e => HII.out e.symm)]; exact HBID.out
              rw [this]; rfl] at hP
            refine ⟨i + 1, _, by have := HI.out; omega, by go_num, by simpa using hP, fun j h1 h2 => by rw [List.getElem?_set_ne (by omega)]; exact HREST.out j (by omega) h2, ?_, (HR.out.step hb5).far (fun hn b o e => HL.out.far1 hn b o e) _, (HO.out.step hb5).far (fun hn b o e => HL.out.far3 hn b o e) _, (HB.out.trans (hb5.mono HB.out.size)).setCell (by simpa using HL.out.bo) _⟩
            unfold VRow
            rw [heap_setCell_other _ _ _ _ (by simpa using hne.symm)]
            exact HX.out.step hb5
      · obtain rfl : i = on := by have := HI.out; omega
        have x0 := hX.cell (k := 0) rfl
        have x1 := hX.cell (k := 1) rfl
        have x2 := hX.cell (k := 2) rfl
        have HX := Lib.hid hX; clear hX
        have HR := Lib.hid hR; clear hR
        have HO := Lib.hid hO; clear hO
        have HB := Lib.hid hB; clear hB
        have HMD := Lib.hid hMd; clear hMd
        rw [List.take_of_length_le (by rw [HWL.out]; exact Nat.le_refl _)] at HMD
        have hrv := HRV.out.below HB.out hz1
        have r0 := hrv.cell (k := 0) rfl
        have r1 := hrv.cell (k := 1) rfl
        have r2 := hrv.cell (k := 2) rfl
        have q0 := hrv.frozen 0
        have q1 := hrv.frozen 1
        have q2 := hrv.frozen 2
        have HRW := Lib.hid hrv; clear hrv
        go_wp2_with fail
        have hs3 : ∀ v, v ∈ [Value.slice none 0 0, .slice none 0 0, .slice none 0 0] → ∃ a n c, v = .slice a n c := fun v hv => ⟨none, 0, 0, by simpa using hv⟩
        have hr1 := HR.out.apartV HRW.out hs3
        have hr3 := HO.out.apartV HRW.out hs3
        have hMf := ((HMD.out.under (p := ⟨w.heap.size + 1, 0, none⟩) hz1 (.slice a1 rn rn)).under (p := ⟨w.heap.size + 1, 1, none⟩) hz1 (.slice (some ⟨Bo, 0, none⟩) i i)).under (p := ⟨w.heap.size + 1, 2, none⟩) hz1 (.slice a3 i i)
        refine bodyPost_ret (v := .tuple #[.agg #[.slice a1 rn rn, .slice (some ⟨Bo, 0, none⟩) i i, .slice a3 i i], .int .i64 0]) (by simp [results, Try.results39, go_sem, r0, r1, r2]) rfl ⟨a1, _, a3, rfl, ⟨((HR.out.far hr1 _).far hr1 _).far hr1 _, hMf.rows HWL.out (by omega), ((HO.out.far hr3 _).far hr3 _).far hr3 _⟩, ?_⟩
        exact (((HBW1.out.trans (HB.out.mono HBW1.out.size)).setCell (by simp) _).setCell (by simp) _).setCell (by simp) _
end Go.Proofs.Ytbnjeegicbffeaa
