/- 'append([]api.Why(nil), l...)': a copy of reasons, that is written. Walks: the law ForestsSpoil. ForestsSpoil: for every input the law returns true. -/
import Derived.Test.YtbnjeegicbffeaaGreatG36
import Derived.Test.YtbnjeegicbffeaaGreatG33
import Derived.Test.YtbnjeegicbffeaaGreatG22
import Derived.Test.YtbnjeegicbffeaaGreatG35
import Derived.Test.YtbnjeegicbffeaaGreatG29
import Derived.Test.YtbnjeegicbffeaaGreatG30
/- 'append([]api.Why(nil), l...)': a copy of reasons, that is written. -/
namespace Go.Proofs.YtbnjeegicbffeaaGreat
open Go.RowKit Sale

theorem pairVals_len : ∀ l : List (Int × Int), (pairVals l).length = l.length * 2
  | [] => rfl
  | p :: l => by show (pairVals l).length + 1 + 1 = (l.length + 1) * 2; rw [pairVals_len l]; omega
theorem pairVals_at {l : List (Int × Int)} {j : Nat} {u : Value} (h : (pairVals l)[j]? = some u) : ∃ k p, l[k]? = some p ∧ ((j = k * 2 ∧ u = .int .i64 p.1) ∨ (j = k * 2 + 1 ∧ u = .int .i64 p.2)) := by
  have hj : j < l.length * 2 := by rw [← pairVals_len]; exact (List.getElem?_eq_some_iff.1 h).1
  have hk : j / 2 < l.length := by omega
  obtain ⟨p, hp⟩ : ∃ p, l[j / 2]? = some p := ⟨_, List.getElem?_eq_getElem hk⟩
  obtain ⟨h1, h2⟩ := pairVals_get hp
  refine ⟨j / 2, p, hp, ?_⟩
  rcases (by omega : j = j / 2 * 2 ∨ j = j / 2 * 2 + 1) with e | e
  · rw [← e] at h1
    rw [h] at h1
    exact .inl ⟨e, Option.some.inj h1⟩
  · rw [← e] at h2
    rw [h] at h2
    exact .inr ⟨e, Option.some.inj h2⟩

/-- a list of reasons of the call's own that is written -/
structure WWrt (w : World) (g n : Nat) (l : List (Int × Int)) : Prop where
  len : l.length = n
  row : ∃ cur : Array Value, w.heap[g]? = some (.cells cur 75 (0, 0)) ∧ cur.toList.take (n * 2) = pairVals l
theorem WWrt.cell {w : World} {g n : Nat} {l : List (Int × Int)} (h : WWrt w g n l) {k : Nat} {p : Int × Int} (hp : l[k]? = some p) : w.cell? ⟨g, k * 2, none⟩ = some (.int .i64 p.1) ∧ w.cell? ⟨g, k * 2 + 1, none⟩ = some (.int .i64 p.2) := by
  obtain ⟨cur, h1, h2⟩ := h.row
  have hk : k < l.length := (List.getElem?_eq_some_iff.1 hp).1
  have hn := h.len
  obtain ⟨e1, e2⟩ := pairVals_get hp
  rw [← h2] at e1 e2
  rw [List.getElem?_take_of_lt (by omega)] at e1 e2
  rw [cell_of_row w g _ cur _ _ h1, cell_of_row w g _ cur _ _ h1]
  exact ⟨by simpa using e1, by simpa using e2⟩
theorem WWrt.frozen {w : World} {g n : Nat} {l : List (Int × Int)} (h : WWrt w g n l) (k : Nat) : w.frozen? ⟨g, k, none⟩ = false := by
  obtain ⟨cur, h1, _⟩ := h.row
  exact frozen_of_row w g k cur _ h1
theorem WWrt.set2 {w : World} {g n : Nat} {l : List (Int × Int)} (h : WWrt w g n l) {k : Nat} {p : Int × Int} (hp : l[k]? = some p) (y : Int) : WWrt (w.setCell ⟨g, k * 2 + 1, none⟩ (.int .i64 y)) g n (l.set k (p.1, y)) := by
  obtain ⟨cur, h1, h2⟩ := h.row
  refine ⟨by rw [List.length_set]; exact h.len, _, heap_setCell_same w g _ _ _ _ h1, ?_⟩
  rw [Array.toList_setIfInBounds, List.take_set, h2, pairVals_set2 y hp]
theorem WWrt.set1 {w : World} {g n : Nat} {l : List (Int × Int)} (h : WWrt w g n l) {k : Nat} {p : Int × Int} (hp : l[k]? = some p) (x : Int) : WWrt (w.setCell ⟨g, k * 2, none⟩ (.int .i64 x)) g n (l.set k (x, p.2)) := by
  obtain ⟨cur, h1, h2⟩ := h.row
  refine ⟨by rw [List.length_set]; exact h.len, _, heap_setCell_same w g _ _ _ _ h1, ?_⟩
  rw [Array.toList_setIfInBounds, List.take_set, h2, pairVals_set1 x hp]
theorem WWrt.whys {w : World} {g n : Nat} {l : List (Int × Int)} (h : WWrt w g n l) {c : Nat} (hc : n ≤ c) (hbig : n ≤ 4611686018427387904) (hbd : ∀ p, p ∈ l → (-9223372036854775808 ≤ p.1 ∧ p.1 ≤ 9223372036854775807) ∧ -9223372036854775808 ≤ p.2 ∧ p.2 ≤ 9223372036854775807) : Whys w (some ⟨g, 0, none⟩) n c l :=
  ⟨h.len, hc, hbig, fun _ => ⟨_, _, rfl⟩, fun b o e k p hp => by
    cases e
    rw [Nat.zero_add]
    exact h.cell hp, hbd⟩

theorem appW {ops : Array Oper} {rest : List Oper} {o : Oper} {a : Act} {Q : Exit → Act → World → Prop} (w : World) (hgd : o.guard = none) (x : Operand)
    (ho : o.op = .call { callee := .builtin .append, args := #[.const (.slice none 0 0), x], argTypes := #[71, 71] })
    (b off ln lc : Nat) (l : List (Int × Int)) (hx : a.eval x = .slice (some ⟨b, off, none⟩) ln lc) (hw : Whys w (some ⟨b, off, none⟩) ln lc l) (h8 : ln ≤ 1000) (hpos : 0 < ln)
    (h : ∀ g cap w', WWrt w' g ln l → ln ≤ cap → w.heap.size ≤ g → Below w.heap.size w w' → wpList Tryz.prog ops Q rest (a.put o.dst (.slice (some ⟨g, 0, none⟩) ln cap)) w') : wpList Tryz.prog ops Q (o :: rest) a w := by
  obtain ⟨i0, hi, hz0, hz1, hz2⟩ := info_parts infoWhy
  have hl := hw.len
  refine wpList_append_own (P := Tryz.prog) (w := w) hgd _ x _ ho w.heap.size 75 i0 _ 2 16 Tryz.underlying71 hi hz0 hz1 hz2 rfl (by decide) (.slice none 0 0) 0 [] rfl (World.ownsRow_nil _ _ _ _) ⟨b, off, none⟩ ln lc (pairVals l) hx (by rw [pairVals_len, hl]) ?_ ?_ ?_ ?_ (Nat.le_refl _) ?_
  · intro j u hu
    obtain ⟨k, p, hp, (⟨rfl, rfl⟩ | ⟨rfl, rfl⟩)⟩ := pairVals_at hu
    · have := (hw.cell b off rfl k p hp).1
      by_cases hj : k * 2 = 0
      · rw [hj] at this ⊢; simpa [Addr.add] using this
      · simpa [Addr.add, hj] using this
    · have := (hw.cell b off rfl k p hp).2
      simpa [Addr.add, Nat.add_assoc] using this
  · intro u hu
    obtain ⟨j, hj⟩ := List.mem_iff_getElem?.1 hu
    obtain ⟨k, p, hp, (⟨_, rfl⟩ | ⟨_, rfl⟩)⟩ := pairVals_at hj <;> rfl
  · unfold maxLen; omega
  · omega
  · intro v' w' hown' hgr hnil
    obtain ⟨_, (⟨rfl, hn⟩ | ⟨g, cap, cur, rfl, hg, hh, hc, hm, hs, ht⟩)⟩ := hown'
    · omega
    · rw [Nat.zero_add] at ht hc ⊢
      exact h g cap w' ⟨hl, cur, hh, by rw [List.nil_append] at ht; exact ht⟩ hc hg ((Below.refl _ w).grown hgr (Nat.le_refl _) (fun k hk => by cases hk))
end Go.Proofs.YtbnjeegicbffeaaGreat

/- Walks: the law ForestsSpoil. -/
namespace Go.Proofs.YtbnjeegicbffeaaGreat
open Go.RowKit Sale Tree

theorem lives16_kept (w0 : World) (y : Kept (Below w0.heap.size w0)) : Calls Tryz.prog 37 #[] y.w fun e w' => e = .returned (.bool true) ∧ ∃ z : Kept (Below w0.heap.size w0), w' = z.w :=
  Kept.call ((lives16_any y.w).mono fun _ _ ⟨h1, h2⟩ => ⟨h1, y.h.trans (h2.mono y.h.size)⟩)
theorem MoAt.empty {w w1 : World} {Bm : Nat} {ra ba oa : Option Addr} {rn rc bn bc on oc : Nat} {m : Mkt} (hv : VRow w1 Bm 28 [.slice ra rn rc, .slice ba bn bc, .slice oa on oc]) (hm : MktAt w1 ra ba oa rn rc bn bc on oc m) (hb : Below w.heap.size w w1) :
    MoAt w Bm w1.heap.size ra ba oa none none rn rc bn bc on oc 0 0 0 0 m ⟨[], []⟩ (w1.alloc (.cells #[.slice none 0 0, .slice none 0 0] 30)) :=
  MoAt.box hv hm ⟨Ints.empty _ _ _, Ints.empty _ _ _⟩ hb

theorem Whys.drop1 {w : World} {b off n c : Nat} {l : List (Int × Int)} (h : Whys w (some ⟨b, off, none⟩) n c l) (hn : 1 ≤ n) : Whys w (some ⟨b, off + 2, none⟩) (n - 1) (c - 1) (l.drop 1) :=
  ⟨by rw [List.length_drop, h.len], by have := h.cap; omega, by have := h.big; omega, fun _ => ⟨_, _, rfl⟩, fun b' o' e k p hp => by
    cases e
    rw [List.getElem?_drop] at hp
    have := h.cell b off rfl (1 + k) p hp
    rw [show off + 2 + k * 2 = off + (1 + k) * 2 by omega]
    exact this, fun p hp => h.bd p (List.mem_of_mem_drop hp)⟩
theorem Whys.none1 {w : World} {b off c : Nat} {l : List (Int × Int)} (h : Whys w (some ⟨b, off, none⟩) 1 c l) : Whys w (some ⟨b, off, none⟩) 0 (c - 1) (l.drop 1) :=
  ⟨by rw [List.length_drop, h.len], Nat.zero_le _, by omega, fun h => absurd h (by omega), fun b' o' _ k p hp => by
    have h1 := (List.getElem?_eq_some_iff.1 hp).1
    rw [List.length_drop, h.len] at h1
    omega, fun p hp => h.bd p (List.mem_of_mem_drop hp)⟩
theorem check_kept {w0 : World} {w : World} {Bm Bo : Nat} {ra ba oa ha pa la : Option Addr} {rn rc bn bc on oc hn hc pn pc ln lc : Nat} {m : Mkt} {o : Outc} {l : List (Int × Int)} (h : MoAt w Bm Bo ra ba oa ha pa rn rc bn bc on oc hn hc pn pc m o w0) (hl : Whys w0 la ln lc l) (hc' : checkB m o l = false) (y : Kept (Below w0.heap.size w0)) :
    Calls Tryz.prog 39 #[.agg #[.slice ra rn rc, .slice ba bn bc, .slice oa on oc], .agg #[.slice ha hn hc, .slice pa pn pc], .slice la ln lc] y.w fun e w' => e = .returned (.bool false) ∧ ∃ z : Kept (Below w0.heap.size w0), w' = z.w := by
  have h1 := h.step y.h
  have h2 := fcheck_any ra ba oa ha pa la rn rc bn bc on oc hn hc pn pc ln lc m o l y.w h1.mkt h1.out (hl.below y.h (Nat.le_refl _))
  rw [hc'] at h2
  exact Kept.call (h2.mono fun _ _ ⟨h3, h4⟩ => ⟨h3, y.h.trans (h4.mono y.h.size)⟩)

set_option maxRecDepth 100000 in
set_option maxHeartbeats 4000000 in
theorem forestsSpoil_any (ra ba oa : Option Addr) (rn rc bn bc on oc : Nat) (m : Mkt) (bd : Nat) (z : Int) (w : World) (hm : MktAt w ra ba oa rn rc bn bc on oc m) (hbd : bd < 256) (hz : -128 ≤ z ∧ z ≤ 127) :
    Calls Tryz.prog 12 #[.agg #[.slice ra rn rc, .slice ba bn bc, .slice oa on oc], .int .u8 (bd : Int), .int .i8 z] w fun e w' => e = .returned (.bool true) ∧ Below w.heap.size w w' := by
  have hb0 : Below w.heap.size w (mw w ra ba oa rn rc bn bc on oc) := (Below.refl _ _).alloc (Nat.le_refl _) _
  have hv0 : VRow (mw w ra ba oa rn rc bn bc on oc) w.heap.size 28 [.slice ra rn rc, .slice ba bn bc, .slice oa on oc] := VRow.new w _ _
  have hm1 := hm.below hb0 (Nat.le_refl _)
  have hrl := hm.res.len
  have hbl := hm.bids.len
  obtain ⟨hz1, hz2⟩ := hz
  by_cases hc : mcheck m = true
  · have HO := Lib.hid (Oof_yes ra ba oa rn rc bn bc on oc m _ hm1 hc)
    have hok := mcheck_ok hc
    have hn8 := hok.n8
    have hn1 := hok.n1
    have hm8 := hok.m8
    rw [hrl] at hn8 hn1
    rw [hbl] at hm8
    have hev := hok.outEven hc
    have HF := Lib.hid (And.intro (ofitsB_of hev.fit) (allB_out hc))
    have HPL := Lib.hid (hev.fit.plen.trans hrl)
    have HV := Lib.hid (And.intro hv0 (And.intro hm1 hb0)); clear hv0 hm1 hb0 hm hok hev hc hrl hbl
    have hcv : IntKind.i64.wrap (bd : Int) = (bd : Int) := IntWalk.i64_in _ (by omega)
    have hcz : IntKind.i64.wrap z = z := IntWalk.i64_in _ (by omega)
    go_enter Tryz.func12, Tryz.ntmps12
    go_wp2_with fail
    refine HO.out.mono ?_
    rintro e w1 ⟨ha, pa, hcp, rfl, ho, hb1⟩
    have hmo := MoAt.box (HV.out.1.step hb1) (HV.out.2.1.below hb1 (Nat.le_refl _)) ho (HV.out.2.2.trans (hb1.mono HV.out.2.2.size))
    have c0 := hmo.v1.cell (k := 0) rfl
    have c1 := hmo.v1.cell (k := 1) rfl
    have c2 := hmo.v1.cell (k := 2) rfl
    have HFO := Lib.hid (fof_any ra ba oa ha pa rn rc bn bc on oc bn hcp rn rn m (outM m) _ hmo.mkt hmo.out HF.out.1)
    have HMO := Lib.hid hmo; clear hmo ho hb1 HO
    go_wp2_with fail
    refine HFO.out.mono ?_
    intro e w2 hf
    obtain ⟨hb, (⟨_, xa, xn, xc, rfl, hx⟩ | ⟨hno, _⟩)⟩ := hf
    case inr => rw [HF.out.2] at hno; cases hno
    have hxn : xn = rn := by rw [← hx.len, outL_length]; exact HPL.out
    subst hxn
    have hx : Whys w2 xa xn xc (foundL m (outM m)) := hx
    obtain ⟨xb, xo, rfl⟩ := hx.addr (by omega)
    have HM2 := Lib.hid (HMO.out.step hb)
    have HX2 := Lib.hid hx
    clear hb HMO hx c0 c1 c2 HFO
    by_cases hz0 : z = 0
    · have e1 : (z == 0) = true := by simp [hz0]
      clear hz0
      go_wp2_with fail
      refine (lives16_any w2).mono ?_
      rintro e w3 ⟨rfl, hb⟩
      have HB3 := Lib.hid (HM2.out.step hb); clear hb
      go_wp2_with fail
      go_ret
      exact ⟨rfl, HB3.out.below⟩
    · have e1 : (z == 0) = false := by simpa using hz0
      have e2 : ((xn : Int) == 0) = false := by simp; omega
      obtain ⟨j, hje, hjb⟩ : ∃ j : Nat, (bd : Int) % (xn : Int) = (j : Int) ∧ j < xn := ⟨bd % xn, by omega, Nat.mod_lt _ (by omega)⟩
      have HZ0 := Lib.hid hz0; clear hz0
      go_upto_region 6 with fail
      rw [hje]
      clear hje hcv
      go_wp2_with (at_builtin; refine appW _ rfl _ rfl xb xo xn xc (foundL m (outM m)) rfl HX2.out (by omega) (by omega) ?_)
      intro g cap w3 hw3 hcap hg hb3
      obtain ⟨p, hp, hp0, hpn, _, _, hpl, hph⟩ := found_at HF.out.1 HF.out.2 (j := j) (by rw [HPL.out]; exact hjb)
      rw [HPL.out] at hpn
      have hpg : (foundL m (outM m)).getD j (0, 0) = p := by rw [List.getD_eq_getElem?_getD, hp]; rfl
      have hjl : j < (foundL m (outM m)).length := (List.getElem?_eq_some_iff.1 hp).1
      have hck := found_check HF.out.1 HF.out.2
      have HSP := Lib.hid (spoil_rank hck hjl (v := p.2 + z) (by rw [hpg]; have := HZ0.out; omega))
      rw [hpg] at HSP
      have HCK := Lib.hid hck; clear hck
      have hfb : ∀ q, q ∈ foundL m (outM m) → (-1 ≤ q.1 ∧ q.1 < 100) ∧ 0 ≤ q.2 ∧ q.2 ≤ 100 := fun q hq => by
        obtain ⟨i, hi⟩ := List.mem_iff_getElem?.1 hq
        have hil : i < (foundL m (outM m)).length := (List.getElem?_eq_some_iff.1 hi).1
        obtain ⟨q', hq', h0, hn', _, _, hl', hh'⟩ := found_at HF.out.1 HF.out.2 (j := i) (by have e : (foundL m (outM m)).length = (outM m).prices.length := outL_length _ _; omega)
        rw [hi] at hq'
        cases hq'
        rw [HPL.out] at hn'
        omega
      have HFB := Lib.hid hfb; clear hfb
      have HPG := Lib.hid (And.intro hp hpg)
      obtain ⟨cw0, cw1⟩ := hw3.cell hp
      have fw1 := hw3.frozen (j * 2 + 1)
      have hw4 := hw3.set2 hp (p.2 + z)
      have i1 : (j : Int) < (xn : Int) := by omega
      obtain ⟨b0, r0⟩ := p
      simp only at hp0 hpn hpl hph cw0 cw1 hw4
      have hB3 := HM2.out.step hb3
      have hB4 : Below w2.heap.size w2 (w3.setCell ⟨g, j * 2 + 1, none⟩ (.int .i64 (r0 + z))) := hb3.setCell (p := ⟨g, j * 2 + 1, none⟩) (by show _ ≤ g; exact hg) _
      have hmo4 := HM2.out.step hB4
      have HX4 := Lib.hid (HX2.out.below hB4 (Nat.le_refl _))
      have hwh := hw4.whys (c := cap) hcap (by omega) (fun q hq => by
        rcases List.mem_or_eq_of_mem_set hq with h | h
        · have := HFB.out q h; omega
        · subst h; simp only; omega)
      have HC4 := Lib.hid (fcheck_any _ _ _ _ _ (some ⟨g, 0, none⟩) _ _ _ _ _ _ _ _ _ _ xn cap m (outM m) _ _ hmo4.mkt hmo4.out hwh)
      rw [HSP.out] at HC4
      have m0 := hmo4.v1.cell (k := 0) rfl
      have m1 := hmo4.v1.cell (k := 1) rfl
      have m2 := hmo4.v1.cell (k := 2) rfl
      have n0 := hmo4.v2.cell (k := 0) rfl
      have n1 := hmo4.v2.cell (k := 1) rfl
      have HM4 := Lib.hid hmo4
      clear hw3 hw4 hB3 hB4 hmo4 hwh hb3 hp hpg hjl HSP
      go_wp2_with fail
      refine HC4.out.mono ?_
      rintro e w5 ⟨rfl, hb5⟩
      have HM5 := Lib.hid (HM4.out.step hb5)
      have HX5 := Lib.hid (HX4.out.below hb5 (Nat.le_refl _))
      have q0 := HM5.out.v2.cell (k := 0) rfl
      clear hb5 m0 m1 m2 n0 n1 HC4 HM4 HX4 cw0 cw1 fw1
      go_wp2_with fail
      go_loopg [12, 13] bn (fun g' s12 s13 wr => ∃ i : Nat, i + g' = bn ∧ s13 = .int .i64 i ∧ Below w5.heap.size w5 wr)
      case atStart => exact ⟨0, by omega, rfl, Below.refl _ _⟩
      case round =>
        clear q0
        obtain ⟨i, hi, rfl, hb⟩ := hrel
        have HI := Lib.hid hi; clear hi
        have hmo := HM5.out.step hb
        have q0 := hmo.v2.cell (k := 0) rfl
        by_cases hlt : i < bn
        · obtain ⟨x, hx, _⟩ := hmo.out.has.get hlt
          obtain ⟨hb', ho', rfl⟩ := hmo.out.has.addr (by omega)
          have cx := hmo.out.has.cell hb' ho' rfl i x hx
          have k1 : (i : Int) < (bn : Int) := by omega
          by_cases hxj : x = (j : Int)
          · have e5 : (x == (j : Int)) = true := by simp [hxj]
            have hsp := spoil_bidder (m := m) (l := foundL m (outM m)) (j := j) (i := i) (r := r0) (o := outM m) (List.getElem?_eq_some_iff.1 HPG.out.1).1 (by rw [← hxj]; exact hx)
            have HSP := Lib.hid hsp; clear hsp
            have hxw := HX5.out.below hb (Nat.le_refl _)
            have HXW := Lib.hid hxw
            have HMO := Lib.hid hmo
            have HB := Lib.hid hb
            have HXX := Lib.hid hx
            clear hx hxj hmo hb hxw
            go_wp2_with (at_builtin; refine appW _ rfl _ rfl xb xo xn xc (foundL m (outM m)) rfl HXW.out (by omega) (by omega) ?_)
            intro g6 cap6 w6 hw6 hcap6 hg6 hb6
            obtain ⟨cw0, cw1⟩ := hw6.cell HPG.out.1
            have fw0 := hw6.frozen (j * 2)
            have hw7 := hw6.set1 HPG.out.1 (i : Int)
            have hB7 : Below wr.heap.size wr (w6.setCell ⟨g6, j * 2, none⟩ (.int .i64 (i : Int))) := hb6.setCell (p := ⟨g6, j * 2, none⟩) (by show _ ≤ g6; exact hg6) _
            have hmo7 := HMO.out.step hB7
            have hwh := hw7.whys (c := cap6) hcap6 (by omega) (fun q hq => by
              rcases List.mem_or_eq_of_mem_set hq with h | h
              · have := HFB.out q h; omega
              · subst h; simp only; omega)
            have HC7 := Lib.hid (fcheck_any _ _ _ _ _ (some ⟨g6, 0, none⟩) _ _ _ _ _ _ _ _ _ _ xn cap6 m (outM m) _ _ hmo7.mkt hmo7.out hwh)
            simp only at HC7
            rw [HSP.out] at HC7
            have m0 := hmo7.v1.cell (k := 0) rfl
            have m1 := hmo7.v1.cell (k := 1) rfl
            have m2 := hmo7.v1.cell (k := 2) rfl
            have n0 := hmo7.v2.cell (k := 0) rfl
            have n1 := hmo7.v2.cell (k := 1) rfl
            have HB7 := Lib.hid (HB.out.trans (hB7.mono HB.out.size))
            clear hw6 hw7 hB7 hmo7 hwh hb6 q0 cx
            go_wp2_with fail
            refine HC7.out.mono ?_
            rintro e w8 ⟨rfl, hb8⟩
            have HB8 := Lib.hid (HB7.out.trans (hb8.mono HB7.out.size)); clear hb8
            go_wp2_with fail
            go_roundg (gk - 1)
            case measure => have := HI.out; omega
            case rel => exact ⟨i + 1, by have := HI.out; omega, by go_num, HB8.out⟩
          · have e5 : (x == (j : Int)) = false := by simpa using hxj
            have HB := Lib.hid hb
            clear hx hxj hmo hb
            go_wp2_with fail
            go_roundg (gk - 1)
            case measure => have := HI.out; omega
            case rel => exact ⟨i + 1, by have := HI.out; omega, by go_num, HB.out⟩
        · obtain rfl : i = bn := by have := HI.out; omega
          have HMO := Lib.hid hmo
          have HB := Lib.hid hb
          clear hmo hb
          have hX6 := HX5.out.below HB.out (Nat.le_refl _)
          have hcc := hX6.cap
          have hl1 : decide ((1 : Int) ≤ (xn : Int)) = true := by simp; omega
          have hl2 : decide ((1 : Int) ≤ (xc : Int)) = true := by simp; omega
          have HX6 := Lib.hid hX6; clear hX6
          by_cases hx1 : xc = 1
          · obtain rfl : xn = 1 := by omega
            subst hx1
            go_wp2_with fail
            have hbd : Below wr.heap.size wr wr.drew := (Below.refl _ _).drew
            have hne' : Nonempty (Kept (Below wr.heap.size wr)) := ⟨⟨_, hbd⟩⟩
            have k1 : ∀ z : Kept (Below wr.heap.size wr), z.w.cell? ⟨w.heap.size, 0, none⟩ = some (.slice ra 1 rc) := fun z => (HMO.out.step z.h).v1.cell (k := 0) rfl
            have k2 : ∀ z : Kept (Below wr.heap.size wr), z.w.cell? ⟨w.heap.size, 1, none⟩ = some (.slice ba i bc) := fun z => (HMO.out.step z.h).v1.cell (k := 1) rfl
            have k3 : ∀ z : Kept (Below wr.heap.size wr), z.w.cell? ⟨w.heap.size, 2, none⟩ = some (.slice oa on oc) := fun z => (HMO.out.step z.h).v1.cell (k := 2) rfl
            have k4 : ∀ z : Kept (Below wr.heap.size wr), z.w.cell? ⟨w1.heap.size, 0, none⟩ = some (.slice ha i hcp) := fun z => (HMO.out.step z.h).v2.cell (k := 0) rfl
            have k5 : ∀ z : Kept (Below wr.heap.size wr), z.w.cell? ⟨w1.heap.size, 1, none⟩ = some (.slice pa 1 1) := fun z => (HMO.out.step z.h).v2.cell (k := 1) rfl
            refine wp_region_kept (Below wr.heap.size wr) (by kernel_rfl) (by kernel_rfl) hbd ?_
            repeat (go_big_quiet_step ((first | (go_at_call 39; exact check_kept HMO.out HX6.out.none1 (spoil_len HCK.out (by rw [List.length_drop]; have := HX6.out.len; omega)) _) | (go_at_call 37; exact lives16_kept wr _))))
            refine wpQuiet_nil ?_
            intro _ hw'
            obtain ⟨⟨w9, hb9⟩, rfl⟩ := hw'
            clear k1 k2 k3 k4 k5 hne'
            go_wp2_with fail
            go_ret
            exact ⟨rfl, HMO.out.below.trans (hb9.mono HMO.out.below.size)⟩
          · have hne1 : ¬ (1 = xc) := fun e => hx1 e.symm
            go_wp2_with fail
            have hbd : Below wr.heap.size wr wr.drew := (Below.refl _ _).drew
            have hne' : Nonempty (Kept (Below wr.heap.size wr)) := ⟨⟨_, hbd⟩⟩
            have k1 : ∀ z : Kept (Below wr.heap.size wr), z.w.cell? ⟨w.heap.size, 0, none⟩ = some (.slice ra xn rc) := fun z => (HMO.out.step z.h).v1.cell (k := 0) rfl
            have k2 : ∀ z : Kept (Below wr.heap.size wr), z.w.cell? ⟨w.heap.size, 1, none⟩ = some (.slice ba i bc) := fun z => (HMO.out.step z.h).v1.cell (k := 1) rfl
            have k3 : ∀ z : Kept (Below wr.heap.size wr), z.w.cell? ⟨w.heap.size, 2, none⟩ = some (.slice oa on oc) := fun z => (HMO.out.step z.h).v1.cell (k := 2) rfl
            have k4 : ∀ z : Kept (Below wr.heap.size wr), z.w.cell? ⟨w1.heap.size, 0, none⟩ = some (.slice ha i hcp) := fun z => (HMO.out.step z.h).v2.cell (k := 0) rfl
            have k5 : ∀ z : Kept (Below wr.heap.size wr), z.w.cell? ⟨w1.heap.size, 1, none⟩ = some (.slice pa xn xn) := fun z => (HMO.out.step z.h).v2.cell (k := 1) rfl
            refine wp_region_kept (Below wr.heap.size wr) (by kernel_rfl) (by kernel_rfl) hbd ?_
            repeat (go_big_quiet_step ((first | (go_at_call 39; exact check_kept HMO.out (HX6.out.drop1 hn1) (spoil_len HCK.out (by rw [List.length_drop]; have := HX6.out.len; omega)) _) | (go_at_call 37; exact lives16_kept wr _))))
            refine wpQuiet_nil ?_
            intro _ hw'
            obtain ⟨⟨w9, hb9⟩, rfl⟩ := hw'
            clear k1 k2 k3 k4 k5 hne'
            go_wp2_with fail
            go_ret
            exact ⟨rfl, HMO.out.below.trans (hb9.mono HMO.out.below.size)⟩
  · have hc : mcheck m = false := by simpa using hc
    have HO := Lib.hid (Oof_no ra ba oa rn rc bn bc on oc m _ hm1 hc)
    have HV := Lib.hid (And.intro hv0 (And.intro hm1 hb0)); clear hv0 hm1 hb0 hm hrl hbl
    have HC := Lib.hid hc; clear hc
    go_enter Tryz.func12, Tryz.ntmps12
    go_wp2_with fail
    refine HO.out.mono ?_
    rintro e w1 ⟨rfl, hb1⟩
    have hmo := MoAt.empty (HV.out.1.step hb1) (HV.out.2.1.below hb1 (Nat.le_refl _)) (HV.out.2.2.trans (hb1.mono HV.out.2.2.size))
    have c0 := hmo.v1.cell (k := 0) rfl
    have c1 := hmo.v1.cell (k := 1) rfl
    have c2 := hmo.v1.cell (k := 2) rfl
    have HFN := Lib.hid (fof_no ra ba oa none none rn rc bn bc on oc 0 0 0 0 m ⟨[], []⟩ _ hmo.mkt hmo.out (by unfold ofitsB; rw [HC.out]; rfl))
    have HMO := Lib.hid hmo; clear hmo hb1 HO
    go_wp2_with fail
    refine HFN.out.mono ?_
    rintro e w2 ⟨rfl, hb⟩
    have HM2 := Lib.hid (HMO.out.step hb); clear hb
    go_wp2_with fail
    refine (lives16_any w2).mono ?_
    rintro e w3 ⟨rfl, hb⟩
    have HB3 := Lib.hid (HM2.out.step hb); clear hb
    go_wp2_with fail
    go_ret
    exact ⟨rfl, HB3.out.below⟩
end Go.Proofs.YtbnjeegicbffeaaGreat

/- ForestsSpoil: for every input the law returns true. -/
namespace Go.Proofs.YtbnjeegicbffeaaGreat
open Go.ChangeShapes Go.WideShapes Go.ChangeAt Go.RowKit Go.Joins

set_option maxRecDepth 100000 in
theorem forestsSpoil_lifted (os : Os) (started : os.Started) (H : Type) (enc : TypeId × Value → H) :
    ReturnsInHanded {} Tryz.checked os 12 .any (Rows.forestsSpoilSpec.pre6 enc Tryz.prog Tryz.f12 Rows.forestsSpoilRow.domain false) (Rows.forestsSpoilSpec.post enc Tryz.prog Tryz.f12 false true false false) := by
  refine returnsInHanded_of_change_sized (C := Tryz.checked) Tryz.ownL started (by kernel_rfl) Tryz.func12
    (ChangeSpec.witness6 (enc := enc) (C := Tryz.checked) false ⟨#[], #[.agg #[.slice none 0 0, .slice none 0 0, .slice none 0 0], .int .u8 0, .int .i8 0], []⟩ 8 (by kernel_rfl) (by kernel_rfl) (by kernel_rfl) (by kernel_rfl)) ?_
  intro W base args ds gs before hval0 hW _ hsz0 _
  have hval : ∀ (j : Nat) t v, Tryz.f12.params[j]? = some t → args[j]? = some v → Value.okWide Tryz.prog W .any base t v := hval0
  have hsz : (DataW.weightsEach Tryz.prog (Tryz.f12.params.toList ++ []) (ds ++ gs)).all (· ≤ reachBytes) = true := hsz0
  have hW' := hW
  obtain ⟨p, q, hA0, hV, rfl, hfz, hnd⟩ := hW
  have hA : DataW.TrodAll enc Tryz.prog W 0 (fun _ => true) true Tryz.f12.params.toList args.toList ds p := hA0
  rw [Tryz.params12] at hA hval hsz
  obtain ⟨v0, v1, v2, d0, d1, d2, p0, p1, p2, rfl, rfl, rfl, h0, h1, h2⟩ := trodAll_three hA
  obtain ⟨rfl, rfl⟩ := trodVars_none hV
  have hs0 : Sized 28 d0 := fun n hn => by simpa using List.all_eq_true.1 hsz n (DataW.weights_mem_each (j := 0) rfl rfl n hn)
  obtain ⟨ra, ba, oa, rn, rc, bn, bc, on, oc, m, rfl, hm, hb1, hb2, hb3⟩ := market_read (hval 0 _ _ rfl rfl) h0 hs0
  obtain ⟨z1, rfl, rfl, rfl, hw1⟩ := open_int Tryz.underlying5 (hval 1 _ _ rfl rfl) h1
  simp only [Lit.wf, Bool.and_eq_true, decide_eq_true_eq, show IntKind.u8.min = 0 by decide, show IntKind.u8.max = 255 by decide] at hw1
  obtain ⟨bd, rfl⟩ := Int.eq_ofNat_of_zero_le hw1.1
  obtain ⟨z2, rfl, rfl, rfl, hw2⟩ := open_int Tryz.underlying77 (hval 2 _ _ rfl rfl) h2
  simp only [Lit.wf, Bool.and_eq_true, decide_eq_true_eq, show IntKind.i8.min = -128 by decide, show IntKind.i8.max = 127 by decide] at hw2
  refine (forestsSpoil_any ra ba oa rn rc bn bc on oc m bd z2 W hm (by omega) (by omega)).mono ?_
  rintro e W' ⟨rfl, hB⟩
  exact ⟨_, rfl, law_post (f := Tryz.f12) hW' rfl (by kernel_rfl) (by decide) rfl hB⟩

theorem forestsSpoil_joined : joinedFacts Tryz.checked.prog 12 Tryz.f12 Rows.forestsSpoilSpec Rows.forestsSpoilRow = true :=
  joined_of (P := Tryz.checked.prog) (f := 12) (fn := Tryz.f12) (s := Rows.forestsSpoilSpec) (c := Rows.forestsSpoilRow) (by kernel_rfl) (by as_aux_lemma => kernel_rfl) (by as_aux_lemma => kernel_rfl) (by as_aux_lemma => kernel_rfl) (by as_aux_lemma => kernel_rfl)
    prog_mayEnter (prog_lifts' rfl) (prog_make' rfl) (by kernel_rfl) (by kernel_rfl) (by kernel_rfl) (by kernel_rfl) (by kernel_rfl)

theorem forestsSpoil_holds : Rows.ForestsSpoilSaid :=
  OpenClaim.holds_of_wide 12 Tryz.f12 rfl rfl rfl rfl rfl rfl rfl ⟨rfl, rfl, rfl, rfl, rfl⟩ rfl rfl rfl rfl rfl (by kernel_rfl) Tryz.func12
    forestsSpoil_joined
    (of_decide_eq_true (by kernel_rfl)) (by unfold Func.isWrapper; first | (rw [if_pos (by decide +kernel)]; kernel_rfl) | (rw [if_neg (by decide +kernel)]; exact ⟨rfl, rfl⟩))
    (fun os started H enc _ => forestsSpoil_lifted os started H enc)
end Go.Proofs.YtbnjeegicbffeaaGreat
