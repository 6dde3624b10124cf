/- The law on forests.Of: what the code and the reference answer, in one form; what the law holds. Walks: the law ForestsOf. -/
import Derived.Test.YtkddkkcfpnndlaaDoorFo27
import Derived.Test.YtkddkkcfpnndlaaDoorFo26
import Derived.Test.YtkddkkcfpnndlaaDoorFo43
import Derived.Test.YtkddkkcfpnndlaaDoorFo45
import Derived.Test.YtkddkkcfpnndlaaDoorFo46
import Derived.Laws.AppendOwnNone
namespace Go.Proofs.YtkddkkcfpnndlaaDoor
open Go.RowKit Sale Tree

/-- what is answered -/
def ansL (m : Mkt) (o : Outc) : List (Int × Int) := if ofitsB m o = true ∧ allB (woodOf m o) = true then outL o.prices.length (lv (woodOf m o) o.prices.length) else []
def ansE (m : Mkt) (o : Outc) : Int := if ofitsB m o = true then (if allB (woodOf m o) = true then 0 else 7) else 1
def FofAns (l : List (Int × Int)) (er : Int) (w : World) (e : Ending) (w' : World) : Prop := ∃ a n c, e = .returned (.tuple #[.slice a n c, .int .i64 er]) ∧ Whys w' a n c l ∧ Below w.heap.size w w'
theorem Whys.nil (w : World) : Whys w none 0 0 [] := ⟨rfl, Nat.le_refl _, by omega, fun h => absurd h (by omega), fun _ _ _ k p h => by simp at h, fun p h => by simp at h⟩
theorem fofSays_ans {m : Mkt} {o : Outc} {w w' : World} {e : Ending} (hfb : ofitsB m o = true) (h : FofSays m o w e w') : FofAns (ansL m o) (ansE m o) w e w' := by
  obtain ⟨hb, (⟨ha, a, n, c, rfl, hw⟩ | ⟨ha, rfl⟩)⟩ := h
  · refine ⟨a, n, c, ?_, ?_, hb⟩
    · unfold ansE; rw [if_pos hfb, if_pos ha]
    · unfold ansL; rw [if_pos ⟨hfb, ha⟩]; exact hw
  · refine ⟨none, 0, 0, ?_, ?_, hb⟩
    · unfold ansE; rw [if_pos hfb, ha, if_neg (by decide)]
    · unfold ansL; rw [if_neg (by rw [ha]; simp)]; exact Whys.nil _
theorem fofNo_ans {m : Mkt} {o : Outc} {w w' : World} {e : Ending} (hfb : ofitsB m o = false) (h : e = .returned (.tuple #[.slice none 0 0, .int .i64 1]) ∧ Below w.heap.size w w') : FofAns (ansL m o) (ansE m o) w e w' := by
  obtain ⟨rfl, hb⟩ := h
  refine ⟨none, 0, 0, ?_, ?_, hb⟩
  · unfold ansE; rw [hfb, if_neg (by decide)]
  · unfold ansL; rw [if_neg (by rw [hfb]; simp)]; exact Whys.nil _
theorem fof_ans (ra ba oa ha pa : Option Addr) (rn rc bn bc on oc hn hc pn pc : Nat) (m : Mkt) (o : Outc) (w : World) (hm : MktAt w ra ba oa rn rc bn bc on oc m) (ho : OutAt w ha pa hn hc pn pc o) :
    Calls Tryd.prog 8 #[.agg #[.slice ra rn rc, .slice ba bn bc, .slice oa on oc], .agg #[.slice ha hn hc, .slice pa pn pc]] w (FofAns (ansL m o) (ansE m o) w) := by
  cases hfb : ofitsB m o with
  | true => exact (fof_any ra ba oa ha pa rn rc bn bc on oc hn hc pn pc m o w hm ho hfb).mono fun _ _ h => fofSays_ans hfb h
  | false => exact (fof_no ra ba oa ha pa rn rc bn bc on oc hn hc pn pc m o w hm ho hfb).mono fun _ _ h => fofNo_ans hfb h
theorem of16_ans (ra ba oa ha pa : Option Addr) (rn rc bn bc on oc hn hc pn pc : Nat) (m : Mkt) (o : Outc) (w : World) (hm : MktAt w ra ba oa rn rc bn bc on oc m) (ho : OutAt w ha pa hn hc pn pc o) (hs : Short rn bn on m) :
    Calls Tryd.prog 9 #[.agg #[.slice ra rn rc, .slice ba bn bc, .slice oa on oc], .agg #[.slice ha hn hc, .slice pa pn pc]] w (FofAns (ansL m o) (ansE m o) w) := by
  cases hfb : ofitsB m o with
  | true => exact (of16_yes ra ba oa ha pa rn rc bn bc on oc hn hc pn pc m o w hm ho hs hfb).mono fun _ _ h => fofSays_ans hfb h
  | false => exact (of16_no ra ba oa ha pa rn rc bn bc on oc hn hc pn pc m o w hm ho hs hfb).mono fun _ _ h => fofNo_ans hfb h

/-- 'make([]api.Why, 0, n)' -/
theorem mkWhysCap (c : Nat) (hc : c ≤ 1000000) (w : World) : (Instr.makeSlice 28 (.int .i64 0) (.int .i64 (c : Int))).run Tryd.prog w = .ok (.slice (some ⟨w.heap.size, 0, none⟩) 0 c) (w.alloc (.cells (pairVals (List.replicate c (0, 0))).toArray 38)) := by
  obtain ⟨i0, hi, hz0, hz1, hz2⟩ := info_parts infoWhy
  have h := run_make (P := Tryd.prog) w 28 38 i0 _ Tryd.underlying28 hi hz0 .i64 .i64 0 c (by omega) (by omega) (by rw [hz2]; omega) (by omega)
  rw [hz1] at h
  have e : madeCells (Value.agg #[.int .i64 0, .int .i64 0]).cells (c * 2) = (pairVals (List.replicate c (0, 0))).toArray := by
    rw [pairVals_zeros]
    apply Array.ext'
    exact made2 _
  rw [Int.toNat_natCast, e] at h
  exact h
theorem whysCap_own (c : Nat) (hc : c ≤ 1000000) (w : World) : OwnW (w.alloc (.cells (pairVals (List.replicate c (0, 0))).toArray 38)) w.heap.size (.slice (some ⟨w.heap.size, 0, none⟩) 0 c) [] :=
  ⟨rfl, .inr ⟨w.heap.size, c, (pairVals (List.replicate c (0, 0))).toArray, rfl, Nat.le_refl _, heap_alloc_new w _, Nat.zero_le _, by unfold maxLen; omega, by simp [pairVals_length], by simp [pairVals]⟩⟩
/-- 'append(make([]api.Why, 0, n), l...)' -/
theorem appWOnto {ops : Array Oper} {rest : List Oper} {o : Oper} {a : Act} {Q : Exit → Act → World → Prop} (w : World) (hgd : o.guard = none) (s x : Operand)
    (ho : o.op = .call { callee := .builtin .append, args := #[s, x], argTypes := #[28, 28] })
    (base zb zc : Nat) (hs : a.eval s = .slice (some ⟨zb, 0, none⟩) 0 zc) (hown : OwnW w base (.slice (some ⟨zb, 0, none⟩) 0 zc) []) (la : Option Addr) (ln lc : Nat) (l : List (Int × Int)) (hx : a.eval x = .slice la ln lc) (hl : Whys w la ln lc l) (hnil : la = none → ln = 0 ∧ lc = 0) (hlen : ln < 1000000) (hbase : base ≤ w.heap.size)
    (h : ∀ va c w', OwnW w' base (.slice va ln c) l → Below base w w' → wpList Tryd.prog ops Q rest (a.put o.dst (.slice va ln c)) w') : wpList Tryd.prog ops Q (o :: rest) a w := by
  obtain ⟨i0, hi, hz0, hz1, hz2⟩ := info_parts infoWhy
  have hll := hl.len
  cases la with
  | none =>
    obtain ⟨rfl, rfl⟩ := hnil rfl
    have hl0 : l = [] := List.eq_nil_of_length_eq_zero hll
    subst hl0
    exact wpList_append_own_none (P := Tryd.prog) (w := w) hgd s x _ ho base 38 i0 2 Tryd.underlying28 hi _ 0 [] hs hown hx (h _ _ w hown (Below.refl _ _))
  | some ad =>
    have hnews : ∀ j u, (pairVals l)[j]? = some u → w.cell? (ad.add j) = some u := by
      intro j u hu
      have hj := (List.getElem?_eq_some_iff.1 hu).1
      rw [pairVals_length] at hj
      obtain ⟨b, off, e⟩ := hl.addr (by omega)
      cases e
      have e1 : ∀ j, (Addr.mk b off none).add j = ⟨b, off + j, none⟩ := fun j => by
        unfold Addr.add; split
        · subst j; rfl
        · rfl
      rw [e1]
      have hk : j / 2 < l.length := by omega
      have hp : l[j / 2]? = some l[j / 2] := by simp
      have hc := hl.cell b off rfl (j / 2) _ hp
      have hg := pairVals_get hp
      rcases (by omega : j = j / 2 * 2 ∨ j = j / 2 * 2 + 1) with e | e
      · rw [e] at hu ⊢; rw [hg.1] at hu; cases hu; exact hc.1
      · rw [e] at hu ⊢
        rw [hg.2] at hu; cases hu
        rw [show off + (j / 2 * 2 + 1) = off + j / 2 * 2 + 1 by omega]
        exact hc.2
    refine wpList_append_own_at w hgd s x _ ho base 38 i0 _ 2 16 Tryd.underlying28 hi hz0 hz1 hz2 rfl (by decide) _ 0 [] hs hown ad ln lc (pairVals l) hx (by rw [pairVals_length, hll]) hnews ?_ ?_ ?_ hbase ?_
    · intro u hu
      clear hown hx hlen h hll hl hnews
      induction l with
      | nil => cases hu
      | cons p l ih =>
        simp only [pairVals, List.mem_cons] at hu
        rcases hu with rfl | rfl | hu
        · rfl
        · rfl
        · exact ih hu
    · unfold maxLen; omega
    · omega
    · intro v' w' hown' hg _ _
      have h' : OwnW w' base v' l := by
        unfold OwnW
        have := hown'
        simp only [Nat.zero_add, List.nil_append] at this
        rw [hll]
        exact this
      have hform : ∃ va c, v' = .slice va ln c := by
        rcases h'.2 with ⟨e, h0⟩ | ⟨g, cap, cur, e, _⟩
        · exact ⟨none, 0, by rw [e]; rw [hll] at h0; rw [h0]⟩
        · exact ⟨_, cap, by rw [e, hll]⟩
      obtain ⟨va, c, rfl⟩ := hform
      exact h va c w' h' ((Below.refl base w).grown hg hbase fun k hk => (World.ownsRow.lt hown k hk).1)
theorem OwnW.whys' {w : World} {base n c : Nat} {a : Option Addr} {l : List (Int × Int)} (h : OwnW w base (.slice a n c) l) (hn : l.length = n) (hbig : l.length ≤ 4611686018427387904) (hbd : ∀ p, p ∈ l → (-9223372036854775808 ≤ p.1 ∧ p.1 ≤ 9223372036854775807) ∧ -9223372036854775808 ≤ p.2 ∧ p.2 ≤ 9223372036854775807) : Whys w a n c l := by
  rcases h.2 with ⟨e, h0⟩ | ⟨g, cap, cur, e, _⟩
  · cases e
    have : l = [] := List.eq_nil_of_length_eq_zero h0
    subst this
    exact Whys.nil w
  · obtain ⟨e1, e2, e3⟩ := Value.slice.inj e
    subst e1; subst e2
    exact OwnW.whys h hbig hbd

/-- the twins of a market and an outcome, and where they are held -/
structure XAt (BX BY base1 s1 s2 g1 c1 B cB M g3 c3 : Nat) (vals : List Value) (gs : List Nat) (base2 h1 d1 h2 d2 rn bn on hn pn : Nat) (m : Mkt) (o : Outc) (wr : World) : Prop where
  vx : VRow wr BX 25 [.slice (some ⟨g1, 0, none⟩) rn c1, .slice (some ⟨B, 0, none⟩) bn cB, .slice (some ⟨g3, 0, none⟩) on c3]
  vy : VRow wr BY 27 [.slice (some ⟨h1, 0, none⟩) hn d1, .slice (some ⟨h2, 0, none⟩) pn d2]
  X : MktF wr base1 s1 s2 g1 c1 B cB M g3 c3 vals gs m
  Y : OutF wr base2 h1 d1 h2 d2 o
theorem XAt.step {BX BY base1 s1 s2 g1 c1 B cB M g3 c3 : Nat} {vals : List Value} {gs : List Nat} {base2 h1 d1 h2 d2 rn bn on hn pn : Nat} {m : Mkt} {o : Outc} {wr wr' : World} (h : XAt BX BY base1 s1 s2 g1 c1 B cB M g3 c3 vals gs base2 h1 d1 h2 d2 rn bn on hn pn m o wr) (hb : Below wr.heap.size wr wr') : XAt BX BY base1 s1 s2 g1 c1 B cB M g3 c3 vals gs base2 h1 d1 h2 d2 rn bn on hn pn m o wr' :=
  ⟨h.vx.stp hb, h.vy.stp hb, h.X.step hb, h.Y.step hb⟩
/-- the twins' lists lie apart -/
structure SAt (lo1 hi1 lo2 hi2 B bn : Nat) (sI sL sI2 rs : List Slc) (wr : World) : Prop where
  a : Seg 3 wr lo1 hi1 sI
  b : Seg 22 wr lo1 hi1 sL
  c : LiesAt wr hi1 (some ⟨B, 0, none⟩) bn rs
  d : Seg 3 wr lo2 hi2 sI2
  le1 : hi1 ≤ wr.heap.size
  le2 : hi2 ≤ wr.heap.size
theorem SAt.step {lo1 hi1 lo2 hi2 B bn : Nat} {sI sL sI2 rs : List Slc} {wr wr' : World} (h : SAt lo1 hi1 lo2 hi2 B bn sI sL sI2 rs wr) (hb : Below wr.heap.size wr wr') : SAt lo1 hi1 lo2 hi2 B bn sI sL sI2 rs wr' :=
  ⟨h.a.keep (hb.mono h.le1), h.b.keep (hb.mono h.le1), h.c.keep (hb.mono h.le1), h.d.keep (hb.mono h.le2), Nat.le_trans h.le1 hb.size, Nat.le_trans h.le2 hb.size⟩
end Go.Proofs.YtkddkkcfpnndlaaDoor

namespace Go.Proofs.YtkddkkcfpnndlaaDoor
open Go.RowKit Sale Tree

theorem MktAt.mbd {w : World} {ra ba oa : Option Addr} {rn rc bn bc on oc : Nat} {m : Mkt} (h : MktAt w ra ba oa rn rc bn bc on oc m) (h1 : rn ≤ 100000) (h2 : bn ≤ 100000) (h3 : on ≤ 100000) (hx : ∀ xs, xs ∈ m.bids → xs.length ≤ 100000) : MBd m := by
  have l1 := h.res.len
  have l2 := h.bids.len
  have l3 := h.ord.len
  refine ⟨⟨by omega, h.res.bd⟩, ⟨by omega, fun xs hxs => ⟨hx xs hxs, ?_⟩⟩, ⟨by omega, h.ord.bd⟩⟩
  obtain ⟨k, hk⟩ := List.getElem?_of_mem hxs
  have hkl := (List.getElem?_eq_some_iff.1 hk).1
  obtain ⟨b, o, e⟩ := h.bids.addr (by omega)
  obtain ⟨_, _, _, _, hi⟩ := h.bids.cell b o e k xs hk
  exact hi.bd

set_option maxRecDepth 100000 in
set_option maxHeartbeats 8000000 in
theorem forestsOf_any (ra ba oa ha pa la : Option Addr) (rn rc bn bc on oc hn hc pn pc ln lc : Nat) (m : Mkt) (o : Outc) (l : List (Int × Int)) (w : World) (hm : MktAt w ra ba oa rn rc bn bc on oc m) (ho : OutAt w ha pa hn hc pn pc o) (hl : Whys w la ln lc l) (hnil : la = none → ln = 0 ∧ lc = 0) (hs : Short rn bn on m)
    (h1 : hn ≤ 17592186044416) (h2 : pn ≤ 17592186044416) (h3 : ln ≤ 17592186044416) :
    Calls Tryd.prog 3 #[.agg #[.slice ra rn rc, .slice ba bn bc, .slice oa on oc], .agg #[.slice ha hn hc, .slice pa pn pc], .slice la ln lc] w fun e w' => e = .returned (.bool true) ∧ Below w.heap.size w w' := by
  have hv0 := WAt.new w hm ho
  obtain ⟨w1, hw1⟩ : ∃ w1, w1 = wa0 w ra ba oa ha pa rn rc bn bc on oc hn hc pn pc := ⟨_, rfl⟩
  rw [← hw1] at hv0
  have hw1' : (w.alloc (.cells #[.slice ra rn rc, .slice ba bn bc, .slice oa on oc] 25)).alloc (.cells #[.slice ha hn hc, .slice pa pn pc] 27) = w1 := hw1.symm
  clear hw1
  have hl0 := hl.below hv0.below (Nat.le_refl _)
  have hrl := hm.res.len
  have hbl := hm.bids.len
  have hol := hm.ord.len
  have hhl := ho.has.len
  have hpl := ho.prices.len
  have hll := hl.len
  clear hm ho hl
  have c0 := hv0.v1.cell (k := 0) rfl
  have c1 := hv0.v1.cell (k := 1) rfl
  have c2 := hv0.v1.cell (k := 2) rfl
  have HV0 := Lib.hid hv0; clear hv0
  have HL0 := Lib.hid hl0; clear hl0
  have HNIL := Lib.hid hnil; clear hnil
  have HS := Lib.hid hs; clear hs
  have HLEN := Lib.hid (And.intro hrl (And.intro hbl (And.intro hol (And.intro hhl (And.intro hpl hll))))); clear hrl hbl hol hhl hpl hll
  go_enter Tryd.func3, Tryd.ntmps3
  go_wp2_with fail
  try rw [hw1']
  clear hw1'
  refine (marketSize_any ra ba oa rn rc bn bc on oc m w1 HV0.out.mkt HS.out.r HS.out.b HS.out.o HS.out.x).mono ?_
  rintro e w2 ⟨s, rfl, hs1, hs2, hb⟩
  have HS2 := Lib.hid hs2; clear hs2
  have HV2 := Lib.hid (HV0.out.step hb)
  have HL2 := Lib.hid (HL0.out.below hb (Nat.le_refl _))
  clear hb HV0 HL0 c0 c1 c2
  obtain ⟨B1, hB1⟩ : ∃ B1, B1 = w.heap.size := ⟨_, rfl⟩
  obtain ⟨B2, hB2⟩ : ∃ B2, B2 = w.heap.size + 1 := ⟨_, rfl⟩
  have HV2' := Lib.hid (show WAt w B1 B2 ra ba oa ha pa rn rc bn bc on oc hn hc pn pc m o w2 by rw [hB1, hB2]; exact HV2.out)
  rw [← hB2, ← hB1]
  clear hB1 hB2 HV2
  have p0 := HV2'.out.v1.cell (k := 0) rfl
  have p1 := HV2'.out.v1.cell (k := 1) rfl
  have p2 := HV2'.out.v1.cell (k := 2) rfl
  have q0 := HV2'.out.v2.cell (k := 0) rfl
  have q1 := HV2'.out.v2.cell (k := 1) rfl
  obtain ⟨hs10, hs11⟩ := hs1
  by_cases g1 : 1000 < s
  · have e1 : decide (1000 < s) = true := by simpa using g1
    go_wp2_with fail
    refine (lives16_any w2).mono ?_
    rintro e w3 ⟨rfl, hb⟩
    have HV3 := Lib.hid (HV2'.out.step hb); clear hb
    go_wp2_with fail
    go_ret
    exact ⟨rfl, HV3.out.below⟩
  have e1 : decide (1000 < s) = false := by simpa using g1
  by_cases g2 : 1000 < (hn : Int) + pn + ln
  · have e2 : decide (1000 < (hn : Int) + pn + ln) = true := by simpa using g2
    go_wp2_with fail
    refine (lives16_any w2).mono ?_
    rintro e w3 ⟨rfl, hb⟩
    have HV3 := Lib.hid (HV2'.out.step hb); clear hb
    go_wp2_with fail
    go_ret
    exact ⟨rfl, HV3.out.below⟩
  have e2 : decide (1000 < (hn : Int) + pn + ln) = false := by simpa using g2
  obtain ⟨z1, z2, z3, z4⟩ := HS2.out (by omega)
  rw [HLEN.out.1] at z1
  rw [HLEN.out.2.1] at z2
  rw [HLEN.out.2.2.1] at z3
  have hmb := HV2'.out.mkt.mbd (by omega) (by omega) (by omega) (fun xs hx => by have := z4 xs hx; omega)
  have HMB := Lib.hid hmb; clear hmb
  have HZ4 := Lib.hid z4; clear z4
  have y1 : hn ≤ 1000 := by omega
  have y2 : pn ≤ 1000 := by omega
  have y3 : ln ≤ 1000 := by omega
  clear HS2
  go_wp2_with fail
  clear e1 e2 g1 g2 hs10 hs11
  refine (twinMarketF_any ra ba oa rn rc bn bc on oc m w2 HV2'.out.mkt (by omega) (by omega) (by omega) (fun xs hx => by have := HZ4.out xs hx; omega)).mono ?_
  rintro e w3 ⟨g1, x1, B, xB, M, g3, x3, s1, s2, vals, gs, rfl, hX, hb3⟩
  have HV3 := Lib.hid (HV2'.out.step hb3)
  have HL3 := Lib.hid (HL2.out.below hb3 (Nat.le_refl _))
  have hsz3 := hb3.size
  have HSX := Lib.hid (hX.seg HLEN.out.1 HLEN.out.2.1 HLEN.out.2.2.1)
  clear hb3 p0 p1 p2 q0 q1
  obtain ⟨w4, hw4⟩ : ∃ w4, w4 = w3.alloc (.cells #[.slice (some ⟨g1, 0, none⟩) rn x1, .slice (some ⟨B, 0, none⟩) bn xB, .slice (some ⟨g3, 0, none⟩) on x3] 25) := ⟨_, rfl⟩
  have hb4 : Below w3.heap.size w3 w4 := by rw [hw4]; exact (Below.refl _ _).alloc (Nat.le_refl _) _
  have hvx : VRow w4 w3.heap.size 25 [.slice (some ⟨g1, 0, none⟩) rn x1, .slice (some ⟨B, 0, none⟩) bn xB, .slice (some ⟨g3, 0, none⟩) on x3] := by rw [hw4]; exact heap_alloc_new w3 _
  have HV4 := Lib.hid (HV3.out.step hb4)
  have HL4 := Lib.hid (HL3.out.below hb4 (Nat.le_refl _))
  have HX4 := Lib.hid (hX.step hb4)
  have HVX := Lib.hid hvx
  have hlt4 := hvx.lt
  have HSX4 := Lib.hid (And.intro (HSX.out.1.keep hb4) (And.intro (HSX.out.2.1.keep hb4) (HSX.out.2.2.keep hb4)))
  clear HSX
  clear hX hvx hb4
  have q0 := HV4.out.v2.cell (k := 0) rfl
  have q1 := HV4.out.v2.cell (k := 1) rfl
  have hw4' := hw4.symm
  clear hw4
  go_wp2_with fail
  try rw [hw4']
  clear hw4'
  refine (twinOutcomeF_any ha pa hn hc pn pc o w4 HV4.out.out (by omega) (by omega)).mono ?_
  rintro e w5 ⟨h1', d1, h2', d2, rfl, hY, hb5⟩
  have HV5 := Lib.hid (HV4.out.step hb5)
  have HL5 := Lib.hid (HL4.out.below hb5 (Nat.le_refl _))
  have HX5 := Lib.hid (HX4.out.step hb5)
  have HVX5 := Lib.hid (HVX.out.stp hb5)
  have hsz5 := hb5.size
  have hSY := hY.seg HLEN.out.2.2.2.1 HLEN.out.2.2.2.2.1
  have hb5' := hb5.mono (Nat.le_of_lt hlt4)
  have HSA := Lib.hid (show SAt w2.heap.size w3.heap.size w4.heap.size w5.heap.size B bn _ _ _ _ w5 from ⟨HSX4.out.1.keep hb5', HSX4.out.2.1.keep hb5', HSX4.out.2.2.keep hb5', hSY, Nat.le_trans (Nat.le_of_lt hlt4) hsz5, Nat.le_refl _⟩)
  clear hSY hb5' HSX4
  clear hb5 HV3 HL3 HV4 HL4 HX4 HVX q0 q1
  obtain ⟨w6, hw6⟩ : ∃ w6, w6 = w5.alloc (.cells #[.slice (some ⟨h1', 0, none⟩) hn d1, .slice (some ⟨h2', 0, none⟩) pn d2] 27) := ⟨_, rfl⟩
  have hb6 : Below w5.heap.size w5 w6 := by rw [hw6]; exact (Below.refl _ _).alloc (Nat.le_refl _) _
  have hvy : VRow w6 w5.heap.size 27 [.slice (some ⟨h1', 0, none⟩) hn d1, .slice (some ⟨h2', 0, none⟩) pn d2] := by rw [hw6]; exact heap_alloc_new w5 _
  have HV6 := Lib.hid (HV5.out.step hb6)
  have HL6 := Lib.hid (HL5.out.below hb6 (Nat.le_refl _))
  have HX6 := Lib.hid (show XAt w3.heap.size w5.heap.size w2.heap.size s1 s2 g1 x1 B xB M g3 x3 vals gs w4.heap.size h1' d1 h2' d2 rn bn on hn pn m o w6 from ⟨HVX5.out.stp hb6, hvy, HX5.out.step hb6, hY.step hb6⟩)
  have hlt6 := hvy.lt
  have HSA6 := Lib.hid (HSA.out.step hb6); clear HSA
  clear hvy hY hb6 HV5 HL5 HX5 HVX5
  have hw6' := hw6.symm
  clear hw6
  have hmk := mkWhysCap (ln + 3) (by omega) w6
  rw [show (((ln + 3 : Nat)) : Int) = (ln : Int) + 3 by omega] at hmk
  have hzo := whysCap_own (ln + 3) (by omega) w6
  obtain ⟨w7, hw7⟩ : ∃ w7, w7 = w6.alloc (.cells (pairVals (List.replicate (ln + 3) (0, 0))).toArray 38) := ⟨_, rfl⟩
  rw [← hw7] at hmk hzo
  have hb7 : Below w6.heap.size w6 w7 := by rw [hw7]; exact (Below.refl _ _).alloc (Nat.le_refl _) _
  clear hw7
  have hsz7 := hb7.size
  have HB7 := Lib.hid hb7; clear hb7
  have HZO := Lib.hid hzo; clear hzo
  go_wp2_with (at_builtin; refine appWOnto _ rfl _ _ rfl w6.heap.size w6.heap.size (ln + 3) rfl HZO.out la ln lc l rfl (HL6.out.below HB7.out (Nat.le_refl _)) HNIL.out (by omega) hsz7 ?_)
  intro va zc w8 hZ hb8
  have hb68 : Below w6.heap.size w6 w8 := HB7.out.trans hb8
  have HV8 := Lib.hid (HV6.out.step hb68)
  have HL8 := Lib.hid (HL6.out.below hb68 (Nat.le_refl _))
  have HX8 := Lib.hid (HX6.out.step hb68)
  have HSA8 := Lib.hid (HSA6.out.step hb68)
  have HZ8 := Lib.hid (hZ.whys' HLEN.out.2.2.2.2.2 (by have := HLEN.out.2.2.2.2.2; omega) HL6.out.bd)
  clear hZ hb8 hb68 HV6 HL6 HX6 HSA6 HZO HB7 hmk hsz7
  have v0 := HX8.out.vx.cell (k := 0) rfl
  have v1 := HX8.out.vx.cell (k := 1) rfl
  have v2 := HX8.out.vx.cell (k := 2) rfl
  have y4 := HX8.out.vy.cell (k := 0) rfl
  have y5 := HX8.out.vy.cell (k := 1) rfl
  obtain ⟨BX, hBX⟩ : ∃ BX, BX = w3.heap.size := ⟨_, rfl⟩
  obtain ⟨BY, hBY⟩ : ∃ BY, BY = w5.heap.size := ⟨_, rfl⟩
  have HX8' := Lib.hid (show XAt BX BY w2.heap.size s1 s2 g1 x1 B xB M g3 x3 vals gs w4.heap.size h1' d1 h2' d2 rn bn on hn pn m o w8 by rw [hBX, hBY]; exact HX8.out)
  rw [← hBX] at v0 v1 v2 ⊢
  rw [← hBY] at y4 y5 ⊢
  have HBB := Lib.hid (And.intro hBX hBY); clear hBX hBY HX8
  obtain ⟨er, her⟩ : ∃ er, er = ansE m o := ⟨_, rfl⟩
  obtain ⟨al, hal⟩ : ∃ al, al = ansL m o := ⟨_, rfl⟩
  go_wp2_with fail
  refine (fof_ans (some ⟨g1, 0, none⟩) (some ⟨B, 0, none⟩) (some ⟨g3, 0, none⟩) (some ⟨h1', 0, none⟩) (some ⟨h2', 0, none⟩) rn x1 bn xB on x3 hn d1 pn d2 m o w8 (HX8'.out.X.mkt HMB.out HLEN.out.1 HLEN.out.2.1 HLEN.out.2.2.1) (HX8'.out.Y.out HLEN.out.2.2.2.1 HLEN.out.2.2.2.2.1 (by omega) (by omega) HV8.out.out.has.bd HV8.out.out.prices.bd)).mono ?_
  rw [← her, ← hal]
  rintro e w9 ⟨aa, an, ac, rfl, hA, hb9⟩
  have HV9 := Lib.hid (HV8.out.step hb9)
  have HL9 := Lib.hid (HL8.out.below hb9 (Nat.le_refl _))
  have HX9 := Lib.hid (HX8'.out.step hb9)
  have HSA9 := Lib.hid (HSA8.out.step hb9)
  have HZ9 := Lib.hid (HZ8.out.below hb9 (Nat.le_refl _))
  have HA9 := Lib.hid hA
  have han := hA.len
  clear hA hb9 HV8 HL8 HX8' HSA8 HZ8 v0 v1 v2 y4 y5
  have p0 := HV9.out.v1.cell (k := 0) rfl
  have p1 := HV9.out.v1.cell (k := 1) rfl
  have p2 := HV9.out.v1.cell (k := 2) rfl
  have q0 := HV9.out.v2.cell (k := 0) rfl
  have q1 := HV9.out.v2.cell (k := 1) rfl
  have HAN := Lib.hid han; clear han
  have HER := Lib.hid her; clear her
  have HAL := Lib.hid hal; clear hal
  go_wp2_with fail
  refine (of16_ans ra ba oa ha pa rn rc bn bc on oc hn hc pn pc m o w9 HV9.out.mkt HV9.out.out HS.out).mono ?_
  rw [← HER.out, ← HAL.out]
  rintro e w10 ⟨ba', bn', bc', rfl, hBb, hb10⟩
  obtain rfl : an = bn' := by rw [← HAN.out, hBb.len]
  have HV10 := Lib.hid (HV9.out.step hb10)
  have HL10 := Lib.hid (HL9.out.below hb10 (Nat.le_refl _))
  have HX10 := Lib.hid (HX9.out.step hb10)
  have HSA10 := Lib.hid (HSA9.out.step hb10)
  have HZ10 := Lib.hid (HZ9.out.below hb10 (Nat.le_refl _))
  have HA10 := Lib.hid (HA9.out.below hb10 (Nat.le_refl _))
  have HB10 := Lib.hid hBb
  clear hBb hb10 HV9 HL9 HX9 HSA9 HZ9 HA9 p0 p1 p2 q0 q1
  have hbd : Below w10.heap.size w10 w10.drew := (Below.refl _ _).drew
  have hne' : Nonempty (Kept (Below w10.heap.size w10)) := ⟨⟨_, hbd⟩⟩
  have k0 : ∀ z : Kept (Below w10.heap.size w10), z.w.cell? ⟨B1, 0, none⟩ = some (.slice ra rn rc) := fun z => cell_step z.h (HV10.out.v1.cell (k := 0) rfl)
  have k1 : ∀ z : Kept (Below w10.heap.size w10), z.w.cell? ⟨B1, 1, none⟩ = some (.slice ba bn bc) := fun z => cell_step z.h (HV10.out.v1.cell (k := 1) rfl)
  have k2 : ∀ z : Kept (Below w10.heap.size w10), z.w.cell? ⟨B1, 2, none⟩ = some (.slice oa on oc) := fun z => cell_step z.h (HV10.out.v1.cell (k := 2) rfl)
  have k3 : ∀ z : Kept (Below w10.heap.size w10), z.w.cell? ⟨B2, 0, none⟩ = some (.slice ha hn hc) := fun z => cell_step z.h (HV10.out.v2.cell (k := 0) rfl)
  have k4 : ∀ z : Kept (Below w10.heap.size w10), z.w.cell? ⟨B2, 1, none⟩ = some (.slice pa pn pc) := fun z => cell_step z.h (HV10.out.v2.cell (k := 1) rfl)
  have k5 : ∀ z : Kept (Below w10.heap.size w10), z.w.cell? ⟨BX, 0, none⟩ = some (.slice (some ⟨g1, 0, none⟩) rn x1) := fun z => cell_step z.h (HX10.out.vx.cell (k := 0) rfl)
  have k6 : ∀ z : Kept (Below w10.heap.size w10), z.w.cell? ⟨BX, 1, none⟩ = some (.slice (some ⟨B, 0, none⟩) bn xB) := fun z => cell_step z.h (HX10.out.vx.cell (k := 1) rfl)
  have k7 : ∀ z : Kept (Below w10.heap.size w10), z.w.cell? ⟨BX, 2, none⟩ = some (.slice (some ⟨g3, 0, none⟩) on x3) := fun z => cell_step z.h (HX10.out.vx.cell (k := 2) rfl)
  have k8 : ∀ z : Kept (Below w10.heap.size w10), z.w.cell? ⟨BY, 0, none⟩ = some (.slice (some ⟨h1', 0, none⟩) hn d1) := fun z => cell_step z.h (HX10.out.vy.cell (k := 0) rfl)
  have k9 : ∀ z : Kept (Below w10.heap.size w10), z.w.cell? ⟨BY, 1, none⟩ = some (.slice (some ⟨h2', 0, none⟩) pn d2) := fun z => cell_step z.h (HX10.out.vy.cell (k := 1) rfl)
  obtain ⟨cb, hcb⟩ : ∃ cb, checkB m o l = cb := ⟨_, rfl⟩
  have hC1 : ∀ z : Kept (Below w10.heap.size w10), Calls Tryd.prog 10 #[.agg #[.slice (some ⟨g1, 0, none⟩) rn x1, .slice (some ⟨B, 0, none⟩) bn xB, .slice (some ⟨g3, 0, none⟩) on x3], .agg #[.slice (some ⟨h1', 0, none⟩) hn d1, .slice (some ⟨h2', 0, none⟩) pn d2], .slice va ln zc] z.w fun e w' => e = .returned (.bool cb) ∧ ∃ y : Kept (Below w10.heap.size w10), w' = y.w := fun z =>
    Kept.call ((fcheck_any _ _ _ _ _ _ _ _ _ _ _ _ _ _ _ _ _ _ m o l z.w ((HX10.out.X.below z.h (Nat.le_refl _)).mkt HMB.out HLEN.out.1 HLEN.out.2.1 HLEN.out.2.2.1) ((HX10.out.Y.below z.h (Nat.le_refl _)).out HLEN.out.2.2.2.1 HLEN.out.2.2.2.2.1 (by omega) (by omega) HV10.out.out.has.bd HV10.out.out.prices.bd) (HZ10.out.below z.h (Nat.le_refl _))).mono fun _ _ ⟨a1, a2⟩ => ⟨by rw [a1, hcb], z.h.trans (a2.mono z.h.size)⟩)
  have hC2 : ∀ z : Kept (Below w10.heap.size w10), Calls Tryd.prog 11 #[.agg #[.slice ra rn rc, .slice ba bn bc, .slice oa on oc], .agg #[.slice ha hn hc, .slice pa pn pc], .slice la ln lc] z.w fun e w' => e = .returned (.bool cb) ∧ ∃ y : Kept (Below w10.heap.size w10), w' = y.w := fun z =>
    Kept.call ((check16_any _ _ _ _ _ _ _ _ _ _ _ _ _ _ _ _ _ _ m o l z.w (HV10.out.mkt.below z.h (Nat.le_refl _)) (HV10.out.out.below z.h (Nat.le_refl _)) (HL10.out.below z.h (Nat.le_refl _)) HS.out).mono fun _ _ ⟨a1, a2⟩ => ⟨by rw [a1, hcb], z.h.trans (a2.mono z.h.size)⟩)
  have HC1 := Lib.hid hC1; clear hC1
  have HC2 := Lib.hid hC2; clear hC2 hcb
  go_wp2_with fail
  refine wp_region_kept (Below w10.heap.size w10) (by kernel_rfl) (by kernel_rfl) hbd ?_
  repeat (go_big_quiet_step (first | (go_at_call 10; with_reducible exact HC1.out _) | (go_at_call 11; with_reducible exact HC2.out _)))
  refine wpQuiet_nil ?_
  intro w11 hw'
  obtain ⟨⟨wz, hb11⟩, hwz⟩ := hw'
  obtain rfl : w11 = wz := hwz
  clear k0 k1 k2 k3 k4 k5 k6 k7 k8 k9 hne' hbd HC1 HC2
  have HV11 := Lib.hid (HV10.out.step hb11)
  have HL11 := Lib.hid (HL10.out.below hb11 (Nat.le_refl _))
  have HX11 := Lib.hid (HX10.out.step hb11)
  have HSA11 := Lib.hid (HSA10.out.step hb11)
  have HZ11 := Lib.hid (HZ10.out.below hb11 (Nat.le_refl _))
  have HA11 := Lib.hid (HA10.out.below hb11 (Nat.le_refl _))
  have HB11 := Lib.hid (HB10.out.below hb11 (Nat.le_refl _))
  have hbig := HA11.out.big
  clear hb11 HV10 HL10 HX10 HSA10 HZ10 HA10 HB10
  go_wp2_with fail
  go_loopg [14] an (fun g' s14 wr => ∃ j : Nat, j + g' = an ∧ s14 = .int .i64 j ∧ Below w11.heap.size w11 wr)
  case atStart => exact ⟨0, by omega, rfl, Below.refl _ _⟩
  case round =>
  obtain ⟨j, hj, rfl, hB⟩ := hrel
  have HJ := Lib.hid hj; clear hj
  by_cases hlt : j < an
  · obtain ⟨p, hp⟩ := HA11.out.get hlt
    obtain ⟨ab, ao, e1⟩ := HA11.out.addr (by omega)
    subst e1
    obtain ⟨bb, bo, e2⟩ := HB11.out.addr (by omega)
    subst e2
    have ca := (HA11.out.below hB (Nat.le_refl _)).cell ab ao rfl j p hp
    have cb' := (HB11.out.below hB (Nat.le_refl _)).cell bb bo rfl j p hp
    obtain ⟨ca1, ca2⟩ := ca
    obtain ⟨cb1, cb2⟩ := cb'
    obtain ⟨px, py⟩ := p
    have HB := Lib.hid hB; clear hB hp
    have i1 : (j : Int) < (an : Int) := by omega
    go_wp2_with fail
    go_quiet (fail)
    go_wp2_with fail
    go_roundg (gk - 1)
    case measure => have := HJ.out; omega
    case rel => exact ⟨j + 1, by have := HJ.out; omega, by go_num, below_drewN HB.out _⟩
  obtain rfl : j = an := by have := HJ.out; omega
  obtain ⟨w12, rfl⟩ : ∃ w12, w12 = wr := ⟨_, rfl⟩
  have HV12 := Lib.hid (HV11.out.step hB)
  have HX12 := Lib.hid (HX11.out.step hB)
  have HSA12 := Lib.hid (HSA11.out.step hB)
  have HL12 := Lib.hid (HL11.out.below hB (Nat.le_refl _))
  have HZ12 := Lib.hid (HZ11.out.below hB (Nat.le_refl _))
  clear hB HV11 HX11 HSA11 HL11 HZ11 HA11 HB11
  go_wp2_with fail
  go_loopg [15] ln (fun g' s15 wr => ∃ j : Nat, j + g' = ln ∧ s15 = .int .i64 j ∧ Below w12.heap.size w12 wr)
  case atStart => exact ⟨0, by omega, rfl, Below.refl _ _⟩
  case round =>
  obtain ⟨j, hj, rfl, hB⟩ := hrel
  have HJ := Lib.hid hj; clear hj
  by_cases hlt : j < ln
  · obtain ⟨p, hp⟩ := HL12.out.get hlt
    obtain ⟨ab, ao, e1⟩ := HL12.out.addr (by omega)
    subst e1
    obtain ⟨bb, bo, e2⟩ := HZ12.out.addr (by omega)
    subst e2
    have ca := (HL12.out.below hB (Nat.le_refl _)).cell ab ao rfl j p hp
    have cb' := (HZ12.out.below hB (Nat.le_refl _)).cell bb bo rfl j p hp
    obtain ⟨ca1, ca2⟩ := ca
    obtain ⟨cb1, cb2⟩ := cb'
    obtain ⟨px, py⟩ := p
    have HB := Lib.hid hB; clear hB hp
    have i1 : (j : Int) < (ln : Int) := by omega
    go_wp2_with fail
    go_quiet (fail)
    go_wp2_with fail
    go_roundg (gk - 1)
    case measure => have := HJ.out; omega
    case rel => exact ⟨j + 1, by have := HJ.out; omega, by go_num, below_drewN HB.out _⟩
  obtain rfl : j = ln := by have := HJ.out; omega
  obtain ⟨w13, rfl⟩ : ∃ w13, w13 = wr := ⟨_, rfl⟩
  have HV13 := Lib.hid (HV12.out.step hB)
  have HX13 := Lib.hid (HX12.out.step hB)
  have HSA13 := Lib.hid (HSA12.out.step hB)
  clear hB HV12 HX12 HSA12 HL12 HZ12
  have hbk := BookHas.new w13
  obtain ⟨w14, hw14⟩ : ∃ w14, w14 = w13.alloc (.cells #[.int .i64 0, .slice none 0 0, .slice none 0 0, .slice none 0 0, .slice none 0 0, .slice none 0 0, .slice none 0 0, .slice none 0 0, .slice none 0 0, .slice none 0 0] 49) := ⟨_, rfl⟩
  rw [← hw14] at hbk
  have hb14 : Below w13.heap.size w13 w14 := by rw [hw14]; exact (Below.refl _ _).alloc (Nat.le_refl _) _
  have HV14 := Lib.hid (HV13.out.step hb14)
  have HX14 := Lib.hid (HX13.out.step hb14)
  have HSA14 := Lib.hid (HSA13.out.step hb14)
  have HK14 := Lib.hid hbk
  obtain ⟨Bk, hBk⟩ : ∃ Bk, Bk = w13.heap.size := ⟨_, rfl⟩
  rw [← hBk] at HK14
  have HB14 := Lib.hid hb14
  clear hbk hb14
  have hw14' := hw14.symm
  clear hw14
  have v0 := HX14.out.vx.cell (k := 0) rfl
  have v1 := HX14.out.vx.cell (k := 1) rfl
  have v2 := HX14.out.vx.cell (k := 2) rfl
  have HBK := Lib.hid hBk
  have hli : LiesAt w14 Bk (some ⟨B, 0, none⟩) bn (vals.map toSlc) := by
    have h := HSA14.out.c
    have hle := HSA13.out.le1
    refine ⟨h.1, fun hp => ?_⟩
    obtain ⟨b, o', e, hlt', hc'⟩ := h.2 hp
    exact ⟨b, o', e, by rw [HBK.out]; omega, hc'⟩
  have HLI := Lib.hid hli; clear hli
  go_wp2_with fail
  try rw [hw14']
  try rw [← hBk]
  clear hw14' hBk
  refine (bMarket_any Bk 0 (some ⟨g1, 0, none⟩) (some ⟨B, 0, none⟩) (some ⟨g3, 0, none⟩) rn x1 bn xB on x3 (vals.map toSlc) [] [] [] w14 HK14.out HLI.out (by omega)).mono ?_
  rintro e w15 ⟨⟨v, rfl⟩, hk15, hf15⟩
  have hb15 : Below w13.heap.size w13 w15 := HB14.out.trans (by rw [← HBK.out]; exact hf15.low)
  have HV15 := Lib.hid (HV13.out.step hb15)
  have HX15 := Lib.hid (HX13.out.step hb15)
  have HK15 := Lib.hid hk15
  have HB15 := Lib.hid hb15
  clear hk15 hf15 hb15 v0 v1 v2 HV14 HX14 HSA14 HK14 HLI
  have y4 := HX15.out.vy.cell (k := 0) rfl
  have y5 := HX15.out.vy.cell (k := 1) rfl
  go_wp2_with fail
  refine (bOutcome_any Bk (0 + bn + 3) (some ⟨h1', 0, none⟩) (some ⟨h2', 0, none⟩) hn d1 pn d2 _ _ _ w15 HK15.out (by omega)).mono ?_
  rintro e w16 ⟨⟨v, rfl⟩, hk16, hf16⟩
  have hb16 : Below w13.heap.size w13 w16 := HB15.out.trans (by rw [← HBK.out]; exact hf16.low)
  have HV16 := Lib.hid (HV13.out.step hb16)
  have HX16 := Lib.hid (HX13.out.step hb16)
  have HSA16 := Lib.hid (HSA13.out.step hb16)
  have HK16 := Lib.hid hk16
  have hle5 := HSA13.out.le2
  have hsz13 := HV13.out.below.size
  clear hk16 hf16 hb16 y4 y5 HV15 HX15 HK15 HB15 HB14
  have v0 := HX16.out.vx.cell (k := 0) rfl
  have v1 := HX16.out.vx.cell (k := 1) rfl
  have v2 := HX16.out.vx.cell (k := 2) rfl
  have p0 := HV16.out.v1.cell (k := 0) rfl
  have p1 := HV16.out.v1.cell (k := 1) rfl
  have p2 := HV16.out.v1.cell (k := 2) rfl
  go_wp2_with fail
  refine (leftMarket_any w2.heap.size s1 s2 g1 x1 B xB M g3 x3 vals gs ra ba oa rn rc bn bc on oc m w16 HX16.out.X HV16.out.mkt (by omega) (by omega) (by omega) (fun xs hx => by have := HZ4.out xs hx; omega)).mono ?_
  rintro e w17 ⟨rfl, hb17⟩
  have HV17 := Lib.hid (HV16.out.step hb17)
  have HX17 := Lib.hid (HX16.out.step hb17)
  have HSA17 := Lib.hid (HSA16.out.step hb17)
  have HK17 := Lib.hid (HK16.out.step hb17)
  clear hb17 v0 v1 v2 p0 p1 p2 HV16 HX16 HSA16 HK16
  have y4 := HX17.out.vy.cell (k := 0) rfl
  have y5 := HX17.out.vy.cell (k := 1) rfl
  have q0 := HV17.out.v2.cell (k := 0) rfl
  have q1 := HV17.out.v2.cell (k := 1) rfl
  go_wp2_with fail
  refine (leftOutcome_any w4.heap.size h1' d1 h2' d2 ha pa hn hc pn pc o w17 HX17.out.Y HV17.out.out (by omega) (by omega)).mono ?_
  rintro e w18 ⟨rfl, hb18⟩
  have HV18 := Lib.hid (HV17.out.step hb18)
  have HX18 := Lib.hid (HX17.out.step hb18)
  have HSA18 := Lib.hid (HSA17.out.step hb18)
  have HK18 := Lib.hid (HK17.out.step hb18)
  clear hb18 y4 y5 q0 q1 HV17 HX17 HSA17 HK17
  have hww2 := HV2'.out.below.size
  have hseg1 := (HSA18.out.a.wide (Nat.le_refl _) (Nat.le_of_lt hlt4)).append HSA18.out.d (by omega) hsz5
  have hseg2 := hseg1.wide (lo' := w.heap.size) (hi' := Bk) (by omega) (by rw [HBK.out]; exact hle5)
  have hseg3 := HSA18.out.b.wide (lo' := w.heap.size) (hi' := Bk) (by omega) (by rw [HBK.out]; omega)
  have HS2' := Lib.hid hseg2; clear hseg1 hseg2
  have HS3' := Lib.hid hseg3; clear hseg3
  have hlo : w.heap.size ≤ Bk := by rw [HBK.out]; exact hsz13
  go_wp2_with fail
  refine (apart_any Bk (0 + bn + 3 + 2) w.heap.size _ _ _ w18 HK18.out (by omega) hlo (Seg.nil _ _ _ _) (by simpa using HS2'.out) (by simpa using HS3'.out) ?_).mono ?_
  · intro x hx
    have hrs := toSlc_len HX18.out.X.rows (K := 1000) (fun xs hx => HZ4.out xs hx)
    simp only [List.nil_append, List.mem_append, List.mem_cons, List.not_mem_nil, or_false, false_or] at hx
    rcases hx with (((rfl | hx) | rfl) | rfl | rfl) | rfl
    all_goals first | (have := hrs x hx; omega) | (show _ ≤ 900000; simp only []; omega)
  rintro e w19 ⟨rfl, hb19⟩
  have HB19 := Lib.hid (HV18.out.below.trans hb19); clear hb19
  go_wp2_with fail
  refine (lives16_any w19).mono ?_
  rintro e w20 ⟨rfl, hb20⟩
  have HB20 := Lib.hid (HB19.out.trans (hb20.mono HB19.out.size)); clear hb20
  go_wp2_with fail
  go_ret
  exact ⟨rfl, HB20.out⟩
end Go.Proofs.YtkddkkcfpnndlaaDoor
