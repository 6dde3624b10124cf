/- Another order: plain words for the law OutcomesFirst. Walks: the law OutcomesFirst. -/
import Derived.Test.YtbnjeegicbffeaaGreatG46
import Derived.Test.YtbnjeegicbffeaaGreatG22
import Derived.BigRegion
/- Another order: plain words for the law OutcomesFirst. -/
namespace Go.Proofs.YtbnjeegicbffeaaGreat
open Go.RowKit Sale

/-- the first j of an order's places are turned -/
def rotTo (l : List Int) (t j : Nat) : List Int := (List.range l.length).map fun k => if k < j then l.getD ((k + t) % l.length) 0 else l.getD k 0
theorem rotTo_length (l : List Int) (t j : Nat) : (rotTo l t j).length = l.length := by simp [rotTo]
theorem rotTo_get {l : List Int} {t j k : Nat} (hk : k < l.length) : (rotTo l t j)[k]? = some (if k < j then l.getD ((k + t) % l.length) 0 else l.getD k 0) := by simp [rotTo, hk]
theorem rotTo_out {l : List Int} {t j k : Nat} (hk : ¬ k < l.length) : (rotTo l t j)[k]? = none := List.getElem?_eq_none (by rw [rotTo_length]; omega)
theorem rotTo_zero (l : List Int) (t : Nat) : rotTo l t 0 = l := by
  apply List.ext_getElem?
  intro k
  by_cases hk : k < l.length
  · rw [rotTo_get hk, if_neg (by omega), getD_some hk 0]
  · rw [rotTo_out hk, List.getElem?_eq_none (by omega)]
theorem rotTo_set {l : List Int} {t j : Nat} {v : Int} (hv : l[(j + t) % l.length]? = some v) : (rotTo l t j).set j v = rotTo l t (j + 1) := by
  apply List.ext_getElem?
  intro k
  rw [List.getElem?_set]
  by_cases hk : k < l.length
  · rw [rotTo_get hk, rotTo_get hk, rotTo_length]
    by_cases e : j = k
    · subst e
      rw [if_pos rfl, if_pos hk, if_pos (by omega), getD_at hv]
    · rw [if_neg e]
      by_cases h : k < j
      · simp [h, show k < j + 1 by omega]
      · simp [h, show ¬ k < j + 1 by omega]
  · rw [rotTo_out hk, rotTo_out hk, rotTo_length]
    by_cases e : j = k
    · rw [if_pos e, if_neg (by omega)]
    · rw [if_neg e]
theorem mod_two {a n : Nat} (h : a < 2 * n) (_hn : 0 < n) : a % n = if a < n then a else a - n := by
  split
  · exact Nat.mod_eq_of_lt ‹_›
  · rw [Nat.mod_eq_sub_mod (by omega), Nat.mod_eq_of_lt (by omega)]
theorem rotTo_full (l : List Int) (t : Nat) : rotTo l t l.length = l.drop (t % l.length) ++ l.take (t % l.length) := by
  rcases Nat.eq_zero_or_pos l.length with h0 | h0
  · have : l = [] := List.eq_nil_of_length_eq_zero h0
    subst this; simp [rotTo]
  · have ht := Nat.mod_lt t h0
    apply List.ext_getElem?
    intro k
    by_cases hk : k < l.length
    · rw [rotTo_get hk, if_pos hk, show (k + t) % l.length = (k + t % l.length) % l.length by rw [Nat.add_mod]; simp]
      rw [mod_two (by omega) h0, List.getElem?_append, List.length_drop]
      by_cases h : k + t % l.length < l.length
      · rw [if_pos h, if_pos (by omega), List.getElem?_drop, Nat.add_comm k, getD_some (by omega) 0]
      · rw [if_neg h, if_neg (by omega), List.getElem?_take_of_lt (by omega), ← getD_some (by omega) 0]
        congr 1; omega
    · rw [rotTo_out hk, List.getElem?_eq_none (by simp; omega)]
theorem rotTo_perm (l : List Int) (t : Nat) : (rotTo l t l.length).Perm l := by
  rw [rotTo_full]
  exact (List.perm_append_comm).trans (by rw [List.take_append_drop])

def rotM (m : Mkt) (t : Nat) : Mkt := { m with ord := rotTo m.ord t m.ord.length }
theorem rotM_ok {m : Mkt} (h : MOk m) (t : Nat) : MOk (rotM m t) := by
  refine ⟨h.n1, h.n8, h.m1, h.m8, h.res, h.bid, ?_⟩
  have hord := h.ord
  unfold isOrd at hord ⊢
  rw [List.isPerm_iff] at hord ⊢
  exact (rotTo_perm m.ord t).trans hord
theorem rotM_least (m : Mkt) (t : Nat) : leastM (rotM m t) = leastM m := leastM_ord m.res m.bids (rotTo m.ord t m.ord.length) m.ord

/-- what one has by an item, or by none -/
def valAt (m : Mkt) (i : Nat) (x : Int) : Int := if x < 0 then 0 else bidAt m i x.toNat - (leastM m).getD x.toNat 0
theorem sur_val {m : Mkt} (hm : MOk m) {l : List Int} {i : Nat} {x : Int} (hi : i < m.bids.length) (hne : m.bids.getD i [] ≠ []) (h : l[i]? = some x) (hx : -1 ≤ x ∧ x < (m.res.length : Int)) :
    sur (gi (gainsM m)) (qOf m (leastM m)) (slotOf l) i = valAt m i x := by
  have hs := slot_of h
  unfold valAt
  by_cases e : x = -1
  · rw [if_pos e] at hs
    rw [sur_none hs, if_pos (by omega)]
  · rw [if_neg e] at hs
    rw [sur_some hs, if_neg (by omega), gain_at hm (leastM m) hi (by omega), if_neg hne]
theorem has_bd {m : Mkt} (hm : MOk m) {i : Nat} {x : Int} (h : (hasM m)[i]? = some x) : -1 ≤ x ∧ x < (m.res.length : Int) := by
  have h1 := hasM_ge m x (List.mem_of_getElem? h)
  by_cases e : x = -1
  · have := hm.n1; omega
  · obtain ⟨k, rfl, hk, _⟩ := hm.item h e
    omega
theorem val_eq {m : Mkt} (hc : mcheck m = true) (t : Nat) {i : Nat} (hi : i < m.bids.length) (hne : m.bids.getD i [] ≠ []) {x1 x2 : Int} (h1 : (hasM m)[i]? = some x1) (h2 : (hasM (rotM m t))[i]? = some x2) : valAt m i x1 = valAt m i x2 := by
  have hm := mcheck_ok hc
  have hr := rotM_ok hm t
  have h := sur_ord (r := m.res) (b := m.bids) (o := m.ord) (o' := rotTo m.ord t m.ord.length) hc (mcheck_of hr) hi
  rw [← sur_val hm hi hne h1 (has_bd hm h1), ← sur_val hm hi hne h2 (has_bd hr h2)]
  exact h
theorem first_eq {m : Mkt} (hc : mcheck m = true) (t : Nat) {who : Nat} (hw : (rotM m t).ord[0]? = some (who : Int)) {x1 x2 : Int} (h1 : (hasM m)[who]? = some x1) (h2 : (hasM (rotM m t))[who]? = some x2) (hx : x1 ≠ -1) : x2 ≠ -1 ∧ x2 ≤ x1 := by
  have hm := mcheck_ok hc
  have hr := rotM_ok hm t
  have b1 := has_bd hm h1
  have b2 := has_bd hr h2
  have hs1 := slot_of h1
  have hs2 := slot_of h2
  rw [if_neg hx] at hs1
  obtain ⟨k', e, hk⟩ := first_ord (r := m.res) (b := m.bids) (o := m.ord) (o' := rotTo m.ord t m.ord.length) hc (mcheck_of hr) hw x1.toNat hs1
  have e' : slotOf (hasM (rotM m t)) who = some k' := e
  rw [hs2] at e'
  by_cases ex : x2 = -1
  · rw [if_pos ex] at e'; cases e'
  · rw [if_neg ex] at e'
    have := Option.some.inj e'
    exact ⟨ex, by omega⟩
theorem rot_who {m : Mkt} (hm : MOk m) (t : Nat) : ∃ who : Nat, (rotM m t).ord[0]? = some (who : Int) ∧ who < m.bids.length := by
  have hr := rotM_ok hm t
  obtain ⟨on, e, hp⟩ := hr.order
  have hl : 0 < on.length := by rw [hp.length_eq]; simp; exact hm.m1
  refine ⟨on[0], by rw [e]; simp [hl], ?_⟩
  have := List.mem_range.1 (hp.mem_iff.1 (List.getElem_mem hl))
  exact this

theorem TwinMkt.pokeOrd {w : World} {base s1 s2 g1 B g3 : Nat} {vals : List Value} {gs : List Nat} {m : Mkt} (h : TwinMkt w base s1 s2 g1 B g3 vals gs m) (k : Nat) (v : Int) : TwinMkt (w.setCell ⟨g3, k, none⟩ (.int .i64 v)) base s1 s2 g1 B g3 vals gs { m with ord := m.ord.set k v } :=
  ⟨Tab.other h.res (by have := h.l1; have := h.bB; have := h.lB; have := h.l3; simp; omega) _, h.tab.other (by have := h.lB; have := h.l3; simp; omega) _, h.vlen, h.rows.other (fun hm => by have h1 := h.lg _ hm; have h2 := h.l3; simp only at h1; omega) _, TabI.set h.ord k v, h.b1, h.l1, h.bB, h.lB, h.lg, h.l3⟩
end Go.Proofs.YtbnjeegicbffeaaGreat

/- Walks: the law OutcomesFirst. -/
namespace Go.Proofs.YtbnjeegicbffeaaGreat
open Go.RowKit Sale

/-- the twin whose order is turned, in its box -/
structure RotAt (w1 : World) (Bx s1 s2 g1 B g3 rn c1 bn cB on c3 : Nat) (vals : List Value) (gs : List Nat) (m : Mkt) (wr : World) : Prop where
  bx : VRow wr Bx 28 [.slice (some ⟨g1, 0, none⟩) rn c1, .slice (some ⟨B, 0, none⟩) bn cB, .slice (some ⟨g3, 0, none⟩) on c3]
  x : TwinMkt wr w1.heap.size s1 s2 g1 B g3 vals gs m
  g3x : g3 < Bx
  below : Below w1.heap.size w1 wr
theorem RotAt.poke {w1 : World} {Bx s1 s2 g1 B g3 rn c1 bn cB on c3 : Nat} {vals : List Value} {gs : List Nat} {m : Mkt} {wr : World} (h : RotAt w1 Bx s1 s2 g1 B g3 rn c1 bn cB on c3 vals gs m wr) (k : Nat) (v : Int) :
    RotAt w1 Bx s1 s2 g1 B g3 rn c1 bn cB on c3 vals gs { m with ord := m.ord.set k v } (wr.setCell ⟨g3, k, none⟩ (.int .i64 v)) := by
  have a1 := h.x.b1
  have a2 := h.x.l1
  have a3 := h.x.bB
  have a4 := h.x.lB
  have a5 := h.x.l3
  have a6 := h.g3x
  exact ⟨vrow_far h.bx (by simp; omega) _, h.x.pokeOrd k v, h.g3x, h.below.setCell (by simp; omega) _⟩
theorem RotAt.drew {w1 : World} {Bx s1 s2 g1 B g3 rn c1 bn cB on c3 : Nat} {vals : List Value} {gs : List Nat} {m : Mkt} {wr : World} (h : RotAt w1 Bx s1 s2 g1 B g3 rn c1 bn cB on c3 vals gs m wr) : RotAt w1 Bx s1 s2 g1 B g3 rn c1 bn cB on c3 vals gs m wr.drew :=
  ⟨h.bx.drew, h.x.below ((Below.refl _ _).drew) (Nat.le_refl _), h.g3x, h.below.drew⟩
/-- all three, in their boxes -/
structure FirstAt (w : World) (Bm Bo Bp Bx : Nat) (ra ba oa ha pa ha' pa' xa ya za : Option Addr) (rn rc bn bc oc hc hc' c1 cB c3 : Nat) (m m' : Mkt) (o p : Outc) (wr : World) : Prop where
  m : BoxM Bm ra ba oa rn rc bn bc bn oc m wr
  o : BoxO Bo ha pa bn hc rn rn o wr
  p : BoxO Bp ha' pa' bn hc' rn rn p wr
  x : BoxM Bx xa ya za rn c1 bn cB bn c3 m' wr
  below : Below w.heap.size w wr
theorem FirstAt.step {w : World} {Bm Bo Bp Bx : Nat} {ra ba oa ha pa ha' pa' xa ya za : Option Addr} {rn rc bn bc oc hc hc' c1 cB c3 : Nat} {m m' : Mkt} {o p : Outc} {wr wr' : World} (h : FirstAt w Bm Bo Bp Bx ra ba oa ha pa ha' pa' xa ya za rn rc bn bc oc hc hc' c1 cB c3 m m' o p wr) (hb : Below wr.heap.size wr wr') :
    FirstAt w Bm Bo Bp Bx ra ba oa ha pa ha' pa' xa ya za rn rc bn bc oc hc hc' c1 cB c3 m m' o p wr' := ⟨h.m.step hb, h.o.step hb, h.p.step hb, h.x.step hb, h.below.trans (hb.mono h.below.size)⟩

set_option maxRecDepth 100000 in
set_option maxHeartbeats 1000000 in
theorem outcomesFirst_any (ra ba oa : Option Addr) (rn rc bn bc on oc : Nat) (m : Mkt) (bd : Nat) (w : World) (hm : MktAt w ra ba oa rn rc bn bc on oc m) (hbd : bd < 256) :
    Calls Tryz.prog 7 #[.agg #[.slice ra rn rc, .slice ba bn bc, .slice oa on oc], .int .u8 (bd : Int)] w fun e w' => e = .returned (.bool true) ∧ Below w.heap.size w w' := by
  have hb0 : Below w.heap.size w (mw w ra ba oa rn rc bn bc on oc) := (Below.refl _ _).alloc (Nat.le_refl _) _
  have hm0 : BoxM w.heap.size ra ba oa rn rc bn bc on oc m (mw w ra ba oa rn rc bn bc on oc) := ⟨VRow.new w _ _, hm.below hb0 (Nat.le_refl _)⟩
  have hrl := hm.res.len
  have hbl := hm.bids.len
  have hol := hm.ord.len
  have k0 := hm0.row.cell (k := 0) rfl
  have k1 := hm0.row.cell (k := 1) rfl
  have k2 := hm0.row.cell (k := 2) rfl
  by_cases hc : mcheck m = true
  · have hok := mcheck_ok hc
    have hn8 := hok.n8
    have hm8 := hok.m8
    have hm1 := hok.m1
    have hon := hok.ord_len
    rw [hrl] at hn8
    rw [hbl] at hm8 hm1
    rw [hbl, hol] at hon
    have HO := Lib.hid (Oof_yes ra ba oa rn rc bn bc on oc m _ hm0.mkt hc)
    have H0 := Lib.hid (And.intro hm0 hb0); clear hm0 hb0 hm
    have HC := Lib.hid (And.intro hc hok)
    have HL := Lib.hid (And.intro hrl (And.intro hbl hol)); clear hok hc hrl hbl hol
    obtain rfl : bn = on := hon.symm
    go_enter Tryz.func7, Tryz.ntmps7
    go_wp2_with fail
    refine HO.out.mono ?_
    rintro e w1 ⟨ha, pa, hcp, rfl, ho, hb⟩
    have hal : Below w1.heap.size w1 (w1.alloc (.cells #[.slice ha bn hcp, .slice pa rn rn] 30)) := (Below.refl _ _).alloc (Nat.le_refl _) _
    have hm1' := (H0.out.1.step hb).step hal
    have ho1 := BoxO.new ho
    have hb1 := H0.out.2.trans ((hb.trans (hal.mono hb.size)).mono H0.out.2.size)
    clear k0 k1 k2
    have k0 := hm1'.row.cell (k := 0) rfl
    have k1 := hm1'.row.cell (k := 1) rfl
    have k2 := hm1'.row.cell (k := 2) rfl
    obtain ⟨W1, hW1⟩ : ∃ W1, W1 = w1.alloc (.cells #[.slice ha bn hcp, .slice pa rn rn] 30) := ⟨_, rfl⟩
    have HT := Lib.hid (twinMarket_any ra ba oa rn rc bn bc bn oc m _ hm1'.mkt (by omega) (by omega) (by omega) HC.out.2.bids_le)
    have H1 := Lib.hid (And.intro hm1' (And.intro ho1 hb1)); clear hm1' ho1 hb1 hb ho hal H0 HO
    go_wp2_with fail
    rw [show w1.alloc (.cells #[.slice ha bn hcp, .slice pa rn rn] 30) = W1 from hW1.symm] at H1 HT k0 k1 k2 ⊢
    refine HT.out.mono ?_
    clear hW1
    rintro e w2 ⟨g1, c1, B, cB, g3, c3, s1, s2, vals, gs, rfl, hc1, hcB, hc3, htw, hb2⟩
    have hal : Below w2.heap.size w2 (w2.alloc (.cells #[.slice (some ⟨g1, 0, none⟩) rn c1, .slice (some ⟨B, 0, none⟩) bn cB, .slice (some ⟨g3, 0, none⟩) bn c3] 28)) := (Below.refl _ _).alloc (Nat.le_refl _) _
    have hX : RotAt W1 w2.heap.size s1 s2 g1 B g3 rn c1 bn cB bn c3 vals gs m (w2.alloc (.cells #[.slice (some ⟨g1, 0, none⟩) rn c1, .slice (some ⟨B, 0, none⟩) bn cB, .slice (some ⟨g3, 0, none⟩) bn c3] 28)) :=
      ⟨VRow.new w2 _ _, htw.below hal (Nat.le_refl _), Tab.lt htw.ord, hb2.trans (hal.mono hb2.size)⟩
    have hm2 := (H1.out.1.step hb2).step hal
    clear k0 k1 k2
    have k2 := hm2.row.cell (k := 2) rfl
    obtain ⟨W2, hW2⟩ : ∃ W2, W2 = w2.alloc (.cells #[.slice (some ⟨g1, 0, none⟩) rn c1, .slice (some ⟨B, 0, none⟩) bn cB, .slice (some ⟨g3, 0, none⟩) bn c3] 28) := ⟨_, rfl⟩
    have H2 := Lib.hid hX; clear hX htw hb2 hal hm2 HT
    go_wp2_with fail
    rw [show w2.alloc (.cells #[.slice (some ⟨g1, 0, none⟩) rn c1, .slice (some ⟨B, 0, none⟩) bn cB, .slice (some ⟨g3, 0, none⟩) bn c3] 28) = W2 from hW2.symm] at H2 k2 ⊢
    clear hW2 k2
    go_loopg [9] bn (fun g' s9 wr => ∃ j : Nat, j + g' = bn ∧ s9 = .int .i64 j ∧ RotAt W1 w2.heap.size s1 s2 g1 B g3 rn c1 bn cB bn c3 vals gs { m with ord := rotTo m.ord bd j } wr)
    case atStart => exact ⟨0, by omega, rfl, by rw [rotTo_zero]; exact H2.out⟩
    case round =>
      obtain ⟨j, hj, rfl, hX⟩ := hrel
      have HJ := Lib.hid hj; clear hj
      have hm3 := H1.out.1.step hX.below
      by_cases hlt : j < bn
      · have hqb : (j + bd) % bn < bn := Nat.mod_lt _ (by omega)
        obtain ⟨x, hx, _⟩ := hm3.mkt.ord.get hqb
        obtain ⟨y, hy, _⟩ := hm3.mkt.ord.get hlt
        have k2 := hm3.row.cell (k := 2) rfl
        have q2 := hX.bx.cell (k := 2) rfl
        obtain ⟨ob, oo, rfl⟩ := hm3.mkt.ord.addr (by omega)
        have cx := hm3.mkt.ord.cell ob oo rfl _ x hx
        have cy := Tab.cell hX.x.ord (k := j) (v := .int .i64 y) (by rw [List.getElem?_map, rotTo_get (by rw [HL.out.2.2]; exact hlt), if_neg (by omega), getD_at hy]; rfl)
        have fy := Tab.frozen hX.x.ord j
        have hp := hX.poke j x
        rw [show ({ ({ m with ord := rotTo m.ord bd j } : Mkt) with ord := (rotTo m.ord bd j).set j x } : Mkt) = { m with ord := rotTo m.ord bd (j + 1) } by
          rw [rotTo_set (by rw [HL.out.2.2]; exact hx)]] at hp
        obtain ⟨q, hq⟩ : ∃ q, q = (j + bd) % bn := ⟨_, rfl⟩
        rw [← hq] at cx hqb
        have e1 : ((j : Int) + (bd : Int)) % (bn : Int) = (q : Int) := by rw [hq, Int.natCast_emod, Int.natCast_add]
        have HP := Lib.hid hp; clear hp hX hm3 hx hy hq
        have e2 : IntKind.i64.wrap ((j : Int) + (bd : Int)) = (j : Int) + (bd : Int) := IntWalk.i64_in _ (by omega)
        have e3 : IntKind.i64.wrap (bd : Int) = (bd : Int) := IntWalk.i64_in _ (by omega)
        have q0 : (0 : Int) ≤ (q : Int) := by omega
        have q1 : (q : Int) < (bn : Int) := by omega
        have j0 : (0 : Int) ≤ (j : Int) := by omega
        have j1 : (j : Int) < (bn : Int) := by omega
        go_wp2_with fail
        go_region
        go_wp2_with fail
        go_roundg (gk - 1)
        case measure => have := HJ.out; omega
        case rel => exact ⟨j + 1, by have := HJ.out; omega, by go_num, HP.out.drew⟩
      · obtain rfl : j = bn := by have := HJ.out; omega
        have hr : ({ m with ord := rotTo m.ord bd j } : Mkt) = rotM m bd := by unfold rotM; rw [HL.out.2.2]
        rw [hr] at hX
        have hrok := rotM_ok HC.out.2 bd
        have hMx : BoxM w2.heap.size (some ⟨g1, 0, none⟩) (some ⟨B, 0, none⟩) (some ⟨g3, 0, none⟩) rn c1 j cB j c3 (rotM m bd) wr :=
          ⟨hX.bx, hX.x.mkt hrok.mbd HL.out.1 HL.out.2.1 (by show (rotTo m.ord bd m.ord.length).length = j; rw [rotTo_length]; exact HL.out.2.2) hc1 hcB hc3⟩
        have ho3 := H1.out.2.1.step hX.below
        have hbw := H1.out.2.2.trans (hX.below.mono H1.out.2.2.size)
        have hO := Oof_yes _ _ _ rn c1 j cB j c3 (rotM m bd) wr hMx.mkt (mcheck_of hrok)
        rw [show outM (rotM m bd) = ⟨hasM (rotM m bd), leastM m⟩ by unfold outM; rw [rotM_least]] at hO
        have HO := Lib.hid hO
        have q0 := hMx.row.cell (k := 0) rfl
        have q1 := hMx.row.cell (k := 1) rfl
        have q2 := hMx.row.cell (k := 2) rfl
        have HH := Lib.hid (And.intro hMx (And.intro hm3 (And.intro ho3 hbw))); clear hMx hm3 ho3 hbw hX hO hr hrok
        go_wp2_with fail
        refine HO.out.mono ?_
        rintro e w4 ⟨ha', pa', hcp', rfl, hp, hb⟩
        have hal : Below w4.heap.size w4 (w4.alloc (.cells #[.slice ha' j hcp', .slice pa' rn rn] 30)) := (Below.refl _ _).alloc (Nat.le_refl _) _
        have hF : FirstAt w w.heap.size w1.heap.size w4.heap.size w2.heap.size ra ba oa ha pa ha' pa' _ _ _ rn rc j bc oc hcp hcp' c1 cB c3 m (rotM m bd) (outM m) ⟨hasM (rotM m bd), leastM m⟩ _ :=
          ⟨(HH.out.2.1.step hb).step hal, (HH.out.2.2.1.step hb).step hal, BoxO.new hp, (HH.out.1.step hb).step hal, HH.out.2.2.2.trans ((hb.trans (hal.mono hb.size)).mono HH.out.2.2.2.size)⟩
        clear q0 q1 q2
        have o0 := hF.o.row.cell (k := 0) rfl
        have o1 := hF.o.row.cell (k := 1) rfl
        have p0 := hF.p.row.cell (k := 0) rfl
        have p1 := hF.p.row.cell (k := 1) rfl
        have hS := same_any pa pa' rn rn rn rn (leastM m) (leastM m) _ hF.o.out.prices hF.p.out.prices
        rw [decide_eq_true rfl] at hS
        have HS := Lib.hid hS
        have HF := Lib.hid hF; clear hF hS hb hal hp HH HO
        go_wp2_with fail
        refine HS.out.mono ?_
        rintro e w5 ⟨rfl, hb⟩
        have hF := HF.out.step hb
        clear o0 o1 p0 p1
        have o0 := hF.o.row.cell (k := 0) rfl
        have p0 := hF.p.row.cell (k := 0) rfl
        have HF5 := Lib.hid hF; clear hF hb HF HS
        go_wp2_with fail
        clear o0 p0
        go_loopg [12, 13, 14] j (fun g' s12 s13 s14 wr => ∃ i : Nat, i + g' = j ∧ s12 = .int .i64 i ∧ Below w5.heap.size w5 wr)
        case atStart => exact ⟨0, by omega, rfl, Below.refl _ _⟩
        case round =>
          obtain ⟨i, hi, rfl, hb⟩ := hrel
          have HI := Lib.hid hi; clear hi
          have hF := HF5.out.step hb
          by_cases hlti : i < j
          · have him : i < m.bids.length := by rw [HL.out.2.1]; exact hlti
            obtain ⟨bid, hbid⟩ := hF.m.mkt.bids.get hlti
            obtain ⟨bb, bo, hbe⟩ := hF.m.mkt.bids.addr (by omega)
            subst hbe
            obtain ⟨la, ln, lc, cb, hli⟩ := hF.m.mkt.bids.cell bb bo rfl i bid hbid
            have k1 := hF.m.row.cell (k := 1) rfl
            have i0 : (0 : Int) ≤ (i : Int) := by omega
            have i1 : (i : Int) < (j : Int) := by omega
            have hg : m.bids.getD i [] = bid := by rw [List.getD_eq_getElem?_getD, hbid]; rfl
            by_cases hl0 : ln = 0
            · have e1 : ((ln : Int) == 0) = true := by simp [hl0]
              have e2 : decide (ln = 0) = true := by simpa using hl0
              have HB := Lib.hid hb; clear hb hF hbid hli hg
              go_wp2_with fail
              go_roundg (gk - 1)
              case measure => have := HI.out; omega
              case rel => exact ⟨i + 1, by have := HI.out; omega, by go_num, HB.out⟩
            · have hne : m.bids.getD i [] ≠ [] := fun e => hl0 (by rw [hg] at e; rw [← hli.len, e]; rfl)
              obtain rfl : ln = rn := by
                obtain ⟨h1, _⟩ := (HC.out.2.bid_at him).resolve_left hne
                rw [hg] at h1
                rw [← hli.len, h1, HL.out.1]
              obtain ⟨x1, hx1, _⟩ := hF.o.out.has.get hlti
              obtain ⟨x2, hx2, _⟩ := hF.p.out.has.get hlti
              have hv := val_eq HC.out.1 bd him hne hx1 hx2
              have b1 := has_bd HC.out.2 hx1
              have b2 := has_bd (rotM_ok HC.out.2 bd) hx2
              rw [show (rotM m bd).res.length = m.res.length from rfl] at b2
              rw [HL.out.1] at b1 b2
              obtain ⟨b11, b12⟩ := b1
              obtain ⟨b21, b22⟩ := b2
              have o0 := hF.o.row.cell (k := 0) rfl
              have o1 := hF.o.row.cell (k := 1) rfl
              have p0 := hF.p.row.cell (k := 0) rfl
              have p1 := hF.p.row.cell (k := 1) rfl
              obtain ⟨hb', ho', hhe⟩ := hF.o.out.has.addr (by omega)
              subst hhe
              obtain ⟨hb2, ho2, hhe⟩ := hF.p.out.has.addr (by omega)
              subst hhe
              have cx1 := hF.o.out.has.cell hb' ho' rfl i x1 hx1
              have cx2 := hF.p.out.has.cell hb2 ho2 rfl i x2 hx2
              have e1 : ((ln : Int) == 0) = false := by simp; omega
              have e2 : decide (ln = 0) = false := by simpa using hl0
              have e3 : decide ((ln : Int) ≤ max x1 x2) = false := by simp; omega
              have HV := Lib.hid (And.intro hv (And.intro hne hg))
              have HX := Lib.hid (And.intro hx1 (And.intro hx2 (And.intro hbid hli)))
              have HB := Lib.hid hb
              have HF6 := Lib.hid hF; clear hb hF hbid hli hg hv hne hx1 hx2
              go_wp2_with fail
              go_quiet (fail)
              have hbq := below_drewN HB.out nq
              obtain ⟨wq, hwq⟩ : ∃ wq, wq = wr.drewN nq := ⟨_, rfl⟩
              rw [← hwq] at hbq ⊢
              clear hwq o0 o1 p0 p1 k1 cb cx1 cx2
              have HBQ := Lib.hid hbq
              have hFq := HF5.out.step hbq
              have o0 := hFq.o.row.cell (k := 0) rfl
              have o1 := hFq.o.row.cell (k := 1) rfl
              have k1 := hFq.m.row.cell (k := 1) rfl
              have cx1 := hFq.o.out.has.cell hb' ho' rfl i x1 HX.out.1
              obtain ⟨val, hval⟩ : ∃ val, val = valAt m i x1 := ⟨_, rfl⟩
              have HVAL := Lib.hid (And.intro hval (hval.trans HV.out.1)); clear hval
              have HFQ := Lib.hid hFq; clear hFq hbq
              go_upto_if 119 with fail
              go_cut [13] (fun s13 wx => s13 = .int .i64 val ∧ Below w5.heap.size w5 wx)
              case first =>
                by_cases hx0 : x1 = -1
                · subst hx0
                  have hv0 : val = 0 := by rw [HVAL.out.1]; rfl
                  have HV0 := Lib.hid hv0; clear hv0
                  go_wp2_with fail
                  go_meet
                  exact ⟨by rw [HV0.out], HBQ.out⟩
                · obtain ⟨k, rfl⟩ := Int.eq_ofNat_of_zero_le (show 0 ≤ x1 by omega)
                  have hk : k < m.res.length := by rw [HL.out.1]; omega
                  have hv1 : val = bidAt m i k - (leastM m).getD k 0 := by rw [HVAL.out.1]; unfold valAt; rw [if_neg (by omega), Int.toNat_natCast]
                  obtain ⟨_, hbb⟩ := (HC.out.2.bid_at him).resolve_left HV.out.2.1
                  have hy := hbb k hk
                  have hkl : k < (leastM m).length := by rw [HC.out.2.least.pr.len]; exact hk
                  have hz := HC.out.2.least.pr.all HC.out.2 _ (getD_mem hkl 0)
                  obtain ⟨a', n', c', cb, hli⟩ := HFQ.out.m.mkt.bids.cell bb bo rfl i bid HX.out.2.2.1
                  obtain rfl : n' = ln := by rw [← hli.len, ← HX.out.2.2.2.len]
                  have hkn : k < n' := by omega
                  obtain ⟨y, hyy, _⟩ := hli.get hkn
                  obtain ⟨lb, lo, hae⟩ := hli.addr (by omega)
                  subst hae
                  have cy := hli.cell lb lo rfl k y hyy
                  obtain ⟨pb, po, hpe⟩ := HFQ.out.o.out.prices.addr (by omega)
                  subst hpe
                  have cz := HFQ.out.o.out.prices.cell pb po rfl k ((leastM m).getD k 0) (getD_some hkl 0)
                  have hyb : bidAt m i k = y := by unfold bidAt; rw [HV.out.2.2, getD_at hyy]
                  rw [hyb] at hy hv1
                  obtain ⟨z, hzz⟩ : ∃ z, z = (leastM m).getD k 0 := ⟨_, rfl⟩
                  rw [← hzz] at cz hz hv1
                  obtain ⟨hy0, hy1⟩ := hy
                  obtain ⟨hz0, hz1⟩ := hz
                  have HV1 := Lib.hid hv1; clear hv1 hzz hyb hyy hli hbb
                  have k0 : (0 : Int) ≤ (k : Int) := by omega
                  have k2 : (k : Int) < (n' : Int) := by omega
                  have e5 : IntKind.i64.wrap (y - z) = y - z := IntWalk.i64_in _ (by omega)
                  go_wp2_with fail
                  go_quiet (fail)
                  go_wp2_with fail
                  go_meet
                  exact ⟨by rw [HV1.out], below_drewN HBQ.out _⟩
              case rest =>
                obtain ⟨rfl, hbr⟩ := hcut
                have hFr := HF5.out.step hbr
                have HBR := Lib.hid hbr
                clear o0 o1 k1 cx1
                have p0 := hFr.p.row.cell (k := 0) rfl
                have p1 := hFr.p.row.cell (k := 1) rfl
                have k1 := hFr.m.row.cell (k := 1) rfl
                have cx2 := hFr.p.out.has.cell hb2 ho2 rfl i x2 HX.out.2.1
                have HFR := Lib.hid hFr; clear hFr hbr
                go_upto_if 147 with fail
                go_cut [14] (fun s14 wx => s14 = .int .i64 val ∧ Below w5.heap.size w5 wx)
                case first =>
                  by_cases hx0 : x2 = -1
                  · subst hx0
                    have hv0 : val = 0 := by rw [HVAL.out.2]; rfl
                    have HV0 := Lib.hid hv0; clear hv0
                    go_wp2_with fail
                    go_meet
                    exact ⟨by rw [HV0.out], HBR.out⟩
                  · obtain ⟨k, rfl⟩ := Int.eq_ofNat_of_zero_le (show 0 ≤ x2 by omega)
                    have hk : k < m.res.length := by rw [HL.out.1]; omega
                    have hv1 : val = bidAt m i k - (leastM m).getD k 0 := by rw [HVAL.out.2]; unfold valAt; rw [if_neg (by omega), Int.toNat_natCast]
                    obtain ⟨_, hbb⟩ := (HC.out.2.bid_at him).resolve_left HV.out.2.1
                    have hy := hbb k hk
                    have hkl : k < (leastM m).length := by rw [HC.out.2.least.pr.len]; exact hk
                    have hz := HC.out.2.least.pr.all HC.out.2 _ (getD_mem hkl 0)
                    obtain ⟨a', n', c', cb, hli⟩ := HFR.out.m.mkt.bids.cell bb bo rfl i bid HX.out.2.2.1
                    obtain rfl : n' = ln := by rw [← hli.len, ← HX.out.2.2.2.len]
                    have hkn : k < n' := by omega
                    obtain ⟨y, hyy, _⟩ := hli.get hkn
                    obtain ⟨lb, lo, hae⟩ := hli.addr (by omega)
                    subst hae
                    have cy := hli.cell lb lo rfl k y hyy
                    obtain ⟨pb, po, hpe⟩ := HFR.out.p.out.prices.addr (by omega)
                    subst hpe
                    have cz := HFR.out.p.out.prices.cell pb po rfl k ((leastM m).getD k 0) (getD_some hkl 0)
                    have hyb : bidAt m i k = y := by unfold bidAt; rw [HV.out.2.2, getD_at hyy]
                    rw [hyb] at hy hv1
                    obtain ⟨z, hzz⟩ : ∃ z, z = (leastM m).getD k 0 := ⟨_, rfl⟩
                    rw [← hzz] at cz hz hv1
                    obtain ⟨hy0, hy1⟩ := hy
                    obtain ⟨hz0, hz1⟩ := hz
                    have HV1 := Lib.hid hv1; clear hv1 hzz hyb hyy hli hbb
                    have k0 : (0 : Int) ≤ (k : Int) := by omega
                    have k2 : (k : Int) < (n' : Int) := by omega
                    have e5 : IntKind.i64.wrap (y - z) = y - z := IntWalk.i64_in _ (by omega)
                    go_wp2_with fail
                    go_quiet (fail)
                    go_wp2_with fail
                    go_meet
                    exact ⟨by rw [HV1.out], below_drewN HBR.out _⟩
                case rest =>
                  obtain ⟨rfl, hbs⟩ := hcut
                  have HBS := Lib.hid hbs; clear hbs p0 p1 k1 cx2
                  have e6 : (val != val) = false := by simp
                  go_wp2_with fail
                  go_roundg (gk - 1)
                  case measure => have := HI.out; omega
                  case rel => exact ⟨i + 1, by have := HI.out; omega, by go_num, HBS.out⟩
          · obtain rfl : i = j := by have := HI.out; omega
            obtain ⟨who, hwho, hwb⟩ := rot_who HC.out.2 bd
            rw [HL.out.2.1] at hwb
            have q2 := hF.x.row.cell (k := 2) rfl
            have cw := hF.x.mkt.ord.cell g3 0 rfl 0 (who : Int) hwho
            rw [Nat.zero_add] at cw
            obtain ⟨x1, hx1, _⟩ := hF.o.out.has.get hwb
            obtain ⟨x2, hx2, _⟩ := hF.p.out.has.get hwb
            have hfe := first_eq HC.out.1 bd hwho hx1 hx2
            obtain ⟨hb', ho', hhe⟩ := hF.o.out.has.addr (by omega)
            subst hhe
            obtain ⟨hb2, ho2, hhe⟩ := hF.p.out.has.addr (by omega)
            subst hhe
            have hbd : Below wr.heap.size wr wr.drew := (Below.refl _ _).drew
            have hne : Nonempty (Kept (Below wr.heap.size wr)) := ⟨⟨_, hbd⟩⟩
            have o0 : ∀ z : Kept (Below wr.heap.size wr), z.w.cell? ⟨w1.heap.size, 0, none⟩ = some (.slice (some ⟨hb', ho', none⟩) i hcp) := fun z => (hF.o.step z.h).row.cell (k := 0) rfl
            have p0 : ∀ z : Kept (Below wr.heap.size wr), z.w.cell? ⟨w4.heap.size, 0, none⟩ = some (.slice (some ⟨hb2, ho2, none⟩) i hcp') := fun z => (hF.p.step z.h).row.cell (k := 0) rfl
            have cx1 : ∀ z : Kept (Below wr.heap.size wr), z.w.cell? ⟨hb', ho' + who, none⟩ = some (.int .i64 x1) := fun z => (hF.o.step z.h).out.has.cell hb' ho' rfl who x1 hx1
            have cx2 : ∀ z : Kept (Below wr.heap.size wr), z.w.cell? ⟨hb2, ho2 + who, none⟩ = some (.int .i64 x2) := fun z => (hF.p.step z.h).out.has.cell hb2 ho2 rfl who x2 hx2
            have HF7 := Lib.hid hF.below
            have j0 : (0 : Int) ≤ (who : Int) := by omega
            have j1 : (who : Int) < (i : Int) := by omega
            clear hF hb hwho hx1 hx2
            by_cases h1 : x1 = -1
            · subst h1
              clear hfe
              by_cases h2 : x2 = -1
              · subst h2
                go_wp2_with fail
                clear q2 cw
                refine wp_region_kept (Below wr.heap.size wr) (by kernel_rfl) (by kernel_rfl) hbd ?_
                repeat (go_big_quiet_step ((go_at_call 22; exact lives15_kept wr _)))
                refine wpQuiet_nil ?_
                intro _ hw'
                obtain ⟨⟨w7, hb7⟩, rfl⟩ := hw'
                clear o0 p0 cx1 cx2 hne
                go_wp2_with fail
                go_ret
                exact ⟨rfl, HF7.out.trans (hb7.mono HF7.out.size)⟩
              · have e1 : (x2 == -1) = false := by simpa using h2
                have e2 : (x2 != -1) = true := by simpa using h2
                clear h2
                go_wp2_with fail
                clear q2 cw
                refine wp_region_kept (Below wr.heap.size wr) (by kernel_rfl) (by kernel_rfl) hbd ?_
                repeat (go_big_quiet_step ((go_at_call 22; exact lives15_kept wr _)))
                refine wpQuiet_nil ?_
                intro _ hw'
                obtain ⟨⟨w7, hb7⟩, rfl⟩ := hw'
                clear o0 p0 cx1 cx2 hne
                go_wp2_with fail
                go_ret
                exact ⟨rfl, HF7.out.trans (hb7.mono HF7.out.size)⟩
            · obtain ⟨h2, h3⟩ := hfe h1
              have e1 : (x2 == -1) = false := by simpa using h2
              have e2 : (x2 != -1) = true := by simpa using h2
              have e3 : (x1 == -1) = false := by simpa using h1
              have e4 : decide (x2 ≤ x1) = true := by simpa using h3
              clear h2 h3 h1 hfe
              go_wp2_with fail
              clear q2 cw
              refine wp_region_kept (Below wr.heap.size wr) (by kernel_rfl) (by kernel_rfl) hbd ?_
              repeat (go_big_quiet_step ((go_at_call 22; exact lives15_kept wr _)))
              refine wpQuiet_nil ?_
              intro _ hw'
              obtain ⟨⟨w7, hb7⟩, rfl⟩ := hw'
              clear o0 p0 cx1 cx2 hne
              go_wp2_with fail
              go_ret
              exact ⟨rfl, HF7.out.trans (hb7.mono HF7.out.size)⟩
  · have hc : mcheck m = false := by simpa using hc
    have HO := Lib.hid (Oof_no ra ba oa rn rc bn bc on oc m _ hm0.mkt hc)
    have HV := Lib.hid hb0; clear hm0 hb0 hm hrl hbl hol hc
    go_enter Tryz.func7, Tryz.ntmps7
    go_wp2_with fail
    refine HO.out.mono ?_
    rintro e w1 ⟨rfl, hb⟩
    have H1 := Lib.hid (HV.out.trans (hb.mono HV.out.size)); clear hb HO
    go_wp2_with fail
    refine (lives15_any _).mono ?_
    rintro e w2 ⟨rfl, hb⟩
    have H2 := Lib.hid ((H1.out.alloc H1.out.size _).trans (hb.mono (by have := H1.out.size; simp; omega))); clear hb
    go_wp2_with fail
    go_ret
    exact ⟨rfl, H2.out⟩
end Go.Proofs.YtbnjeegicbffeaaGreat
