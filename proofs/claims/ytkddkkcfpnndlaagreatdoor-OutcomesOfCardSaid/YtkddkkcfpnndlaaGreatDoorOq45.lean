/- Twins lie apart. FirstsOf: what First and its reference answer; what the law's state keeps. PathsOf: what More and Reach answer, the program's and the reference's. Walks: outcomes.Of once more: its lists lie in memory of their own. -/
import Derived.Test.YtkddkkcfpnndlaaGreatDoorOq40
import Derived.Test.YtkddkkcfpnndlaaGreatDoorOq36
import Derived.Test.YtkddkkcfpnndlaaGreatDoorOq38
import Derived.Test.YtkddkkcfpnndlaaGreatDoorOq08
import Derived.Test.YtkddkkcfpnndlaaGreatDoorOq43
import Derived.Test.YtkddkkcfpnndlaaGreatDoorOq44
import Derived.Test.YtkddkkcfpnndlaaGreatDoorOq27
import Derived.Test.YtkddkkcfpnndlaaGreatDoorOq10
import Derived.Test.YtkddkkcfpnndlaaGreatDoorOq14
import Derived.Test.YtkddkkcfpnndlaaGreatDoorOq13
import Derived.Test.YtkddkkcfpnndlaaGreatDoorOq16
import Derived.Test.YtkddkkcfpnndlaaGreatDoorOq18
import Derived.Test.YtkddkkcfpnndlaaGreatDoorOq09
import Derived.Test.YtkddkkcfpnndlaaGreatDoorOq30
import Derived.Test.YtkddkkcfpnndlaaGreatDoorOq04
import Derived.Test.YtkddkkcfpnndlaaGreatDoorOq20
import Derived.Test.YtkddkkcfpnndlaaGreatDoorOq35
import Derived.Test.YtkddkkcfpnndlaaGreatDoorOq41
import Derived.Test.YtkddkkcfpnndlaaGreatDoorOq39
import Derived.Laws.OwnMore
import Derived.Deep.MidRow
namespace Go.Proofs.YtkddkkcfpnndlaaGreatDoor
open Go.RowKit Sale

def toSlc (v : Value) : Slc := match v with
 | .slice a n c => ⟨a, n, c⟩
 | _ => ⟨none, 0, 0⟩
theorem Lot.lift {T : TypeId} {w : World} {lo lo' b o n c : Nat} (h : Lot T w lo (some ⟨b, o, none⟩) n c) (hl : lo' ≤ b) : Lot T w lo' (some ⟨b, o, none⟩) n c := by
 rcases h with h | ⟨b', o', cur, e, _, r⟩
 · exact .inl h
 · cases e; exact .inr ⟨b, o, cur, rfl, hl, r⟩
theorem Seg.one' {T : TypeId} {w : World} {lo hi b n c : Nat} (h : Lot T w lo (some ⟨b, 0, none⟩) n c) (hh : b < hi) : Seg T w lo hi [⟨some ⟨b, 0, none⟩, n, c⟩] :=
 ⟨fun x hx => by simp at hx; subst hx; exact h, fun x hx b' o e _ => by simp at hx; subst hx; cases e; exact hh, List.pairwise_singleton _ _⟩
theorem RowsF.seg {w : World} {base B c M hi : Nat} {vals : List Value} {gs : List Nat} {xss : List (List Int)} (h : RowsF w base B c M vals gs xss) (hg : ∀ g, g ∈ gs → g < hi) : Seg 3 w base hi (vals.map toSlc) := by
 have key : ∀ (i : Nat) (v : Value), vals[i]? = some v → ∃ (g cc : Nat) (xs : List Int), gs[i]? = some g ∧ v = .slice (some ⟨g, 0, none⟩) xs.length cc ∧ RowF w base g cc xs ∧ g ∈ gs := by
   intro i v hv
   have hi := (List.getElem?_eq_some_iff.1 hv).1
   have h1 : i < xss.length := by rw [← h.vlen]; exact hi
   have h2 : i < gs.length := by rw [h.rows.len]; exact h1
   obtain ⟨cc, e, hr⟩ := h.rows.row i xss[i] gs[i] (by simp [h1]) (by simp [h2])
   rw [hv] at e
   exact ⟨gs[i], cc, xss[i], by simp [h2], Option.some.inj e, hr, List.getElem_mem h2⟩
 refine ⟨fun x hx => ?_, fun x hx b o e hc => ?_, ?_⟩
 · obtain ⟨v, hv, rfl⟩ := List.mem_map.1 hx
   obtain ⟨i, hi⟩ := List.getElem?_of_mem hv
   obtain ⟨g, cc, xs, _, rfl, hr, _⟩ := key i v hi
   exact hr.lot
 · obtain ⟨v, hv, rfl⟩ := List.mem_map.1 hx
   obtain ⟨i, hi⟩ := List.getElem?_of_mem hv
   obtain ⟨g, cc, xs, _, rfl, hr, hm⟩ := key i v hi
   have e' : some (⟨g, 0, none⟩ : Addr) = some ⟨b, o, none⟩ := e
   cases e'
   exact hg _ hm
 · rw [List.pairwise_iff_getElem]
   intro i j hi hj hij b o o' _ _ e e'
   have hi' : i < vals.length := by simpa using hi
   have hj' : j < vals.length := by simpa using hj
   obtain ⟨g, cc, xs, e1, e2, _⟩ := key i vals[i] (by simp [hi'])
   obtain ⟨g', cc', xs', e1', e2', _⟩ := key j vals[j] (by simp [hj'])
   simp only [List.getElem_map] at e e'
   rw [e2] at e
   rw [e2'] at e'
   have e3 : some (⟨g, 0, none⟩ : Addr) = some ⟨b, o, none⟩ := e
   have e3' : some (⟨g', 0, none⟩ : Addr) = some ⟨b, o', none⟩ := e'
   cases e3
   cases e3'
   have hgi := (List.getElem?_eq_some_iff.1 e1)
   have hgj := (List.getElem?_eq_some_iff.1 e1')
   obtain ⟨a1, a2⟩ := hgi
   obtain ⟨b1, b2⟩ := hgj
   have := List.pairwise_iff_getElem.1 h.rows.nodup i j a1 b1 hij
   exact this (a2.trans b2.symm)
theorem RowsF.lies {w : World} {base B c M n : Nat} {vals : List Value} {gs : List Nat} {xss : List (List Int)} (h : RowsF w base B c M vals gs xss) (hn : xss.length = n) : LiesAt w w.heap.size (some ⟨B, 0, none⟩) n (vals.map toSlc) := by
 obtain ⟨ht, _, _, hc, _⟩ := owns_tab h.own
 refine ⟨by rw [List.length_map, h.vlen, hn], fun _ => ⟨B, 0, rfl, Tab.lt ht, fun k x hx => ?_⟩⟩
 rw [List.getElem?_map] at hx
 cases hv : vals[k]? with
 | none => rw [hv] at hx; cases hx
 | some v =>
   rw [hv] at hx
   have hk := (List.getElem?_eq_some_iff.1 hv).1
   have h1 : k < xss.length := by rw [← h.vlen]; exact hk
   have h2 : k < gs.length := by rw [h.rows.len]; exact h1
   obtain ⟨cc, e, _⟩ := h.rows.row k xss[k] gs[k] (by simp [h1]) (by simp [h2])
   rw [hv] at e
   cases e
   simp at hx
   subst hx
   rw [Nat.zero_add]
   exact Tab.cell ht (by rw [List.getElem?_append_left hk]; exact hv)
theorem RowsF.lotB {w : World} {base B c M : Nat} {vals : List Value} {gs : List Nat} {xss : List (List Int)} (h : RowsF w base B c M vals gs xss) : Lot 25 w base (some ⟨B, 0, none⟩) xss.length c ∧ B < w.heap.size := by
 have hl := h.own
 rcases hl.2 with ⟨e, _⟩ | ⟨g, cap, cur, e, hb, hh, hn, hm, hs, _⟩
 · cases e
 · injection e with e1 _ e3
   cases e1
   subst e3
   exact ⟨.inr ⟨B, 0, cur, rfl, hb, hh, by omega, by omega⟩, (Array.getElem?_eq_some_iff.1 hh).1⟩
theorem RowsF.seg2 {w : World} {base B c M n : Nat} {vals : List Value} {gs : List Nat} {xss : List (List Int)} (h : RowsF w base B c M vals gs xss) (hn : xss.length = n) : Seg 25 w base w.heap.size [⟨some ⟨B, 0, none⟩, n, c⟩] := by
 obtain ⟨h1, h2⟩ := h.lotB
 rw [hn] at h1
 exact Seg.one' h1 h2
theorem MktF.seg {w : World} {base s1 s2 g1 c1 B cB M g3 c3 rn bn on : Nat} {vals : List Value} {gs : List Nat} {m : Mkt} (h : MktF w base s1 s2 g1 c1 B cB M g3 c3 vals gs m) (h1 : m.res.length = rn) (h2 : m.bids.length = bn) (h3 : m.ord.length = on) :
   Seg 3 w base w.heap.size ([⟨some ⟨g1, 0, none⟩, rn, c1⟩] ++ vals.map toSlc ++ [⟨some ⟨g3, 0, none⟩, on, c3⟩]) ∧ Seg 25 w base w.heap.size [⟨some ⟨B, 0, none⟩, bn, cB⟩] ∧ LiesAt w w.heap.size (some ⟨B, 0, none⟩) bn (vals.map toSlc) := by
 have l1 := h.res.lot
 rw [h1] at l1
 have l3 := h.ord.lot
 rw [h3] at l3
 have hs2 : s2 ≤ w.heap.size := by
   have := h.ord.parts
   omega
 refine ⟨?_, (h.rows.seg2 h2).wide h.b1 (Nat.le_refl _), h.rows.lies h2⟩
 exact ((Seg.one' l1 h.l1).append (h.rows.seg h.lg) h.b1 h.b2).append (Seg.one' l3 h.ord.parts.2.2.2) (Nat.le_trans h.b1 h.b2) hs2
theorem OutF.seg {w : World} {base g1 c1 g2 c2 hn pn : Nat} {o : Outc} (h : OutF w base g1 c1 g2 c2 o) (h1 : o.has.length = hn) (h2 : o.prices.length = pn) : Seg 3 w base w.heap.size [⟨some ⟨g1, 0, none⟩, hn, c1⟩, ⟨some ⟨g2, 0, none⟩, pn, c2⟩] := by
 have l1 := h.has.lot
 rw [h1] at l1
 have l2 := h.prices.lot
 rw [h2] at l2
 have p1 := h.has.parts
 have p2 := h.prices.parts
 have hl := h.l
 exact (Seg.one' l1 h.l).append (Seg.one' (l2.lift (Nat.le_refl g2)) p2.2.2.2) (by omega) (by omega)
theorem toSlc_len {w : World} {base B c M K : Nat} {vals : List Value} {gs : List Nat} {xss : List (List Int)} (h : RowsF w base B c M vals gs xss) (hx : ∀ xs, xs ∈ xss → xs.length ≤ K) : ∀ x, x ∈ vals.map toSlc → x.n ≤ K := by
 intro x hx'
 obtain ⟨v, hv, rfl⟩ := List.mem_map.1 hx'
 obtain ⟨i, hi⟩ := List.getElem?_of_mem hv
 have hil := (List.getElem?_eq_some_iff.1 hi).1
 have h1 : i < xss.length := by rw [← h.vlen]; exact hil
 have h2 : i < gs.length := by rw [h.rows.len]; exact h1
 obtain ⟨cc, e, _⟩ := h.rows.row i xss[i] gs[i] (by simp [h1]) (by simp [h2])
 rw [hi] at e
 cases e
 exact hx _ (List.getElem_mem h1)
end Go.Proofs.YtkddkkcfpnndlaaGreatDoor

namespace Go.Proofs.YtkddkkcfpnndlaaGreatDoor
open Go.RowKit Sale

structure GSt (lo hi : Nat) (rs : List Slc) (x : Slc) (wr : World) : Prop where
 a : Seg 3 wr lo hi rs
 b : Seg 25 wr lo hi [x]
 le : hi ≤ wr.heap.size
theorem GSt.step {lo hi : Nat} {rs : List Slc} {x : Slc} {wr wr' : World} (h : GSt lo hi rs x wr) (hb : Below wr.heap.size wr wr') : GSt lo hi rs x wr' :=
 ⟨h.a.keep (hb.mono h.le), h.b.keep (hb.mono h.le), Nat.le_trans h.le hb.size⟩
theorem GSt.wide {lo hi : Nat} {rs : List Slc} {x : Slc} {wr : World} (h : GSt lo hi rs x wr) : GSt lo wr.heap.size rs x wr :=
 ⟨h.a.wide (Nat.le_refl _) h.le, h.b.wide (Nat.le_refl _) h.le, Nat.le_refl _⟩
end Go.Proofs.YtkddkkcfpnndlaaGreatDoor

namespace Go.Proofs.YtkddkkcfpnndlaaGreatDoor
open Go.RowKit

theorem Seg.two {T : TypeId} {w : World} {lo mid : Nat} {x y : Slc} (hx : Lot T w lo x.a x.n x.c) (hy : Lot T w mid y.a y.n y.c) (hl : lo ≤ mid) (hxm : ∀ b o, x.a = some ⟨b, o, none⟩ → b < mid) : Seg T w lo w.heap.size [x, y] := by
 refine ⟨fun z hz => ?_, fun z hz b o e hc => ?_, ?_⟩
 · simp only [List.mem_cons, List.not_mem_nil, or_false] at hz
   rcases hz with rfl | rfl
   · exact hx
   · exact hy.lower hl
 · simp only [List.mem_cons, List.not_mem_nil, or_false] at hz
   rcases hz with rfl | rfl
   · exact (hx.block e hc).2
   · exact (hy.block e hc).2
 · refine List.pairwise_pair.2 fun b o o' _ hc e e' => ?_
   have h1 := hxm b o e
   have h2 := (hy.block e' hc).1
   omega

end Go.Proofs.YtkddkkcfpnndlaaGreatDoor

namespace Go.Proofs.YtkddkkcfpnndlaaGreatDoor
open Go.RowKit Sale

def AnsO (o : Outc) (err : Int) (w : World) (e : Ending) (w' : World) : Prop :=
 ∃ ha pa hn hc pn pc, e = .returned (.tuple #[.agg #[.slice ha hn hc, .slice pa pn pc], .int .i64 err]) ∧ OutAt w' ha pa hn hc pn pc o ∧ Seg 3 w' w.heap.size w'.heap.size [⟨ha, hn, hc⟩, ⟨pa, pn, pc⟩] ∧ hn ≤ 8 ∧ pn ≤ 8 ∧ Below w.heap.size w w'
theorem FirstMR {m : Mkt} (h : MOk m) (ga oa : Option Addr) (gn gc on oc : Nat) (w : World) (hg : Rows w ga gn gc (gainsM m)) (ho : Ints w oa on oc m.ord) :
   Calls Tryz.prog 11 #[.slice ga gn gc, .int .i64 (m.res.length : Nat), .slice oa on oc] w (RetRow 0 (hasM m) gn w) := by
 have h1 := h.ordN.1
 have h2 := h.ord
 have h3 := hg.len
 rw [h1] at ho h2
 subst h3
 exact First_row ga oa _ gc on oc (gainsM m) m.res.length (ordN m) w hg ho h.wcheck (by rw [gainsM_length]; exact h2)

set_option maxRecDepth 100000 in
set_option maxHeartbeats 2000000 in
theorem Oof_lot (ra ba oa : Option Addr) (rn rc bn bc on oc : Nat) (m : Mkt) (w : World) (hm : MktAt w ra ba oa rn rc bn bc on oc m) (hc : mcheck m = true) :
   Calls Tryz.prog 48 #[.agg #[.slice ra rn rc, .slice ba bn bc, .slice oa on oc]] w fun e w' => AnsO (outM m) 0 w e w' := by
 obtain ⟨hv1, hv2, hb0⟩ := oc0_at w ra ba oa rn rc bn bc on oc
 have hok := mcheck_ok hc
 have hrl := hm.res.len
 have hbl := hm.bids.len
 have HG := Lib.hid (Gains_yes ra ba oa rn rc bn bc on oc m _ (hm.below hb0 (Nat.le_refl _)) hc)
 have HV := Lib.hid (And.intro hv1 (And.intro hv2 hb0)); clear hv1 hv2 hb0
 have HM := Lib.hid (And.intro hm (And.intro hc hok)); clear hm hc hok
 have HRL := Lib.hid hrl; clear hrl
 have HBL := Lib.hid hbl; clear hbl
 go_enter Tryz.func48, Tryz.ntmps48
 go_wp2_with fail
 refine HG.out.mono ?_
 rintro e w1 ⟨ga, rfl, hg, hb1⟩
 have hw1 : w.heap.size + 1 < w1.heap.size := (HV.out.2.1.below hb1 HV.out.2.1.lt).lt
 have hm1 := HV.out.1.below hb1 HV.out.1.lt
 have ho1 := HV.out.2.1.below hb1 HV.out.2.1.lt
 have hB1 := HV.out.2.2.trans (hb1.mono HV.out.2.2.size)
 have k0 := hm1.cell (k := 0) rfl
 have k2 := hm1.cell (k := 2) rfl
 have hF := FirstMR HM.out.2.2 ga oa bn bn on oc w1 hg (HM.out.1.ord.below hB1 (Nat.le_refl _))
 rw [HRL.out] at hF
 have HF := Lib.hid hF; clear hF hg hb1
 have H1 := Lib.hid (And.intro hm1 (And.intro ho1 hB1)); clear hm1 ho1 hB1 HG
 go_wp2_with fail
 refine HF.out.mono ?_
 rintro e w2 ⟨hhl, Bh, rfl, hRow, hBh, hhbd, hb2⟩
 have hbn8 : bn ≤ 8 := by have := HM.out.2.2.m8; have := HBL.out; omega
 have hi2 := hRow.ints (by omega) hhbd
 rw [hhl] at hi2
 have hlA : Lot 3 w2 w1.heap.size (some ⟨Bh, 0, none⟩) bn bn := .inr ⟨Bh, 0, iarr (hasM m), rfl, hBh, hRow, by simp [iarr, hhl], Nat.le_refl _⟩
 have hBlt : Bh < w2.heap.size := hRow.lt
 obtain ⟨ha, hha⟩ : ∃ ha, ha = some (⟨Bh, 0, none⟩ : Addr) := ⟨_, rfl⟩
 rw [← hha] at hi2 hlA ⊢
 have hw2 := hb2.size
 have hneA : ∀ b o, ha = some ⟨b, o, none⟩ → ¬ (b = w.heap.size + 1) ∧ b < w2.heap.size := fun b o e => by
   rw [hha] at e; cases e; omega
 have HA := Lib.hid (And.intro hlA (And.intro hneA (And.intro hw1 hw2)))
 clear hlA hneA hha hBlt hBh hRow hhbd hhl
 have hm2 := H1.out.1.below hb2 H1.out.1.lt
 have ho2 := H1.out.2.1.below hb2 H1.out.2.1.lt
 have hB2 := H1.out.2.2.trans (hb2.mono H1.out.2.2.size)
 have p0 := ho2.cell (k := 0) rfl
 have fp0 := ho2.frozen 0
 have ho3 := ho2.set 0 (.slice ha bn bn)
 have hm3 : VRow (w2.setCell ⟨w.heap.size + 1, 0, none⟩ (.slice ha bn bn)) w.heap.size 57 [.slice ra rn rc, .slice ba bn bc, .slice oa on oc] := vrow_far hm2 (by show w.heap.size ≠ w.heap.size + 1; omega) _
 have hB3 := hB2.setCell (p := ⟨w.heap.size + 1, 0, none⟩) (by simp) (.slice ha bn bn)
 have hi3 : Ints (w2.setCell ⟨w.heap.size + 1, 0, none⟩ (.slice ha bn bn)) ha bn bn (hasM m) :=
   hi2.far (hi2.apartV ho2 (fun v hv => ⟨none, 0, 0, by simpa using hv⟩)) _
 have q0 := hm3.cell (k := 0) rfl
 have q1 := hm3.cell (k := 1) rfl
 have q2 := hm3.cell (k := 2) rfl
 have H2 := Lib.hid (And.intro hm3 (And.intro ho3 (And.intro hB3 hi3))); clear hm2 ho2 hB2 hm3 ho3 hB3 hi3 hi2 hb2 k0 k2 H1 HF
 have HL := Lib.hid (Least_lot ra ba oa rn rc bn bc on oc m _ (HM.out.1.below H2.out.2.2.1 (Nat.le_refl _)) HM.out.2.1)
 go_wp2_with fail
 refine HL.out.mono ?_
 rintro e w4 ⟨pa, pn, rfl, hi4, hlP, hb4⟩
 have hpn : pn = rn := by rw [← hi4.len, (leastM_on HM.out.2.2).len]; exact HRL.out
 subst hpn
 have ho4 := H2.out.2.1.below hb4 H2.out.2.1.lt
 have hB4 := H2.out.2.2.1.trans (hb4.mono H2.out.2.2.1.size)
 have hi5 := H2.out.2.2.2.below hb4 (Nat.le_refl _)
 have hs4 : ∀ v, v ∈ ([.slice none 0 0, .slice none 0 0] : List Value).set 0 (.slice ha bn bn) → ∃ a n c, v = .slice a n c := fun v hv => by
   simp at hv
   rcases hv with rfl | rfl
   · exact ⟨_, _, _, rfl⟩
   · exact ⟨_, _, _, rfl⟩
 have far1 := hi5.apartV ho4 hs4
 have far2 := hi4.apartV ho4 hs4
 have hp1 : 0 < pn := by have := HM.out.2.2.n1; have := HRL.out; omega
 have hneP : ∀ b o, pa = some ⟨b, o, none⟩ → ¬ (b = w.heap.size + 1) := fun b o e => by
   have := (hlP.block e hp1).1
   have := HA.out.2.2
   simp at *
   omega
 have hlA4 : Lot 3 w4 w.heap.size ha bn bn := ((HA.out.1.lower (by have := HA.out.2.2; omega)).fr (Fr.set (S := fun b => b = w.heap.size + 1) w2 ⟨w.heap.size + 1, 0, none⟩ rfl _) (fun b o e => (HA.out.2.1 b o e).1)).step hb4
 have HP := Lib.hid (And.intro hlA4 (And.intro (show Lot 3 w4 w2.heap.size pa pn pn by simpa using hlP) hneP)); clear hlA4 hlP hneP
 have p1 := ho4.cell (k := 1) rfl
 have fp1 := ho4.frozen 1
 have ho5 := ho4.set 1 (.slice pa pn pn)
 have r0 := ho5.cell (k := 0) rfl
 have r1 := ho5.cell (k := 1) rfl
 have fr0 := ho5.frozen 0
 have ho6 := ho5.set 0 (.slice ha bn bn)
 have fr1 := ho6.frozen 1
 have r2 := ho6.cell (k := 1) rfl
 have ho7 := ho6.set 1 (.slice pa pn pn)
 have H4 := Lib.hid (And.intro ho7 (And.intro hB4 (And.intro hi5 (And.intro hi4 (And.intro far1 far2))))); clear ho4 ho5 ho6 ho7 hB4 hi5 hi4 far1 far2 hb4 hs4 q0 q1 q2 p0 fp0
 go_wp2_with fail
 have hpn8 : pn ≤ 8 := by have := HM.out.2.2.n8; have := HRL.out; omega
 refine bodyPost_ret (oof_results rfl rfl _ H4.out.1) rfl ⟨ha, pa, bn, bn, pn, pn, rfl, ⟨?_, ?_⟩, ?_, hbn8, hpn8, ?_⟩
 · exact ((H4.out.2.2.1.far H4.out.2.2.2.2.1 _).far H4.out.2.2.2.2.1 _).far H4.out.2.2.2.2.1 _
 · exact ((H4.out.2.2.2.1.far H4.out.2.2.2.2.2 _).far H4.out.2.2.2.2.2 _).far H4.out.2.2.2.2.2 _
 · exact Seg.two (mid := w2.heap.size)
     (((HP.out.1.fr (Fr.set (S := fun b => b = w.heap.size + 1) _ ⟨w.heap.size + 1, 1, none⟩ rfl _) (fun b o e => (HA.out.2.1 b o e).1)).fr (Fr.set (S := fun b => b = w.heap.size + 1) _ ⟨w.heap.size + 1, 0, none⟩ rfl _) (fun b o e => (HA.out.2.1 b o e).1)).fr (Fr.set (S := fun b => b = w.heap.size + 1) _ ⟨w.heap.size + 1, 1, none⟩ rfl _) (fun b o e => (HA.out.2.1 b o e).1))
     (((HP.out.2.1.fr (Fr.set (S := fun b => b = w.heap.size + 1) _ ⟨w.heap.size + 1, 1, none⟩ rfl _) HP.out.2.2).fr (Fr.set (S := fun b => b = w.heap.size + 1) _ ⟨w.heap.size + 1, 0, none⟩ rfl _) HP.out.2.2).fr (Fr.set (S := fun b => b = w.heap.size + 1) _ ⟨w.heap.size + 1, 1, none⟩ rfl _) HP.out.2.2)
     (by have := HA.out.2.2; omega) (fun b o e => (HA.out.2.1 b o e).2)
 · exact ((H4.out.2.1.setCell (p := ⟨w.heap.size + 1, 1, none⟩) (by simp) _).setCell (p := ⟨w.heap.size + 1, 0, none⟩) (by simp) _).setCell (p := ⟨w.heap.size + 1, 1, none⟩) (by simp) _
theorem oof_ans (ra ba oa : Option Addr) (rn rc bn bc on oc : Nat) (m : Mkt) (w : World) (hm : MktAt w ra ba oa rn rc bn bc on oc m) :
   Calls Tryz.prog 48 #[.agg #[.slice ra rn rc, .slice ba bn bc, .slice oa on oc]] w (AnsO (outA m) (outE m) w) := by
 unfold outA outE
 cases hc : mcheck m with
 | false =>
   refine (Oof_no ra ba oa rn rc bn bc on oc m w hm hc).mono ?_
   rintro e w' ⟨rfl, hb⟩
   exact ⟨none, none, 0, 0, 0, 0, rfl, ⟨Ints.empty _ _ _, Ints.empty _ _ _⟩, Seg.two (mid := w.heap.size) (.inl ⟨rfl, rfl⟩) (.inl ⟨rfl, rfl⟩) (Nat.le_refl _) (fun b o e => by cases e), by omega, by omega, hb⟩
 | true => exact Oof_lot ra ba oa rn rc bn bc on oc m w hm hc
end Go.Proofs.YtkddkkcfpnndlaaGreatDoor
