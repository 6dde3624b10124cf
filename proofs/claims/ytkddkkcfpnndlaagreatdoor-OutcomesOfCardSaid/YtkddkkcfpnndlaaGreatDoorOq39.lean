/- Walks: outcomes.Even, whatever it is asked of; are two outcomes the same? Walks: the reference's least prices. Walks: the reference's payments: what others lose by one. Walks: the reference's outcome. Walks: the reference's has; Even, at a market or an outcome that does not fit; how often each item is had. Walks: the reference's Even. -/
import Derived.Test.YtkddkkcfpnndlaaGreatDoorOq12
import Derived.Test.YtkddkkcfpnndlaaGreatDoorOq27
import Derived.Test.YtkddkkcfpnndlaaGreatDoorOq37
import Derived.Test.YtkddkkcfpnndlaaGreatDoorOq35
import Derived.Test.YtkddkkcfpnndlaaGreatDoorOq38
import Derived.Test.YtkddkkcfpnndlaaGreatDoorOq29
import Derived.Test.YtkddkkcfpnndlaaGreatDoorOq02
import Derived.Test.YtkddkkcfpnndlaaGreatDoorOq01
import Derived.Test.YtkddkkcfpnndlaaGreatDoorOq11
import Derived.Deep.RegionHeld3
namespace Go.Proofs.YtkddkkcfpnndlaaGreatDoor
open Go.RowKit Sale

theorem Even_any (ra ba oa ha pa : Option Addr) (rn rc bn bc on oc hn hc pn pc : Nat) (m : Mkt) (o : Outc) (w : World) (hm : MktAt w ra ba oa rn rc bn bc on oc m) (ho : OutAt w ha pa hn hc pn pc o) :
   Calls Tryz.prog 51 #[.agg #[.slice ra rn rc, .slice ba bn bc, .slice oa on oc], .agg #[.slice ha hn hc, .slice pa pn pc]] w fun e w' => e = .returned (.bool (evenB m o)) ∧ Below w.heap.size w w' := by
 by_cases h : mcheck m = true ∧ hn = bn ∧ pn = rn
 · exact Even_yes ra ba oa ha pa rn rc bn bc on oc hn hc pn pc m o w hm ho h.1 h.2.1 h.2.2
 · have h2 : mcheck m = false ∨ hn ≠ bn ∨ pn ≠ rn := by
     cases hc : mcheck m with
     | false => exact .inl rfl
     | true =>
       by_cases h3 : hn = bn
       · exact .inr (.inr fun h4 => h ⟨hc, h3, h4⟩)
       · exact .inr (.inl h3)
   have e : evenB m o = false := by
     unfold evenB
     rcases h2 with h2 | h2 | h2
     · rw [h2]; rfl
     · rw [decide_eq_false (p := o.has.length = m.bids.length) (by rw [ho.has.len, hm.bids.len]; exact h2)]; simp
     · rw [decide_eq_false (p := o.prices.length = m.res.length) (by rw [ho.prices.len, hm.res.len]; exact h2)]; simp
   rw [e]
   exact Even_no ra ba oa ha pa rn rc bn bc on oc hn hc pn pc m o w hm h2

structure BoxO (B : Nat) (ha pa : Option Addr) (hn hc pn pc : Nat) (o : Outc) (W : World) : Prop where
 row : VRow W B 70 [.slice ha hn hc, .slice pa pn pc]
 out : OutAt W ha pa hn hc pn pc o
theorem BoxO.step {B : Nat} {ha pa : Option Addr} {hn hc pn pc : Nat} {o : Outc} {W W' : World} (h : BoxO B ha pa hn hc pn pc o W) (hb : Below W.heap.size W W') : BoxO B ha pa hn hc pn pc o W' :=
 ⟨h.row.below hb h.row.lt, h.out.below hb (Nat.le_refl _)⟩
theorem BoxO.new {ha pa : Option Addr} {hn hc pn pc : Nat} {o : Outc} {W : World} (h : OutAt W ha pa hn hc pn pc o) : BoxO W.heap.size ha pa hn hc pn pc o (W.alloc (.cells #[.slice ha hn hc, .slice pa pn pc] 70)) :=
 ⟨VRow.new W _ _, h.below ((Below.refl _ _).alloc (Nat.le_refl _) _) (Nat.le_refl _)⟩

def sameO (a b : Outc) : Bool := decide (a.has = b.has) && decide (a.prices = b.prices)
set_option maxRecDepth 100000 in
set_option maxHeartbeats 1000000 in
theorem sameO_any (ha pa ka qa : Option Addr) (hn hc pn pc kn kc qn qc : Nat) (a b : Outc) (w : World) (hA : OutAt w ha pa hn hc pn pc a) (hB : OutAt w ka qa kn kc qn qc b) :
   Calls Tryz.prog 50 #[.agg #[.slice ha hn hc, .slice pa pn pc], .agg #[.slice ka kn kc, .slice qa qn qc]] w fun e w' => e = .returned (.bool (sameO a b)) ∧ Below w.heap.size w w' := by
 have hb0 : Below w.heap.size w ((w.alloc (.cells #[.slice ha hn hc, .slice pa pn pc] 70)).alloc (.cells #[.slice ka kn kc, .slice qa qn qc] 70)) := ((Below.refl _ _).alloc (Nat.le_refl _) _).alloc (by simp) _
 have h1 := VRow.new w 70 [.slice ha hn hc, .slice pa pn pc]
 have h2 := VRow.new (w.alloc (.cells #[.slice ha hn hc, .slice pa pn pc] 70)) 70 [.slice ka kn kc, .slice qa qn qc]
 rw [show (w.alloc (.cells #[.slice ha hn hc, .slice pa pn pc] 70)).heap.size = w.heap.size + 1 by simp] at h2
 have h1' : VRow ((w.alloc (.cells #[.slice ha hn hc, .slice pa pn pc] 70)).alloc (.cells #[.slice ka kn kc, .slice qa qn qc] 70)) w.heap.size 70 [.slice ha hn hc, .slice pa pn pc] := h1.alloc _
 have h2' : VRow ((w.alloc (.cells #[.slice ha hn hc, .slice pa pn pc] 70)).alloc (.cells #[.slice ka kn kc, .slice qa qn qc] 70)) (w.heap.size + 1) 70 [.slice ka kn kc, .slice qa qn qc] := h2
 have hA0 := hA.below hb0 (Nat.le_refl _)
 have hB0 := hB.below hb0 (Nat.le_refl _)
 have HS := Lib.hid (same_any ha ka hn hc kn kc a.has b.has _ hA0.has hB0.has)
 have HV := Lib.hid (And.intro h1' (And.intro h2' (And.intro hb0 (And.intro hA hB)))); clear h1 h2 h1' h2' hb0 hA0 hB0 hA hB
 obtain ⟨s1, hs1⟩ : ∃ s, s = decide (a.has = b.has) := ⟨_, rfl⟩
 rw [← hs1] at HS
 unfold sameO
 rw [← hs1]
 clear hs1
 cases s1 with
 | false =>
   go_enter Tryz.func50, Tryz.ntmps50
   go_wp2_with fail
   refine HS.out.mono ?_
   rintro e w1 ⟨rfl, hb⟩
   have HB := Lib.hid (HV.out.2.2.1.trans (hb.mono HV.out.2.2.1.size)); clear hb
   go_wp2_with fail
   go_ret
   exact ⟨rfl, HB.out⟩
 | true =>
   go_enter Tryz.func50, Tryz.ntmps50
   go_wp2_with fail
   refine HS.out.mono ?_
   rintro e w1 ⟨rfl, hb⟩
   have hB1 := HV.out.2.2.1.trans (hb.mono HV.out.2.2.1.size)
   have p1 := (HV.out.1.below hb HV.out.1.lt).cell (k := 1) rfl
   have q1 := (HV.out.2.1.below hb HV.out.2.1.lt).cell (k := 1) rfl
   have HS2 := Lib.hid (same_any pa qa pn pc qn qc a.prices b.prices w1 (HV.out.2.2.2.1.prices.below hB1 (Nat.le_refl _)) (HV.out.2.2.2.2.prices.below hB1 (Nat.le_refl _)))
   have HB1 := Lib.hid hB1; clear hb hB1
   go_wp2_with fail
   refine HS2.out.mono ?_
   rintro e w2 ⟨rfl, hb⟩
   have HB := Lib.hid (HB1.out.trans (hb.mono HB1.out.size)); clear hb
   go_wp2_with fail
   go_ret
   exact ⟨by simp, HB.out⟩
end Go.Proofs.YtkddkkcfpnndlaaGreatDoor

namespace Go.Proofs.YtkddkkcfpnndlaaGreatDoor
open Go.RowKit Sale

set_option maxRecDepth 100000 in
set_option maxHeartbeats 4000000 in
theorem least13_yes (ra ba oa : Option Addr) (rn rc bn bc on oc : Nat) (m : Mkt) (w : World) (hm : MktAt w ra ba oa rn rc bn bc on oc m) (hc : mcheck m = true) :
   Calls Tryz.prog 119 #[.agg #[.slice ra rn rc, .slice ba bn bc, .slice oa on oc]] w fun e w' => ∃ a n c, e = .returned (.tuple #[.slice a n c, .int .i64 0]) ∧ Ints w' a n c (leastM m) ∧ Below w.heap.size w w' := by
 have hok := mcheck_ok hc
 have hrl := hm.res.len
 have hn8 := hok.n8
 rw [hrl] at hn8
 have HSH := Lib.hid (short_of hok hm)
 have HRL := Lib.hid hrl; clear hrl
 have HOK := Lib.hid hok; clear hok
 have HC := Lib.hid hc; clear hc
 have HM := Lib.hid (mw_start w ra ba oa rn rc bn bc on oc)
 obtain ⟨c0, c1, c2, hs, hbw⟩ := mw_kept HM.out
 have hma := hm.below hbw (Nat.le_refl _)
 obtain ⟨w1, hw1⟩ : ∃ w1, w1 = mw w ra ba oa rn rc bn bc on oc := ⟨_, rfl⟩
 rw [← hw1] at c0 c1 c2 hma hbw
 have HM1 := Lib.hid hma; clear hma
 have HBW := Lib.hid hbw; clear hbw
 have hw1' : w.alloc (.cells #[.slice ra rn rc, .slice ba bn bc, .slice oa on oc] 57) = w1 := hw1.symm
 clear hw1 hm hs HM
 go_enter Tryz.func119, Tryz.ntmps119
 go_wp2_with fail
 try rw [hw1']
 clear hw1'
 refine (ref05_any ra ba oa rn rc bn bc on oc m w1 HM1.out HSH.out.r HSH.out.b HSH.out.o HSH.out.x).mono ?_
 rw [HC.out]
 rintro e w2 ⟨rfl, hb⟩
 have HB2 := Lib.hid (HBW.out.trans (hb.mono HBW.out.size))
 have c0 := cell_st hb c0
 have c1 := cell_st hb c1
 have c2 := cell_st hb c2
 have HM2 := Lib.hid (HM1.out.below hb (Nat.le_refl _))
 clear hb HM1 HBW
 go_wp2_with (at_builtin; refine appAny _ rfl _ _ rfl w2.heap.size _ [] rfl (Own.nil _ _) ra rn rc m.res rfl HM2.out.res (by simp; omega) (Nat.le_refl _) ?_)
 intro v4 w3 hO3 _ hb3 _
 replace hO3 : Own w3 w2.heap.size v4 m.res := hO3
 have hst := (OnWay.start (m := m)).pr HOK.out
 obtain ⟨a4, c4, rfl, hi4⟩ := hO3.ints (by rw [HRL.out]; omega) (fun x hx => by have := hst.all HOK.out x hx; omega)
 rw [HRL.out] at hi4 ⊢
 have HI4 := Lib.hid hi4
 have c0 := cell_st hb3 c0
 have c1 := cell_st hb3 c1
 have c2 := cell_st hb3 c2
 have HM3 := Lib.hid (HM2.out.below hb3 (Nat.le_refl _))
 have HB3 := Lib.hid (HB2.out.trans (hb3.mono HB2.out.size))
 obtain ⟨N, hN⟩ : ∃ N : Nat, N = 8000002 := ⟨_, rfl⟩
 have HN := Lib.hid hN
 clear hN hi4 hst hO3 hb3 HM2 HB2
 go_wp2_with fail
 go_loopg [4, 5, 6, 7] N (fun g' s4 s5 s6 s7 wr => ∃ (j : Nat) (a : Option Addr) (n c : Nat), j + g' = N ∧ s4 = .slice a n c ∧ Ints wr a n c (riseL m j m.res) ∧ (∀ j', j' < j → stepL m (riseL m j' m.res) ≠ none) ∧ Below w3.heap.size w3 wr)
 case atStart => exact ⟨0, _, _, _, by omega, rfl, HI4.out, fun j' h => by omega, Below.refl _ _⟩
 case round =>
   obtain ⟨j, a, n, c, hj, rfl, hi, hst, hB⟩ := hrel
   have c0w := cell_st hB c0
   have c1w := cell_st hB c1
   have c2w := cell_st hB c2
   have hjb := rise_count HOK.out hst
   have HJ := Lib.hid (And.intro hj hjb)
   have HST := Lib.hid hst
   have HI := Lib.hid hi
   have HB := Lib.hid hB
   have HSP := Lib.hid (step13_yes ra ba oa a rn rc bn bc on oc n c m (riseL m j m.res) wr (HM3.out.below hB (Nat.le_refl _)) HC.out hi ((riseL_on HOK.out j).1.pr HOK.out))
   clear hj hjb hst hi hB
   cases hsl : stepL m (riseL m j m.res) with
   | none =>
     rw [hsl] at HSP
     have HLE := Lib.hid (leastM_end HOK.out hsl); clear hsl
     go_wp2_with fail
     refine HSP.out.mono ?_
     rintro e w5 ⟨a5, n5, c5, rfl, hi5, hb5⟩
     have HI5 := Lib.hid (HI.out.below hb5 (Nat.le_refl _))
     have HB5 := Lib.hid (HB3.out.trans ((HB.out.trans (hb5.mono HB.out.size)).mono HB3.out.size))
     clear hb5 hi5
     simp only [Option.isSome_none]
     go_wp2_with fail
     go_ret2
     exact ⟨a, n, c, rfl, by rw [HLE.out]; exact HI5.out, HB5.out⟩
   | some p' =>
     rw [hsl] at HSP
     have hmr := riseL_more (m := m) j m.res
     rw [hsl] at hmr
     have HMR := Lib.hid (And.intro hmr hsl); clear hmr hsl
     go_wp2_with fail
     refine HSP.out.mono ?_
     rintro e w5 ⟨a5, n5, c5, rfl, hi5, hb5⟩
     have HI5 := Lib.hid (show Ints w5 a5 n5 c5 p' from hi5)
     have HB5 := Lib.hid (HB.out.trans (hb5.mono HB.out.size))
     clear hb5 hi5
     simp only [Option.isSome_some]
     go_wp2_with fail
     go_roundg (gk - 1)
     case measure => have := HJ.out; have := HN.out; omega
     case rel =>
       refine ⟨j + 1, a5, n5, c5, by have := HJ.out; have := HN.out; omega, rfl, by rw [HMR.out.1]; exact HI5.out, fun j' h => ?_, HB5.out⟩
       by_cases e : j' = j
       · subst e; rw [HMR.out.2]; simp
       · exact HST.out j' (by omega)
end Go.Proofs.YtkddkkcfpnndlaaGreatDoor

namespace Go.Proofs.YtkddkkcfpnndlaaGreatDoor
open Go.RowKit Sale

theorem ORows.rows {w : World} {base : Nat} {v : Value} {xss : List (List Int)} (h : ORows w base v xss) (hb : ∀ xs, xs ∈ xss → xs.length ≤ 4611686018427387904) (hbig : xss.length ≤ 4611686018427387904) : ∃ a c, v = .slice a xss.length c ∧ Rows w a xss.length c xss :=
 (h.own hb).rows hbig
theorem gainsM_small (m : Mkt) (h : m.res.length ≤ 8) : ∀ xs, xs ∈ gainsM m → xs.length ≤ 4611686018427387904 := fun xs hx => by
 obtain ⟨b, _, rfl⟩ := List.mem_map.1 hx
 rw [gainRow_length]; omega
theorem First11M {m : Mkt} (h : MOk m) (ga oa : Option Addr) (gn gc on oc : Nat) (w : World) (hg : Rows w ga gn gc (gainsM m)) (ho : Ints w oa on oc m.ord) :
   Calls Tryz.prog 12 #[.slice ga gn gc, .int .i64 (m.res.length : Nat), .slice oa on oc] w (RetRow 0 (hasM m) gn w) := by
 have h1 := h.ordN.1
 have h2 := h.ord
 rw [h1] at ho h2
 exact first11_yes ga oa gn gc on oc (gainsM m) m.res.length (ordN m) w hg ho h.wcheck (by rw [gainsM_length]; exact h2)

end Go.Proofs.YtkddkkcfpnndlaaGreatDoor

namespace Go.Proofs.YtkddkkcfpnndlaaGreatDoor
open Go.RowKit Sale

def outA (m : Mkt) : Outc := if mcheck m = true then outM m else ⟨[], []⟩
def outE (m : Mkt) : Int := if mcheck m = true then 0 else 1
theorem oof15_results {h : Nat} {v0 v1 : Value} {tmps : Array Value} {e : Int} (t2 : tmps[2]?.getD undef = .pointer (some ⟨h + 1, 0, none⟩)) (t3 : tmps[3]?.getD undef = .int .i64 e) (W : World) (hO : VRow W (h + 1) 70 [v0, v1]) :
   (results Tryz.f49 tmps).run Tryz.prog W = .ok (.tuple #[.agg #[v0, v1], .int .i64 e]) W := by
 have c0 := hO.cell (k := 0) rfl
 have c1 := hO.cell (k := 1) rfl
 simp [results, Tryz.results49, go_sem, t2, t3, c0, c1]
set_option maxRecDepth 100000 in
set_option maxHeartbeats 2000000 in
theorem oof15_no (ra ba oa : Option Addr) (rn rc bn bc on oc : Nat) (m : Mkt) (w : World) (hm : MktAt w ra ba oa rn rc bn bc on oc m) (hs : Short rn bn on m) (hc : mcheck m = false) :
   Calls Tryz.prog 49 #[.agg #[.slice ra rn rc, .slice ba bn bc, .slice oa on oc]] w fun e w' => e = .returned (.tuple #[.agg #[.slice none 0 0, .slice none 0 0], .int .i64 1]) ∧ Below w.heap.size w w' := by
 obtain ⟨hv1, hv2, hb0⟩ := oc0_at w ra ba oa rn rc bn bc on oc
 have HG := Lib.hid (ref05_any ra ba oa rn rc bn bc on oc m _ (hm.below hb0 (Nat.le_refl _)) hs.r hs.b hs.o hs.x)
 rw [hc] at HG
 have HV := Lib.hid (And.intro hv2 hb0); clear hv1 hv2 hb0 hm hc hs
 go_enter Tryz.func49, Tryz.ntmps49
 go_wp2_with fail
 refine HG.out.mono ?_
 rintro e w1 ⟨rfl, hb1⟩
 have hv1 := HV.out.1.below hb1 HV.out.1.lt
 have k0 := hv1.cell (k := 0) rfl
 have k1 := hv1.cell (k := 1) rfl
 have f0 := hv1.frozen 0
 have f1 := hv1.frozen 1
 have hv2 := hv1.set 0 (.slice none 0 0)
 have g1 := hv2.cell (k := 1) rfl
 have h1 := hv2.frozen 1
 have HB1 := Lib.hid (And.intro (HV.out.2.trans (hb1.mono HV.out.2.size)) ((hv2.set 1 (.slice none 0 0)))); clear hb1 hv1 hv2
 go_wp2_with fail
 exact bodyPost_ret (oof15_results rfl rfl _ HB1.out.2) rfl ⟨rfl, (HB1.out.1.setCell (p := ⟨w.heap.size + 1, 0, none⟩) (by simp) _).setCell (p := ⟨w.heap.size + 1, 1, none⟩) (by simp) _⟩

set_option maxRecDepth 100000 in
set_option maxHeartbeats 2000000 in
theorem oof15_yes (ra ba oa : Option Addr) (rn rc bn bc on oc : Nat) (m : Mkt) (w : World) (hm : MktAt w ra ba oa rn rc bn bc on oc m) (hc : mcheck m = true) :
   Calls Tryz.prog 49 #[.agg #[.slice ra rn rc, .slice ba bn bc, .slice oa on oc]] w fun e w' => ∃ ha hcp pa pn pc, e = .returned (.tuple #[.agg #[.slice ha bn hcp, .slice pa pn pc], .int .i64 0]) ∧ OutAt w' ha pa bn hcp pn pc (outM m) ∧ Below w.heap.size w w' := by
 obtain ⟨hv1, hv2, hb0⟩ := oc0_at w ra ba oa rn rc bn bc on oc
 have hok := mcheck_ok hc
 have hrl := hm.res.len
 have hbl := hm.bids.len
 have hs := short_of hok hm
 have hbn8 := hok.m8
 rw [hbl] at hbn8
 have HG := Lib.hid (ref05_any ra ba oa rn rc bn bc on oc m _ (hm.below hb0 (Nat.le_refl _)) hs.r hs.b hs.o hs.x)
 rw [hc] at HG
 have HV := Lib.hid (And.intro hv1 (And.intro hv2 hb0)); clear hv1 hv2 hb0
 have HM := Lib.hid (And.intro hm (And.intro hc hok)); clear hm hc hok hs
 have HRL := Lib.hid hrl; clear hrl
 have HBL := Lib.hid hbl; clear hbl
 go_enter Tryz.func49, Tryz.ntmps49
 go_wp2_with fail
 refine HG.out.mono ?_
 rintro e w1 ⟨rfl, hb1⟩
 have hm1 := HV.out.1.below hb1 HV.out.1.lt
 have ho1 := HV.out.2.1.below hb1 HV.out.2.1.lt
 have hB1 := HV.out.2.2.trans (hb1.mono HV.out.2.2.size)
 have k0 := hm1.cell (k := 0) rfl
 have k1 := hm1.cell (k := 1) rfl
 have k2 := hm1.cell (k := 2) rfl
 have HGA := Lib.hid (gains05_yes ra ba oa rn rc bn bc on oc m w1 (HM.out.1.below hB1 (Nat.le_refl _)) HM.out.2.1)
 have H1 := Lib.hid (And.intro hm1 (And.intro ho1 hB1)); clear hm1 ho1 hB1 HG hb1
 go_wp2_with fail
 refine HGA.out.mono ?_
 rintro e w2 ⟨v, rfl, hO, hb2⟩
 obtain ⟨ga, gc, rfl, hR⟩ := hO.rows (gainsM_small m HM.out.2.2.n8) (by rw [gainsM_length]; have := HM.out.2.2.m8; omega)
 rw [gainsM_length, HBL.out] at hR ⊢
 have hm2 := H1.out.1.below hb2 H1.out.1.lt
 have ho2 := H1.out.2.1.below hb2 H1.out.2.1.lt
 have hB2 := H1.out.2.2.trans (hb2.mono H1.out.2.2.size)
 have k0 := hm2.cell (k := 0) rfl
 have k1 := hm2.cell (k := 1) rfl
 have k2 := hm2.cell (k := 2) rfl
 have hf := First11M HM.out.2.2 ga oa bn gc on oc w2 hR (HM.out.1.ord.below hB2 (Nat.le_refl _))
 rw [HRL.out] at hf
 have HF := Lib.hid hf; clear hf
 have H2 := Lib.hid (And.intro hm2 (And.intro ho2 hB2)); clear hm2 ho2 hB2 HGA hb2 hO hR H1
 go_wp2_with fail
 refine HF.out.mono ?_
 rintro e w3 ⟨hhl, Bh, rfl, hRow, hBh, hhbd, hb3⟩
 have hi3 := hRow.ints (by omega) hhbd
 rw [hhl] at hi3
 obtain ⟨ha, hha⟩ : ∃ ha, ha = some (⟨Bh, 0, none⟩ : Addr) := ⟨_, rfl⟩
 rw [← hha] at hi3 ⊢
 clear hha
 have hm3 := H2.out.1.below hb3 H2.out.1.lt
 have ho3 := H2.out.2.1.below hb3 H2.out.2.1.lt
 have hB3 := H2.out.2.2.trans (hb3.mono H2.out.2.2.size)
 have k0 := hm3.cell (k := 0) rfl
 have k1 := hm3.cell (k := 1) rfl
 have k2 := hm3.cell (k := 2) rfl
 have HLE := Lib.hid (least13_yes ra ba oa rn rc bn bc on oc m w3 (HM.out.1.below hB3 (Nat.le_refl _)) HM.out.2.1)
 have H3 := Lib.hid (And.intro ho3 (And.intro hB3 hi3)); clear hm3 ho3 hB3 hi3 HF hb3 H2 hhl hRow hBh hhbd
 go_wp2_with fail
 refine HLE.out.mono ?_
 rintro e w4 ⟨pa, pn, pc, rfl, hi4, hb4⟩
 have ho4 := H3.out.1.below hb4 H3.out.1.lt
 have hB4 := H3.out.2.1.trans (hb4.mono H3.out.2.1.size)
 have hi5 := H3.out.2.2.below hb4 (Nat.le_refl _)
 have hs4 : ∀ v, v ∈ ([.slice none 0 0, .slice none 0 0] : List Value) → ∃ a n c, v = .slice a n c := fun v hv => by
   simp at hv
   exact ⟨none, 0, 0, hv⟩
 have far1 := hi5.apartV ho4 hs4
 have far2 := hi4.apartV ho4 hs4
 have fr0 := ho4.frozen 0
 have kk0 := ho4.cell (k := 0) rfl
 have ho5 := ho4.set 0 (.slice ha bn bn)
 have fr1 := ho5.frozen 1
 have gg1 := ho5.cell (k := 1) rfl
 have ho6 := ho5.set 1 (.slice pa pn pc)
 have H4 := Lib.hid (And.intro ho6 (And.intro hB4 (And.intro hi5 (And.intro hi4 (And.intro far1 far2))))); clear ho4 ho5 ho6 hB4 hi5 hi4 far1 far2 hb4 hs4 k0 k1 k2 HLE H3
 go_wp2_with fail
 refine bodyPost_ret (oof15_results rfl rfl _ H4.out.1) rfl ⟨ha, bn, pa, pn, pc, rfl, ⟨?_, ?_⟩, ?_⟩
 · exact (H4.out.2.2.1.far H4.out.2.2.2.2.1 _).far H4.out.2.2.2.2.1 _
 · exact (H4.out.2.2.2.1.far H4.out.2.2.2.2.2 _).far H4.out.2.2.2.2.2 _
 · exact (H4.out.2.1.setCell (p := ⟨w.heap.size + 1, 0, none⟩) (by simp) _).setCell (p := ⟨w.heap.size + 1, 1, none⟩) (by simp) _
end Go.Proofs.YtkddkkcfpnndlaaGreatDoor

namespace Go.Proofs.YtkddkkcfpnndlaaGreatDoor
open Go.RowKit Sale

set_option maxRecDepth 100000 in
set_option maxHeartbeats 2000000 in
theorem has15V_any (la pa : Option Addr) (ln lc pn pc : Nat) (b p : List Int) (x : Int) (w : World) (hb : Ints w la ln lc b) (hp : Ints w pa pn pc p) (hx1 : -1 ≤ x) (hx2 : x < (ln : Int)) (hx3 : x < (pn : Int)) :
   Calls Tryz.prog 121 #[.slice la ln lc, .slice pa pn pc, .int .i64 x] w fun e w' => e = .returned (.int .i64 (hasV b p x)) ∧ ∃ n, w' = w.drewN n := by
 by_cases hx : x = -1
 · subst hx
   clear hb hp
   go_enter Tryz.func121, Tryz.ntmps121
   go_wp2_with fail
   go_ret
   exact ⟨rfl, 0, rfl⟩
 · obtain ⟨k, rfl⟩ := Int.eq_ofNat_of_zero_le (show 0 ≤ x by omega)
   have hk : k < ln := by omega
   have hk2 : k < pn := by omega
   obtain ⟨y, hy, _⟩ := hb.get hk
   obtain ⟨q, hq, _⟩ := hp.get hk2
   obtain ⟨lb, lo, rfl⟩ := hb.addr (by omega)
   obtain ⟨pb, po, rfl⟩ := hp.addr (by omega)
   have cy := hb.cell lb lo rfl k y hy
   have cq := hp.cell pb po rfl k q hq
   have hv : hasV b p (k : Int) = wrap64 (y - q) := by
     unfold hasV
     rw [if_neg hx, Int.toNat_natCast, getD_at hy, getD_at hq]
   rw [hv]
   have i1 : (k : Int) < (ln : Int) := by omega
   have i2 : (k : Int) < (pn : Int) := by omega
   have e1 : decide ((k : Int) < 0) = false := by simp
   clear hv hy hq hb hp hx hx1 hx2 hx3
   go_enter Tryz.func121, Tryz.ntmps121
   go_wp2_with fail
   go_quiet (fail)
   go_wp2_with fail
   go_ret
   exact ⟨rfl, _, rfl⟩

set_option maxRecDepth 100000 in
set_option maxHeartbeats 2000000 in
theorem even15_no (ra ba oa ha pa : Option Addr) (rn rc bn bc on oc hn hc pn pc : Nat) (m : Mkt) (w : World) (hm : MktAt w ra ba oa rn rc bn bc on oc m) (hs : Short rn bn on m) (h : mcheck m = false ∨ hn ≠ bn ∨ pn ≠ rn) :
   Calls Tryz.prog 52 #[.agg #[.slice ra rn rc, .slice ba bn bc, .slice oa on oc], .agg #[.slice ha hn hc, .slice pa pn pc]] w fun e w' => e = .returned (.bool false) ∧ Below w.heap.size w w' := by
 obtain ⟨hv2, hv3, hb0⟩ := ev0_at w ra ba oa ha pa rn rc bn bc on oc hn hc pn pc
 have hm1 := hm.below hb0 (Nat.le_refl _)
 have HK := Lib.hid (ref05_any ra ba oa rn rc bn bc on oc m (ev0 w ra ba oa ha pa rn rc bn bc on oc hn hc pn pc) hm1 hs.r hs.b hs.o hs.x)
 have HV := Lib.hid (And.intro hv2 (And.intro hv3 hb0)); clear hv2 hv3 hb0 hm hm1 hs
 cases hc : mcheck m with
 | false =>
   rw [hc] at HK
   clear hc h
   go_enter Tryz.func52, Tryz.ntmps52
   go_wp2_with fail
   refine HK.out.mono ?_
   rintro e w1 ⟨rfl, hb⟩
   have HB := Lib.hid (HV.out.2.2.trans (hb.mono HV.out.2.2.size)); clear hb
   go_wp2_with fail
   go_ret
   exact ⟨rfl, HB.out⟩
 | true =>
   rw [hc] at HK
   by_cases h1 : hn = bn
   · have h2 : pn ≠ rn := by
       rcases h with h | h | h
       · rw [hc] at h; cases h
       · exact absurd h1 h
       · exact h
     clear hc h
     have e1 : ((hn : Int) != (bn : Int)) = false := by simp [h1]
     have e2 : ((pn : Int) != (rn : Int)) = true := by simp; omega
     have H1 := Lib.hid (And.intro h1 h2); clear h1 h2
     go_enter Tryz.func52, Tryz.ntmps52
     go_wp2_with fail
     refine HK.out.mono ?_
     rintro e w1 ⟨rfl, hb⟩
     have k0 := (HV.out.1.below hb HV.out.1.lt).cell (k := 0) rfl
     have k1 := (HV.out.1.below hb HV.out.1.lt).cell (k := 1) rfl
     have k2 := (HV.out.2.1.below hb HV.out.2.1.lt).cell (k := 0) rfl
     have k3 := (HV.out.2.1.below hb HV.out.2.1.lt).cell (k := 1) rfl
     have HB := Lib.hid (HV.out.2.2.trans (hb.mono HV.out.2.2.size)); clear hb
     go_wp2_with fail
     go_ret
     exact ⟨rfl, HB.out⟩
   · have e1 : ((hn : Int) != (bn : Int)) = true := by simp; omega
     clear hc h
     have H1 := Lib.hid h1; clear h1
     go_enter Tryz.func52, Tryz.ntmps52
     go_wp2_with fail
     refine HK.out.mono ?_
     rintro e w1 ⟨rfl, hb⟩
     have k0 := (HV.out.1.below hb HV.out.1.lt).cell (k := 0) rfl
     have k1 := (HV.out.1.below hb HV.out.1.lt).cell (k := 1) rfl
     have k2 := (HV.out.2.1.below hb HV.out.2.1.lt).cell (k := 0) rfl
     have k3 := (HV.out.2.1.below hb HV.out.2.1.lt).cell (k := 1) rfl
     have HB := Lib.hid (HV.out.2.2.trans (hb.mono HV.out.2.2.size)); clear hb
     go_wp2_with fail
     go_ret
     exact ⟨rfl, HB.out⟩

def cntL (l : List Int) (n : Nat) : List Int := (List.range n).map fun k : Nat => ((l.count (k : Int) : Nat) : Int)
theorem cntL_nil (n : Nat) : cntL [] n = List.replicate n 0 := by
 unfold cntL
 apply List.ext_getElem?
 intro j
 by_cases hj : j < n
 · rw [List.getElem?_map, List.getElem?_range hj, List.getElem?_replicate, if_pos hj]; rfl
 · rw [List.getElem?_eq_none (by simp; omega), List.getElem?_eq_none (by simp; omega)]
theorem cntL_len (l : List Int) (n : Nat) : (cntL l n).length = n := by simp [cntL]
theorem cntL_get (l : List Int) {n k : Nat} (hk : k < n) : (cntL l n)[k]? = some ((l.count (k : Int) : Nat) : Int) := by
 unfold cntL; rw [List.getElem?_map, List.getElem?_range hk]; rfl
theorem cntL_no (l : List Int) (n : Nat) {x : Int} (hx : x < 0) : cntL (l ++ [x]) n = cntL l n := by
 unfold cntL
 apply List.map_congr_left
 intro k _
 rw [List.count_append, List.count_singleton]
 have : (x == (k : Int)) = false := by simp; omega
 rw [this]; simp
theorem cntL_one (l : List Int) (n k : Nat) : (cntL l n).set k (((l.count (k : Int) : Nat) : Int) + 1) = cntL (l ++ [(k : Int)]) n := by
 apply List.ext_getElem?
 intro j
 rw [List.getElem?_set]
 by_cases hj : j < n
 · by_cases e : k = j
   · subst e
     rw [if_pos rfl, cntL_len, if_pos hj, cntL_get _ hj, List.count_append, List.count_singleton]
     simp
   · rw [if_neg e, cntL_get _ hj, cntL_get _ hj, List.count_append, List.count_singleton]
     have : ((k : Int) == (j : Int)) = false := by simp; omega
     rw [this]; simp
 · have h1 : (cntL l n)[j]? = none := List.getElem?_eq_none (by rw [cntL_len]; omega)
   have h2 : (cntL (l ++ [(k : Int)]) n)[j]? = none := List.getElem?_eq_none (by rw [cntL_len]; omega)
   rw [h1, h2, cntL_len]
   split
   · rw [if_neg (by omega)]
   · rfl
theorem ev_no_bid {m : Mkt} {o : Outc} {i : Nat} {x : Int} (h : o.has[i]? = some x) (hx : evBid m o i x = false) : evenB m o = false := by
 unfold evenB
 rw [evBids_no h (List.getElem?_eq_some_iff.1 h).1 hx]
 simp
theorem ev_no_item {m : Mkt} {o : Outc} {k : Nat} (hk : k < o.prices.length) (h : evPrice m o k = false ∨ 1 < o.has.count (k : Int)) : evenB m o = false := by
 unfold evenB
 rcases h with h | h
 · have : evPrices m o o.prices.length = false := by
     unfold evPrices; rw [List.all_eq_false]; exact ⟨k, List.mem_range.2 hk, by simp [h]⟩
   rw [this]; simp
 · have : evOnce o o.prices.length = false := by
     unfold evOnce; rw [List.all_eq_false]; exact ⟨k, List.mem_range.2 hk, by simp; omega⟩
   rw [this]; simp
theorem ev_yes {m : Mkt} {o : Outc} (hc : mcheck m = true) (h1 : o.has.length = m.bids.length) (h2 : o.prices.length = m.res.length) (h3 : ∀ k, k < o.prices.length → evPrice m o k = true ∧ o.has.count (k : Int) ≤ 1)
   (h4 : ∀ i, i < o.has.length → evBid m o i (o.has.getD i (-1)) = true) : evenB m o = true := by
 unfold evenB
 rw [hc, decide_eq_true h1, decide_eq_true h2]
 simp only [Bool.true_and, Bool.and_eq_true]
 refine ⟨?_, ?_, ?_⟩
 · unfold evBids; rw [List.all_eq_true]; exact fun i hi => h4 i (List.mem_range.1 hi)
 · unfold evPrices; rw [List.all_eq_true]; exact fun k hk => (h3 k (List.mem_range.1 hk)).1
 · unfold evOnce; rw [List.all_eq_true]; exact fun k hk => by simpa using (h3 k (List.mem_range.1 hk)).2
end Go.Proofs.YtkddkkcfpnndlaaGreatDoor

namespace Go.Proofs.YtkddkkcfpnndlaaGreatDoor
open Go.RowKit Sale

structure XAt (w : World) (ra ba oa ha pa : Option Addr) (rn rc bn bc on oc hn hc pn pc : Nat) (wr : World) : Prop where
 v2 : VRow wr w.heap.size 57 [.slice ra rn rc, .slice ba bn bc, .slice oa on oc]
 v3 : VRow wr (w.heap.size + 1) 70 [.slice ha hn hc, .slice pa pn pc]
 below : Below w.heap.size w wr
theorem XAt.step {w : World} {ra ba oa ha pa : Option Addr} {rn rc bn bc on oc hn hc pn pc : Nat} {wr wr' : World} (h : XAt w ra ba oa ha pa rn rc bn bc on oc hn hc pn pc wr) (hb : Below wr.heap.size wr wr') : XAt w ra ba oa ha pa rn rc bn bc on oc hn hc pn pc wr' :=
 ⟨h.v2.below hb h.v2.lt, h.v3.below hb h.v3.lt, h.below.trans (hb.mono h.below.size)⟩
theorem XAt.set {w : World} {ra ba oa ha pa : Option Addr} {rn rc bn bc on oc hn hc pn pc : Nat} {wr : World} (h : XAt w ra ba oa ha pa rn rc bn bc on oc hn hc pn pc wr) {g : Nat} (hg : w.heap.size + 2 ≤ g) (k : Nat) (v : Value) : XAt w ra ba oa ha pa rn rc bn bc on oc hn hc pn pc (wr.setCell ⟨g, k, none⟩ v) :=
 ⟨vrow_far h.v2 (by show w.heap.size ≠ g; omega) _, vrow_far h.v3 (by show w.heap.size + 1 ≠ g; omega) _, h.below.setCell (p := ⟨g, k, none⟩) (by show _ ≤ g; omega) _⟩

set_option maxRecDepth 100000 in
set_option maxHeartbeats 8000000 in
theorem even15_yes (ra ba oa ha pa : Option Addr) (rn rc bn bc on oc hn hc pn pc : Nat) (m : Mkt) (o : Outc) (w : World) (hm : MktAt w ra ba oa rn rc bn bc on oc m) (ho : OutAt w ha pa hn hc pn pc o) (hc' : mcheck m = true) (hhn : hn = bn) (hpn : pn = rn) :
   Calls Tryz.prog 52 #[.agg #[.slice ra rn rc, .slice ba bn bc, .slice oa on oc], .agg #[.slice ha hn hc, .slice pa pn pc]] w fun e w' => e = .returned (.bool (evenB m o)) ∧ Below w.heap.size w w' := by
 subst hhn
 subst hpn
 obtain ⟨hv2, hv3, hb0⟩ := ev0_at w ra ba oa ha pa pn rc hn bc on oc hn hc pn pc
 have hm1 := hm.below hb0 (Nat.le_refl _)
 have hok := mcheck_ok hc'
 have hs := short_of hok hm
 have HK := Lib.hid (ref05_any ra ba oa pn rc hn bc on oc m (ev0 w ra ba oa ha pa pn rc hn bc on oc hn hc pn pc) hm1 hs.r hs.b hs.o hs.x)
 rw [hc'] at HK
 have hrl := hm.res.len
 have hbl := hm.bids.len
 have hhl := ho.has.len
 have hpl := ho.prices.len
 have hn8 := hok.n8
 have hn1 := hok.n1
 have hm8 := hok.m8
 rw [hrl] at hn8 hn1
 rw [hbl] at hm8
 have HL := Lib.hid (And.intro hrl (And.intro hbl (And.intro hhl hpl))); clear hrl hbl hhl hpl
 have HV := Lib.hid (show XAt w ra ba oa ha pa pn rc hn bc on oc hn hc pn pc _ from ⟨hv2, hv3, hb0⟩); clear hv2 hv3 hb0 hm1 hs
 have HM := Lib.hid (And.intro hm (And.intro ho hok)); clear hm ho hok
 have HC := Lib.hid hc'; clear hc'
 have hmk := mkInts pn (by omega)
 go_enter Tryz.func52, Tryz.ntmps52
 go_wp2_with fail
 refine HK.out.mono ?_
 rintro e w1 ⟨rfl, hb⟩
 have HX1 := Lib.hid (HV.out.step hb)
 have k0 := HX1.out.v2.cell (k := 0) rfl
 have k1 := HX1.out.v2.cell (k := 1) rfl
 have k2 := HX1.out.v3.cell (k := 0) rfl
 have k3 := HX1.out.v3.cell (k := 1) rfl
 clear hb HV HK
 go_wp2_with fail
 obtain ⟨g, hg⟩ : ∃ g, g = w1.heap.size := ⟨_, rfl⟩
 have hgw := HX1.out.v3.lt
 have hg2 : w.heap.size + 2 ≤ g := by omega
 have hT : TabI (w1.alloc (.cells (iarr (List.replicate pn 0)) 3)) g (cntL [] pn) := by
   rw [cntL_nil, hg]
   have hr := Row.new w1 3 (List.replicate pn 0)
   exact ⟨_, hr, by simp [iarr], by simp [iarr]⟩
 have HX2 := Lib.hid (HX1.out.step ((Below.refl _ _).alloc (Nat.le_refl _) (.cells (iarr (List.replicate pn 0)) 3)))
 obtain ⟨w2, hw2⟩ : ∃ w2, w2 = w1.alloc (.cells (iarr (List.replicate pn 0)) 3) := ⟨_, rfl⟩
 rw [← hw2] at HX2 hT ⊢
 rw [← hg]
 have HT := Lib.hid hT
 clear hT hw2 hg hgw k0 k1 k2 k3 hmk HX1
 go_loopg [6] hn (fun g' s6 wr => ∃ i : Nat, i + g' = hn ∧ s6 = .int .i64 i ∧ (∀ x, x ∈ o.has.take i → -1 ≤ x ∧ x < (pn : Int)) ∧ TabI wr g (cntL (o.has.take i) pn) ∧ XAt w ra ba oa ha pa pn rc hn bc on oc hn hc pn pc wr)
 case atStart => exact ⟨0, by omega, rfl, fun x h => by simp at h, HT.out, HX2.out⟩
 case round =>
 obtain ⟨i, hi, rfl, hall, hT, hX⟩ := hrel
 have HI := Lib.hid hi; clear hi
 have HA := Lib.hid hall; clear hall
 have HX := Lib.hid hX; clear hX
 have HT3 := Lib.hid hT; clear hT
 clear HT HX2
 have k0 := HX.out.v2.cell (k := 0) rfl
 have k1 := HX.out.v2.cell (k := 1) rfl
 have k2 := HX.out.v3.cell (k := 0) rfl
 have k3 := HX.out.v3.cell (k := 1) rfl
 by_cases hlt : i < hn
 · have hoh := HM.out.2.1.has.below HX.out.below (Nat.le_refl _)
   obtain ⟨x, hx, hxb⟩ := hoh.get hlt
   obtain ⟨hb', ho', rfl⟩ := hoh.addr (by omega)
   have cx := hoh.cell hb' ho' rfl i x hx
   obtain ⟨hx1, hx2⟩ := hxb
   have hsn : o.has.take (i + 1) = o.has.take i ++ [x] := by rw [List.take_add_one, hx]; rfl
   have HSN := Lib.hid hsn; clear hsn
   have hno := fun h => ev_no_bid (m := m) (o := o) hx h
   have HNO := Lib.hid hno; clear hno
   have i1 : (i : Int) < (hn : Int) := by omega
   clear hx hoh
   by_cases q1 : x < -1
   · have f1 : decide (x < -1) = true := by simpa using q1
     have HN := Lib.hid (HNO.out (by unfold evBid; rw [decide_eq_false (by omega)]; rfl))
     go_wp2_with fail
     go_quiet (fail)
     go_wp2_with fail
     go_ret
     exact ⟨ret_bool HN.out.symm, below_drewN HX.out.below _⟩
   have f1 : decide (x < -1) = false := by simpa using q1
   by_cases q2 : (pn : Int) ≤ x
   · have f2 : decide ((pn : Int) ≤ x) = true := by simpa using q2
     have HN := Lib.hid (HNO.out (by unfold evBid; rw [decide_eq_false (p := x < (o.prices.length : Int)) (by rw [HL.out.2.2.2]; omega)]; simp))
     go_wp2_with fail
     go_quiet (fail)
     go_wp2_with fail
     go_ret
     exact ⟨ret_bool HN.out.symm, below_drewN HX.out.below _⟩
   have f2 : decide ((pn : Int) ≤ x) = false := by simpa using q2
   have hpx : x < (pn : Int) := by omega
   have hpx1 : -1 ≤ x := by omega
   have HQ := Lib.hid (And.intro hpx1 hpx)
   by_cases q3 : x < 0
   · have f3 : decide (0 ≤ x) = false := by simpa using q3
     have HC3 := Lib.hid (cntL_no (o.has.take i) pn q3)
     go_wp2_with fail
     go_quiet (fail)
     go_wp2_with fail
     go_roundg (gk - 1)
     case measure => have := HI.out; omega
     case rel =>
       refine ⟨i + 1, by have := HI.out; omega, by go_num, fun y hy => ?_, ?_, HX.out.step (below_drewN (Below.refl _ _) _)⟩
       · rw [HSN.out] at hy
         rcases List.mem_append.1 hy with h | h
         · exact HA.out y h
         · rw [List.mem_singleton.1 h]; exact HQ.out
       · rw [HSN.out, HC3.out]
         exact Tab.below HT3.out (below_drewN (Below.refl _ _) _) (Tab.lt HT3.out)
   · have f3 : decide (0 ≤ x) = true := by simp; omega
     obtain ⟨k, rfl⟩ := Int.eq_ofNat_of_zero_le (show 0 ≤ x by omega)
     have hkp : k < pn := by omega
     have hcl := cntL_get (o.has.take i) hkp
     have hcn : (o.has.take i).count (k : Int) ≤ 8 := by
       have h1 := List.count_le_length (a := (k : Int)) (l := o.has.take i)
       rw [List.length_take] at h1
       omega
     have hone := cntL_one (o.has.take i) pn k
     obtain ⟨c, hcc⟩ : ∃ c, c = (o.has.take i).count (k : Int) := ⟨_, rfl⟩
     rw [← hcc] at hcl hcn hone
     have HON := Lib.hid hone; clear hone hcc
     go_wp2_with fail
     go_quiet (fail)
     have hbd : ∀ n, Below wr.heap.size wr (wr.drewN n) := fun n => below_drewN (Below.refl _ _) n
     have cg : ∀ n, (wr.drewN n).cell? ⟨g, k, none⟩ = some (.int .i64 (c : Int)) := fun n => Tab.cell (Tab.below HT3.out (hbd n) (Tab.lt HT3.out)) (by rw [List.getElem?_map, hcl]; rfl)
     have fg : ∀ n, (wr.drewN n).frozen? ⟨g, k, none⟩ = false := fun n => Tab.frozen (Tab.below HT3.out (hbd n) (Tab.lt HT3.out)) k
     have HBD := Lib.hid hbd; clear hbd
     go_wp2_with fail
     go_roundg (gk - 1)
     case measure => have := HI.out; omega
     case rel =>
       refine ⟨i + 1, by have := HI.out; omega, by go_num, fun y hy => ?_, ?_, (HX.out.step (HBD.out _)).set hg2 _ _⟩
       · rw [HSN.out] at hy
         rcases List.mem_append.1 hy with h | h
         · exact HA.out y h
         · rw [List.mem_singleton.1 h]; exact HQ.out
       · rw [HSN.out, ← HON.out]
         exact TabI.set (Tab.below HT3.out (HBD.out _) (Tab.lt HT3.out)) k _
 obtain rfl : hn = i := by have := HI.out; omega
 have hfull : o.has.take hn = o.has := List.take_of_length_le (by rw [HL.out.2.2.1]; exact Nat.le_refl _)
 rw [hfull] at HA HT3
 clear hfull
 obtain ⟨w4, rfl⟩ : ∃ w4, w4 = wr := ⟨_, rfl⟩
 go_wp2_with fail
 clear k0 k1 k2 k3
 go_loopg [7] pn (fun g' s7 wr => ∃ k : Nat, k + g' = pn ∧ s7 = .int .i64 k ∧ (∀ k', k' < k → evPrice m o k' = true ∧ o.has.count (k' : Int) ≤ 1) ∧ Below w4.heap.size w4 wr)
 case atStart => exact ⟨0, by omega, rfl, fun k' h => by omega, Below.refl _ _⟩
 case round =>
 obtain ⟨k, hk, rfl, hit, hB⟩ := hrel
 have HK := Lib.hid hk; clear hk
 have HIT := Lib.hid hit; clear hit
 have hX5 := HX.out.step hB
 have k0 := hX5.v2.cell (k := 0) rfl
 have k1 := hX5.v2.cell (k := 1) rfl
 have k2 := hX5.v3.cell (k := 0) rfl
 have k3 := hX5.v3.cell (k := 1) rfl
 have HX5 := Lib.hid hX5
 have HB5 := Lib.hid hB
 have HT5 := Lib.hid (Tab.below HT3.out hB (Tab.lt HT3.out))
 clear hX5 hB
 by_cases hlt : k < pn
 · have hop := HM.out.2.1.prices.below HX5.out.below (Nat.le_refl _)
   have hrs := HM.out.1.res.below HX5.out.below (Nat.le_refl _)
   obtain ⟨p, hp, _⟩ := hop.get hlt
   obtain ⟨r, hr, _⟩ := hrs.get hlt
   obtain ⟨pb, po, rfl⟩ := hop.addr (by omega)
   obtain ⟨rb, ro, rfl⟩ := hrs.addr (by omega)
   have cp := hop.cell pb po rfl k p hp
   have cr := hrs.cell rb ro rfl k r hr
   have hcl := cntL_get o.has hlt
   have cg : wr.cell? ⟨g, k, none⟩ = some (.int .i64 ((o.has.count (k : Int) : Nat) : Int)) := Tab.cell HT5.out (by rw [List.getElem?_map, hcl]; rfl)
   have hev : evPrice m o k = (decide (r ≤ p) && (decide (p ≤ 2000000) && (decide (0 < o.has.count (k : Int)) || p == r))) := by
     unfold evPrice; rw [getD_at hp, getD_at hr]
   have hno := fun h => ev_no_item (m := m) (o := o) (k := k) (by rw [HL.out.2.2.2]; exact hlt) h
   obtain ⟨c, hcc⟩ : ∃ c, c = o.has.count (k : Int) := ⟨_, rfl⟩
   rw [← hcc] at cg hev hno
   have HEV := Lib.hid (And.intro hev (And.intro hno hcc)); clear hev hno hcl hcc hp hr hop hrs
   have i1 : (k : Int) < (pn : Int) := by omega
   by_cases q1 : 1 < c
   · have f1 : decide ((1 : Int) < (c : Int)) = true := by simp; omega
     have f1' : decide (1 < c) = true := by simpa using q1
     have HN := Lib.hid (HEV.out.2.1 (.inr q1))
     go_wp2_with fail
     go_quiet (fail)
     go_wp2_with fail
     go_ret
     exact ⟨ret_bool HN.out.symm, below_drewN HX5.out.below _⟩
   have f1 : decide ((1 : Int) < (c : Int)) = false := by simp; omega
   have f1' : decide (1 < c) = false := by simpa using q1
   by_cases q2 : p < r
   · have f2 : decide (p < r) = true := by simpa using q2
     have HN := Lib.hid (HEV.out.2.1 (.inl (by rw [HEV.out.1, decide_eq_false (p := r ≤ p) (by omega)]; rfl)))
     go_wp2_with fail
     go_quiet (fail)
     go_wp2_with fail
     go_ret
     exact ⟨ret_bool HN.out.symm, below_drewN HX5.out.below _⟩
   have f2 : decide (p < r) = false := by simpa using q2
   by_cases q3 : 2000000 < p
   · have f3 : decide (2000000 < p) = true := by simpa using q3
     have HN := Lib.hid (HEV.out.2.1 (.inl (by rw [HEV.out.1, decide_eq_false (p := p ≤ 2000000) (by omega)]; simp)))
     go_wp2_with fail
     go_quiet (fail)
     go_wp2_with fail
     go_ret
     exact ⟨ret_bool HN.out.symm, below_drewN HX5.out.below _⟩
   have f3 : decide (2000000 < p) = false := by simpa using q3
   by_cases q4 : c = 0
   · have f4 : ((c : Int) == 0) = true := by simpa using q4
     have f4' : (c == 0) = true := by simpa using q4
     by_cases q5 : p = r
     · have f5 : (p != r) = false := by simpa using q5
       have HY := Lib.hid (show evPrice m o k = true ∧ c ≤ 1 from ⟨by rw [HEV.out.1, decide_eq_true (p := r ≤ p) (by omega), decide_eq_true (p := p ≤ 2000000) (by omega)]; simp [q5], by omega⟩)
       clear q5
       go_wp2_with fail
       go_quiet (fail)
       go_wp2_with fail
       go_roundg (gk - 1)
       case measure => have := HK.out; omega
       case rel =>
         refine ⟨k + 1, by have := HK.out; omega, by go_num, fun k' h => ?_, by first | exact below_drewN HB5.out _ | skip⟩
         by_cases e : k' = k
         · subst e; rw [← HEV.out.2.2]; exact HY.out
         · exact HIT.out k' (by omega)
     · have f5 : (p != r) = true := by simpa using q5
       have HN := Lib.hid (HEV.out.2.1 (.inl (by rw [HEV.out.1, decide_eq_false (p := 0 < c) (by omega)]; simp [q5])))
       go_wp2_with fail
       go_quiet (fail)
       go_wp2_with fail
       go_ret
       exact ⟨ret_bool HN.out.symm, below_drewN HX5.out.below _⟩
   · have f4 : ((c : Int) == 0) = false := by simpa using q4
     have f4' : (c == 0) = false := by simpa using q4
     have HY := Lib.hid (show evPrice m o k = true ∧ c ≤ 1 from ⟨by rw [HEV.out.1, decide_eq_true (p := r ≤ p) (by omega), decide_eq_true (p := p ≤ 2000000) (by omega), decide_eq_true (p := 0 < c) (by omega)]; rfl, by omega⟩)
     go_wp2_with fail
     go_quiet (fail)
     go_wp2_with fail
     go_roundg (gk - 1)
     case measure => have := HK.out; omega
     case rel =>
       refine ⟨k + 1, by have := HK.out; omega, by go_num, fun k' h => ?_, by first | exact below_drewN HB5.out _ | skip⟩
       by_cases e : k' = k
       · subst e; rw [← HEV.out.2.2]; exact HY.out
       · exact HIT.out k' (by omega)
 obtain rfl : pn = k := by have := HK.out; omega
 obtain ⟨w5, rfl⟩ : ∃ w5, w5 = wr := ⟨_, rfl⟩
 go_wp2_with fail
 clear k0 k1 k2 k3
 go_loopg [8, 9, 10] hn (fun g' s8 s9 s10 wr => ∃ i : Nat, i + g' = hn ∧ s8 = .int .i64 i ∧ (∀ i', i' < i → evBid m o i' (o.has.getD i' (-1)) = true) ∧ Below w5.heap.size w5 wr)
 case atStart => exact ⟨0, by omega, rfl, fun k' h => by omega, Below.refl _ _⟩
 case round =>
 obtain ⟨i, hi, rfl, hbs, hB⟩ := hrel
 have HI := Lib.hid hi; clear hi
 have HBS := Lib.hid hbs; clear hbs
 have hX6 := HX5.out.step hB
 have k0 := hX6.v2.cell (k := 0) rfl
 have k1 := hX6.v2.cell (k := 1) rfl
 have k2 := hX6.v3.cell (k := 0) rfl
 have k3 := hX6.v3.cell (k := 1) rfl
 have HX6 := Lib.hid hX6
 have HB6 := Lib.hid hB
 clear hX6 hB
 by_cases hlt : i < hn
 · have hoh := HM.out.2.1.has.below HX6.out.below (Nat.le_refl _)
   obtain ⟨x, hx, _⟩ := hoh.get hlt
   obtain ⟨hb', ho', rfl⟩ := hoh.addr (by omega)
   have cx := hoh.cell hb' ho' rfl i x hx
   obtain ⟨hx1, hx2⟩ := HA.out x (List.mem_of_getElem? hx)
   obtain ⟨L, hL⟩ : ∃ L, m.bids[i]? = some L := ⟨_, List.getElem?_eq_getElem (by rw [HL.out.2.1]; exact hlt)⟩
   have hgL : m.bids.getD i [] = L := by rw [List.getD_eq_getElem?_getD, hL]; rfl
   have hbok := HM.out.2.2.bid_at (i := i) (by rw [HL.out.2.1]; exact hlt)
   rw [hgL, HL.out.1] at hbok
   have hm6 := HM.out.1.below HX6.out.below (Nat.le_refl _)
   have hop := HM.out.2.1.prices.below HX6.out.below (Nat.le_refl _)
   obtain ⟨bb, bo, rfl⟩ := hm6.bids.addr (by omega)
   obtain ⟨la, ln, lc, hcl, hli⟩ := hm6.bids.cell bb bo rfl i L hL
   have hll := hli.len
   have hlb := hli.big
   have hgx : o.has.getD i (-1) = x := getD_at hx
   have hno := fun h => ev_no_bid (m := m) (o := o) hx h
   have HNO := Lib.hid hno
   have hnext : evBid m o i x = true → ∀ i', i' < i + 1 → evBid m o i' (o.has.getD i' (-1)) = true := fun h i' hi' => by
     by_cases e : i' = i
     · subst e; rw [hgx]; exact h
     · exact HBS.out i' (by omega)
   have HNX := Lib.hid hnext
   have HLI := Lib.hid (And.intro hli hop)
   have i1 : (i : Int) < (hn : Int) := by omega
   have HXX := Lib.hid (And.intro hx1 hx2)
   clear hno hnext hgx hx hoh hL hm6 hop hli
   by_cases q4 : ln = 0
   · have e4 : ((ln : Int) == 0) = true := by simp [q4]
     have e4' : (ln == 0) = true := by simp [q4]
     have hev := evBid_empty (m := m) (o := o) (i := i) (x := x) (by rw [hgL, hll, q4]) hx1 (by rw [HL.out.2.2.2]; exact hx2)
     by_cases q3 : x = -1
     · have f3 : (x != -1) = false := by simpa using q3
       have HY := Lib.hid (HNX.out (by rw [hev, q3]; rfl))
       clear hev q3
       go_wp2_with fail
       go_roundg (gk - 1)
       case measure => have := HI.out; omega
       case rel => exact ⟨i + 1, by have := HI.out; omega, by go_num, HY.out, HB6.out⟩
     · have f3 : (x != -1) = true := by simpa using q3
       have HN := Lib.hid (HNO.out (by rw [hev]; simpa using q3))
       clear hev
       go_wp2_with fail
       go_ret
       exact ⟨ret_bool HN.out.symm, HX6.out.below⟩
   · have e4 : ((ln : Int) == 0) = false := by simp; omega
     have e4' : (ln == 0) = false := by simp; omega
     have hne : (m.bids.getD i []).length ≠ 0 := by rw [hgL, hll]; exact q4
     have hlp : ln = pn := by
       rcases hbok with h | ⟨h, _⟩
       · rw [h] at hll; simp at hll; omega
       · omega
     subst hlp
     have HHS := Lib.hid (fun n : Nat => has15V_any la pa ln lc ln pc L o.prices x (wr.drewN n) (HLI.out.1.below (below_drewN (Below.refl _ _) n) (Nat.le_refl _)) (HLI.out.2.below (below_drewN (Below.refl _ _) n) (Nat.le_refl _)) hx1 hx2 hx2)
     obtain ⟨now, hnow⟩ : ∃ now, now = hasV L o.prices x := ⟨_, rfl⟩
     rw [← hnow] at HHS
     have hnow' : now = hasV (m.bids.getD i []) o.prices x := by rw [hgL]; exact hnow
     have HNOW := Lib.hid (And.intro hnow' (And.intro hne hgL))
     have hnb := hasV_bd L o.prices x
     rw [← hnow] at hnb
     obtain ⟨hnb1, hnb2⟩ := hnb
     obtain ⟨gO, hgO⟩ : ∃ x, x = gk - 1 := ⟨_, rfl⟩
     have HGO := Lib.hid hgO
     clear hnow hnow' hne hbok hll hgO hgL
     by_cases q5 : now < 0
     · have f5 : decide (now < 0) = true := by simpa using q5
       have HN := Lib.hid (HNO.out (evBid_low (m := m) (o := o) (i := i) (x := x) HNOW.out.2.1 (by rw [← HNOW.out.1]; exact q5)))
       go_wp2_with fail
       go_quiet ((go_at_call 121; with_reducible exact Calls.quiet_of (HHS.out _)))
       go_wp2_with fail
       go_ret
       exact ⟨ret_bool HN.out.symm, below_drewN HX6.out.below _⟩
     · have f5 : decide (now < 0) = false := by simpa using q5
       go_wp2_with fail
       go_quiet ((go_at_call 121; with_reducible exact Calls.quiet_of (HHS.out _)))
       go_wp2_with fail
       obtain ⟨w6, rfl⟩ : ∃ w6, w6 = wr := ⟨_, rfl⟩
       go_loopg [10] ln (fun g' s10 wr => ∃ k : Nat, k + g' = ln ∧ s10 = .int .i64 k ∧ (∀ j : Nat, j < k → hasV L o.prices (j : Int) ≤ now) ∧ Below w6.heap.size w6 wr)
       case atStart => exact ⟨0, by omega, rfl, fun j h => by omega, below_drewN (Below.refl _ _) _⟩
       case round =>
         obtain ⟨k, hk, rfl, hle, hB⟩ := hrel
         have HK := Lib.hid hk; clear hk
         have HLE := Lib.hid hle; clear hle
         have hX7 := HX6.out.step hB
         have k0 := hX7.v2.cell (k := 0) rfl
         have k1 := hX7.v2.cell (k := 1) rfl
         have k2 := hX7.v3.cell (k := 0) rfl
         have k3 := hX7.v3.cell (k := 1) rfl
         have hclv := cell_st hB hcl
         have HX7 := Lib.hid hX7
         have HB7 := Lib.hid hB
         clear hX7 hB
         by_cases hkl : k < ln
         · have HHK := Lib.hid (fun n : Nat => has15V_any la pa ln lc ln pc L o.prices (k : Int) (wr.drewN n) (HLI.out.1.below (below_drewN HB7.out n) (Nat.le_refl _)) (HLI.out.2.below (below_drewN HB7.out n) (Nat.le_refl _)) (by omega) (by omega) (by omega))
           obtain ⟨v, hv⟩ : ∃ v, v = hasV L o.prices (k : Int) := ⟨_, rfl⟩
           rw [← hv] at HHK
           have hvb := hasV_bd L o.prices (k : Int)
           rw [← hv] at hvb
           obtain ⟨hvb1, hvb2⟩ := hvb
           have HVV := Lib.hid hv; clear hv
           have i5 : (k : Int) < (ln : Int) := by omega
           by_cases q6 : now < v
           · have f6 : decide (now < v) = true := by simpa using q6
             have HN := Lib.hid (HNO.out (evBid_more (m := m) (o := o) (i := i) (k := k) (x := x) HNOW.out.2.1 (by rw [HL.out.2.2.2]; exact hkl) (by rw [← HNOW.out.1, HNOW.out.2.2, ← HVV.out]; exact q6)))
             go_wp2_with fail
             go_quiet ((go_at_call 121; with_reducible exact Calls.quiet_of (HHK.out _)))
             go_wp2_with fail
             go_ret
             exact ⟨ret_bool HN.out.symm, below_drewN HX7.out.below _⟩
           · have f6 : decide (now < v) = false := by simpa using q6
             go_wp2_with fail
             go_quiet ((go_at_call 121; with_reducible exact Calls.quiet_of (HHK.out _)))
             go_wp2_with fail
             go_roundg (gk - 1)
             case measure => have := HK.out; omega
             case rel =>
               refine ⟨k + 1, by have := HK.out; omega, by go_num, fun j hj => ?_, below_drewN HB7.out _⟩
               by_cases e : j = k
               · subst e; rw [← HVV.out]; omega
               · exact HLE.out j (by omega)
         · obtain rfl : ln = k := by have := HK.out; omega
           have hev := evBid_ok (m := m) (o := o) (i := i) (x := x) HNOW.out.2.1 hx1 (by rw [HL.out.2.2.2]; exact hx2) (by rw [← HNOW.out.1]; omega) (fun j hj => by rw [← HNOW.out.1, HNOW.out.2.2]; exact HLE.out j (by rw [HL.out.2.2.2] at hj; exact hj))
           have HY := Lib.hid (HNX.out hev); clear hev
           go_wp2_with fail
           go_roundg gO
           case measure => have := HI.out; have := HGO.out; omega
           case rel => exact ⟨i + 1, by have := HI.out; have := HGO.out; omega, by go_num, HY.out, HB6.out.trans (HB7.out.mono HB6.out.size)⟩
 obtain rfl : hn = i := by have := HI.out; omega
 have hyes := ev_yes (m := m) (o := o) HC.out (by rw [HL.out.2.2.1, HL.out.2.1]) (by rw [HL.out.2.2.2, HL.out.1]) (fun k hk => HIT.out k (by rw [HL.out.2.2.2] at hk; exact hk)) (fun i hi => HBS.out i (by rw [HL.out.2.2.1] at hi; exact hi))
 have HY := Lib.hid hyes; clear hyes
 go_wp2_with fail
 go_ret
 exact ⟨ret_bool HY.out.symm, HX6.out.below⟩
end Go.Proofs.YtkddkkcfpnndlaaGreatDoor
