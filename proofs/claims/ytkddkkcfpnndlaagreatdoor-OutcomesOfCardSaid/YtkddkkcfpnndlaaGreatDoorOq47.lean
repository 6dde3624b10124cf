/- Walks: the reference's Even, whatever it is asked of. Walks: the reference's views: what is paid. PaymentsOf: what Lost and Of answer, the program's and the reference's; what the law's state keeps. ViewsOf: what Mine and Result answer, the program's and the reference's, in one form. Walks: the law OutcomesOf. -/
import Derived.Test.YtkddkkcfpnndlaaGreatDoorOq39
import Derived.Test.YtkddkkcfpnndlaaGreatDoorOq11
import Derived.Test.YtkddkkcfpnndlaaGreatDoorOq29
import Derived.Test.YtkddkkcfpnndlaaGreatDoorOq02
import Derived.Test.YtkddkkcfpnndlaaGreatDoorOq01
import Derived.Test.YtkddkkcfpnndlaaGreatDoorOq45
import Derived.Test.YtkddkkcfpnndlaaGreatDoorOq41
import Derived.Test.YtkddkkcfpnndlaaGreatDoorOq10
import Derived.Test.YtkddkkcfpnndlaaGreatDoorOq35
import Derived.Test.YtkddkkcfpnndlaaGreatDoorOq46
import Derived.Test.YtkddkkcfpnndlaaGreatDoorOq36
import Derived.Test.YtkddkkcfpnndlaaGreatDoorOq40
import Derived.Deep.RegionHeld3
import Derived.BigRegion
namespace Go.Proofs.YtkddkkcfpnndlaaGreatDoor
open Go.RowKit Sale

theorem even15_any (ra ba oa ha pa : Option Addr) (rn rc bn bc on oc hn hc pn pc : Nat) (m : Mkt) (o : Outc) (w : World) (hm : MktAt w ra ba oa rn rc bn bc on oc m) (hs : Short rn bn on m) (ho : OutAt w ha pa hn hc pn pc o) :
   Calls Tryz.prog 52 #[.agg #[.slice ra rn rc, .slice ba bn bc, .slice oa on oc], .agg #[.slice ha hn hc, .slice pa pn pc]] w fun e w' => e = .returned (.bool (evenB m o)) ∧ Below w.heap.size w w' := by
 by_cases h : mcheck m = true ∧ hn = bn ∧ pn = rn
 · exact even15_yes ra ba oa ha pa rn rc bn bc on oc hn hc pn pc m o w hm ho h.1 h.2.1 h.2.2
 · have h2 : mcheck m = false ∨ hn ≠ bn ∨ pn ≠ rn := by
     cases hc : mcheck m with
     | false => exact .inl rfl
     | true =>
       by_cases h3 : hn = bn
       · exact .inr (.inr fun h4 => h ⟨hc, h3, h4⟩)
       · exact .inr (.inl h3)
   have e : evenB m o = false := by
     unfold evenB
     rcases h2 with h2 | h2 | h2
     · rw [h2]; rfl
     · rw [decide_eq_false (p := o.has.length = m.bids.length) (by rw [ho.has.len, hm.bids.len]; exact h2)]; simp
     · rw [decide_eq_false (p := o.prices.length = m.res.length) (by rw [ho.prices.len, hm.res.len]; exact h2)]; simp
   rw [e]
   exact even15_no ra ba oa ha pa rn rc bn bc on oc hn hc pn pc m w hm hs h2
theorem oof15_any (ra ba oa : Option Addr) (rn rc bn bc on oc : Nat) (m : Mkt) (w : World) (hm : MktAt w ra ba oa rn rc bn bc on oc m) (hs : Short rn bn on m) :
   Calls Tryz.prog 49 #[.agg #[.slice ra rn rc, .slice ba bn bc, .slice oa on oc]] w fun e w' => ∃ ha pa hn hc pn pc, e = .returned (.tuple #[.agg #[.slice ha hn hc, .slice pa pn pc], .int .i64 (outE m)]) ∧ OutAt w' ha pa hn hc pn pc (outA m) ∧ Below w.heap.size w w' := by
 unfold outA outE
 cases hc : mcheck m with
 | false =>
   refine (oof15_no ra ba oa rn rc bn bc on oc m w hm hs hc).mono ?_
   rintro e w' ⟨rfl, hb⟩
   exact ⟨none, none, 0, 0, 0, 0, rfl, ⟨Ints.empty _ _ _, Ints.empty _ _ _⟩, hb⟩
 | true =>
   refine (oof15_yes ra ba oa rn rc bn bc on oc m w hm hc).mono ?_
   rintro e w' ⟨ha, hcp, pa, pn, pc, rfl, ho, hb⟩
   exact ⟨ha, pa, bn, hcp, pn, pc, rfl, ho, hb⟩
end Go.Proofs.YtkddkkcfpnndlaaGreatDoor

namespace Go.Proofs.YtkddkkcfpnndlaaGreatDoor
open Go.RowKit Sale

set_option maxRecDepth 100000 in
set_option maxHeartbeats 2000000 in
theorem pays15_any (ha pa : Option Addr) (hn hc pn pc : Nat) (o : Outc) (i : Int) (w : World) (ho : OutAt w ha pa hn hc pn pc o) :
   Calls Tryz.prog 54 #[.agg #[.slice ha hn hc, .slice pa pn pc], .int .i64 i] w fun e w' => e = .returned (.int .i64 (paysV o i)) ∧ Below w.heap.size w w' := by
 have hhl := ho.has.len
 have hpl := ho.prices.len
 have hb0 : Below w.heap.size w (w.alloc (.cells #[.slice ha hn hc, .slice pa pn pc] 70)) := (Below.refl _ _).alloc (Nat.le_refl _) _
 have HB0 := Lib.hid hb0
 by_cases h1 : i < 0
 · have hv : paysV o i = 0 := by unfold paysV; rw [if_neg (by omega)]
   rw [hv]; clear hv hhl hpl ho hb0
   go_enter Tryz.func54, Tryz.ntmps54
   go_wp2_with fail
   go_quiet (fail)
   go_wp2_with fail
   go_ret
   exact ⟨rfl, below_drewN HB0.out _⟩
 · obtain ⟨k, rfl⟩ := Int.eq_ofNat_of_zero_le (show 0 ≤ i by omega)
   by_cases h2 : hn ≤ k
   · have hv : paysV o (k : Int) = 0 := by unfold paysV; rw [if_neg (by omega)]
     rw [hv]
     have e1 : decide ((hn : Int) ≤ (k : Int)) = true := by simp; omega
     have e2 : decide ((k : Int) < 0) = false := by simp
     have e3 : decide (hn ≤ k) = true := by simpa using h2
     clear hv hhl hpl ho hb0 h1 h2
     go_enter Tryz.func54, Tryz.ntmps54
     go_wp2_with fail
     go_quiet (fail)
     go_wp2_with fail
     go_ret
     exact ⟨rfl, below_drewN HB0.out _⟩
   · have hk : k < hn := by omega
     have ho1 := ho.below hb0 (Nat.le_refl _)
     obtain ⟨x, hx, _⟩ := ho1.has.get hk
     obtain ⟨hb, hbo, rfl⟩ := ho1.has.addr (by omega)
     have cx := ho1.has.cell hb hbo rfl k x hx
     have e1 : decide ((hn : Int) ≤ (k : Int)) = false := by simp; omega
     have e2 : decide ((k : Int) < 0) = false := by simp
     have e3 : decide (hn ≤ k) = false := by simpa using h2
     have i1 : (k : Int) < (hn : Int) := by omega
     have hg : o.has.getD k (-1) = x := getD_at hx
     by_cases h3 : x < 0
     · have hv : paysV o (k : Int) = 0 := by unfold paysV; rw [Int.toNat_natCast, hg, if_neg (by omega)]
       rw [hv]
       have f1 : decide (x < 0) = true := by simp; omega
       clear hv hhl hpl ho hb0 h1 h2 ho1 hx hg h3
       go_enter Tryz.func54, Tryz.ntmps54
       go_wp2_with fail
       go_quiet (fail)
       go_wp2_with fail
       go_ret
       exact ⟨rfl, below_drewN HB0.out _⟩
     · obtain ⟨j, rfl⟩ := Int.eq_ofNat_of_zero_le (show 0 ≤ x by omega)
       have f1 : decide ((j : Int) < 0) = false := by simp
       by_cases h4 : j < pn
       · have hv : paysV o (k : Int) = o.prices.getD j 0 := by unfold paysV; rw [Int.toNat_natCast, hg, if_pos (by omega), Int.toNat_natCast]
         obtain ⟨p, hp, _⟩ := ho1.prices.get h4
         obtain ⟨pb, po, rfl⟩ := ho1.prices.addr (by omega)
         have cp := ho1.prices.cell pb po rfl j p hp
         rw [hv, getD_at hp]
         have f2 : decide ((pn : Int) ≤ (j : Int)) = false := by simp; omega
         have f3 : decide (pn ≤ j) = false := by simp; omega
         have i2 : (j : Int) < (pn : Int) := by omega
         clear hv hhl hpl ho hb0 h1 h2 ho1 hx hg h3 hp
         go_enter Tryz.func54, Tryz.ntmps54
         go_wp2_with fail
         go_quiet (fail)
         go_wp2_with fail
         go_quiet (fail)
         go_wp2_with fail
         go_ret
         exact ⟨rfl, below_drewN (below_drewN HB0.out _) _⟩
       · have hv : paysV o (k : Int) = 0 := by unfold paysV; rw [Int.toNat_natCast, hg, if_neg (by omega)]
         rw [hv]
         have f2 : decide ((pn : Int) ≤ (j : Int)) = true := by simp; omega
         have f3 : decide (pn ≤ j) = true := by simp; omega
         clear hv hhl hpl ho hb0 h1 h2 ho1 hx hg h3 h4
         go_enter Tryz.func54, Tryz.ntmps54
         go_wp2_with fail
         go_quiet (fail)
         go_wp2_with fail
         go_ret
         exact ⟨rfl, below_drewN HB0.out _⟩

end Go.Proofs.YtkddkkcfpnndlaaGreatDoor

namespace Go.Proofs.YtkddkkcfpnndlaaGreatDoor
open Go.RowKit Sale

structure QX (BX base s1 s2 g1 x1 B xB M g3 x3 rn bn on : Nat) (vals : List Value) (gs : List Nat) (m : Mkt) (wr : World) : Prop where
 v : VRow wr BX 57 [.slice (some ⟨g1, 0, none⟩) rn x1, .slice (some ⟨B, 0, none⟩) bn xB, .slice (some ⟨g3, 0, none⟩) on x3]
 x : MktF wr base s1 s2 g1 x1 B xB M g3 x3 vals gs m
theorem QX.step {BX base s1 s2 g1 x1 B xB M g3 x3 rn bn on : Nat} {vals : List Value} {gs : List Nat} {m : Mkt} {wr wr' : World} (h : QX BX base s1 s2 g1 x1 B xB M g3 x3 rn bn on vals gs m wr) (hb : Below wr.heap.size wr wr') : QX BX base s1 s2 g1 x1 B xB M g3 x3 rn bn on vals gs m wr' :=
 ⟨h.v.below hb h.v.lt, h.x.step hb⟩
theorem MktAt.mbd2 {w : World} {ra ba oa : Option Addr} {rn rc bn bc on oc : Nat} {m : Mkt} (h : MktAt w ra ba oa rn rc bn bc on oc m) (h1 : rn ≤ 100000) (h2 : bn ≤ 100000) (h3 : on ≤ 100000) (hx : ∀ xs, xs ∈ m.bids → xs.length ≤ 100000) : MBd m := by
 have l1 := h.res.len
 have l2 := h.bids.len
 have l3 := h.ord.len
 refine ⟨⟨by omega, h.res.bd⟩, ⟨by omega, fun xs hxs => ⟨hx xs hxs, ?_⟩⟩, ⟨by omega, h.ord.bd⟩⟩
 obtain ⟨k, hk⟩ := List.getElem?_of_mem hxs
 have hkl := (List.getElem?_eq_some_iff.1 hk).1
 obtain ⟨b, o, e⟩ := h.bids.addr (by omega)
 obtain ⟨_, _, _, _, hi⟩ := h.bids.cell b o e k xs hk
 exact hi.bd
theorem LiesAt.up {w : World} {B B' : Nat} {a : Option Addr} {m : Nat} {rs : List Slc} (h : LiesAt w B a m rs) (hb : B ≤ B') : LiesAt w B' a m rs :=
 ⟨h.1, fun hp => by obtain ⟨b, o, e, hl, hc⟩ := h.2 hp; exact ⟨b, o, e, by omega, hc⟩⟩
end Go.Proofs.YtkddkkcfpnndlaaGreatDoor

namespace Go.Proofs.YtkddkkcfpnndlaaGreatDoor
open Go.RowKit Sale

theorem GSt.add {lo hi : Nat} {rs ys : List Slc} {x : Slc} {wr : World} (h : GSt lo hi rs x wr) (h2 : Seg 3 wr hi wr.heap.size ys) (hl : lo ≤ hi) : GSt lo wr.heap.size (rs ++ ys) x wr :=
 ⟨h.a.append h2 hl h.le, h.b.wide (Nat.le_refl _) h.le, Nat.le_refl _⟩

structure VOut (Bo base h1 d1 h2 d2 zn yn : Nat) (zo : Outc) (W : World) : Prop where
 v : VRow W Bo 70 [.slice (some ⟨h1, 0, none⟩) zn d1, .slice (some ⟨h2, 0, none⟩) yn d2]
 f : OutF W base h1 d1 h2 d2 zo
theorem VOut.step {Bo base h1 d1 h2 d2 zn yn : Nat} {zo : Outc} {W W' : World} (h : VOut Bo base h1 d1 h2 d2 zn yn zo W) (hb : Below W.heap.size W W') : VOut Bo base h1 d1 h2 d2 zn yn zo W' :=
 ⟨h.v.below hb h.v.lt, h.f.step hb⟩
structure VBk (lo Bk n : Nat) (sB sI sL : List Slc) (W : World) : Prop where
 k : BookHas W Bk n sB sI sL
 gB : Seg 5 W lo Bk sB
 gI : Seg 3 W lo Bk sI
 gL : Seg 25 W lo Bk sL
 le : Bk ≤ W.heap.size
theorem VBk.step {lo Bk n : Nat} {sB sI sL : List Slc} {W W' : World} (h : VBk lo Bk n sB sI sL W) (hb : Below W.heap.size W W') : VBk lo Bk n sB sI sL W' :=
 ⟨h.k.step hb, h.gB.keep (hb.mono h.le), h.gI.keep (hb.mono h.le), h.gL.keep (hb.mono h.le), Nat.le_trans h.le hb.size⟩
end Go.Proofs.YtkddkkcfpnndlaaGreatDoor

namespace Go.Proofs.YtkddkkcfpnndlaaGreatDoor
open Go.RowKit Sale

def OPI (mk mkT ou ouT A F : Value) (er zi py : Int) (ev : Bool) (i : Nat) (y : Value) (_ : World) : Prop :=
 y = ([.int .i64 er, .int .i64 er, .bool true, .bool true, A, F, .bool true, .bool true, .bool true, mkT, ouT, .bool ev, mk, ou, .bool ev, .bool true, .bool true, .bool true, ouT, .int .i64 zi, .int .i64 py, ou, .int .i64 zi, .int .i64 py, .bool true, .bool true, .bool true, mkT, mk, .bool true, .bool true, .bool true, ouT, ou, .bool true, .bool true, .bool true, .bool true, .bool true, .bool true, .bool true, .bool true] : List Value).getD i undef
structure OSt (w0 : World) (B0 : Nat) (ra ba oa za ya : Option Addr) (rn rc bn bc on oc zn zc yn yc : Nat) (m : Mkt) (zo : Outc) (W : World) : Prop where
 v : VRow W B0 57 [.slice ra rn rc, .slice ba bn bc, .slice oa on oc]
 u : VRow W (B0 + 1) 70 [.slice za zn zc, .slice ya yn yc]
 m : MktAt W ra ba oa rn rc bn bc on oc m
 z : OutAt W za ya zn zc yn yc zo
 below : Below w0.heap.size w0 W
theorem OSt.step {w0 : World} {B0 : Nat} {ra ba oa za ya : Option Addr} {rn rc bn bc on oc zn zc yn yc : Nat} {m : Mkt} {zo : Outc} {W W' : World}
   (h : OSt w0 B0 ra ba oa za ya rn rc bn bc on oc zn zc yn yc m zo W) (hb : Below W.heap.size W W') : OSt w0 B0 ra ba oa za ya rn rc bn bc on oc zn zc yn yc m zo W' :=
 ⟨h.v.below hb h.v.lt, h.u.below hb h.u.lt, h.m.below hb (Nat.le_refl _), h.z.below hb (Nat.le_refl _), h.below.trans (hb.mono h.below.size)⟩
structure OPre (w0 : World) (B0 Bm baM s1 s2 g1 x1 B xB M g3 x3 : Nat) (vals : List Value) (gs : List Nat) (Bo baO h1 d1 h2 d2 Ba : Nat) (aa pa : Option Addr) (an ac pn pc Bf : Nat) (fa qa : Option Addr) (fn fc qn qc lo Bk n : Nat) (sI sL : List Slc)
   (ra ba oa za ya : Option Addr) (rn rc bn bc on oc zn zc yn yc : Nat) (m : Mkt) (zo oo : Outc) (W : World) : Prop where
 s : OSt w0 B0 ra ba oa za ya rn rc bn bc on oc zn zc yn yc m zo W
 x : QX Bm baM s1 s2 g1 x1 B xB M g3 x3 rn bn on vals gs m W
 o : VOut Bo baO h1 d1 h2 d2 zn yn zo W
 a : BoxO Ba aa pa an ac pn pc oo W
 f : BoxO Bf fa qa fn fc qn qc oo W
 k : VBk lo Bk n [] sI sL W
theorem OPre.step {w0 : World} {B0 Bm baM s1 s2 g1 x1 B xB M g3 x3 : Nat} {vals : List Value} {gs : List Nat} {Bo baO h1 d1 h2 d2 Ba : Nat} {aa pa : Option Addr} {an ac pn pc Bf : Nat} {fa qa : Option Addr} {fn fc qn qc lo Bk n : Nat} {sI sL : List Slc}
   {ra ba oa za ya : Option Addr} {rn rc bn bc on oc zn zc yn yc : Nat} {m : Mkt} {zo o : Outc} {W W' : World}
   (h : OPre w0 B0 Bm baM s1 s2 g1 x1 B xB M g3 x3 vals gs Bo baO h1 d1 h2 d2 Ba aa pa an ac pn pc Bf fa qa fn fc qn qc lo Bk n sI sL ra ba oa za ya rn rc bn bc on oc zn zc yn yc m zo o W) (hb : Below W.heap.size W W') :
   OPre w0 B0 Bm baM s1 s2 g1 x1 B xB M g3 x3 vals gs Bo baO h1 d1 h2 d2 Ba aa pa an ac pn pc Bf fa qa fn fc qn qc lo Bk n sI sL ra ba oa za ya rn rc bn bc on oc zn zc yn yc m zo o W' :=
 ⟨h.s.step hb, h.x.step hb, h.o.step hb, h.a.step hb, h.f.step hb, h.k.step hb⟩

set_option maxRecDepth 100000 in
set_option maxHeartbeats 16000000 in
theorem outcomesOf_any (ra ba oa za ya : Option Addr) (rn rc bn bc on oc zn zc yn yc : Nat) (m : Mkt) (zo : Outc) (zi : Int) (w : World)
   (hm : MktAt w ra ba oa rn rc bn bc on oc m) (hz : OutAt w za ya zn zc yn yc zo) (hs : Short rn bn on m) (l2 : zn ≤ 17592186044416) (l3 : yn ≤ 17592186044416) :
   Calls Tryz.prog 7 #[.agg #[.slice ra rn rc, .slice ba bn bc, .slice oa on oc], .agg #[.slice za zn zc, .slice ya yn yc], .int .i64 zi] w fun e w' => e = .returned (.bool true) ∧ Below w.heap.size w w' := by
 have HLEN := Lib.hid (And.intro hm.res.len (And.intro hm.bids.len (And.intro hm.ord.len (And.intro hz.has.len hz.prices.len))))
 obtain ⟨hv1, hu1, hb1⟩ := ev0_at w ra ba oa za ya rn rc bn bc on oc zn zc yn yc
 obtain ⟨w1, hw1⟩ : ∃ w1, w1 = ev0 w ra ba oa za ya rn rc bn bc on oc zn zc yn yc := ⟨_, rfl⟩
 rw [← hw1] at hv1 hu1 hb1
 have HS1 := Lib.hid (show OSt w w.heap.size ra ba oa za ya rn rc bn bc on oc zn zc yn yc m zo w1 from ⟨hv1, hu1, hm.below hb1 (Nat.le_refl _), hz.below hb1 (Nat.le_refl _), hb1⟩)
 clear hb1 hv1 hu1 hm hz
 have HS := Lib.hid hs; clear hs
 have hw1' : (w.alloc (.cells #[.slice ra rn rc, .slice ba bn bc, .slice oa on oc] 57)).alloc (.cells #[.slice za zn zc, .slice ya yn yc] 70) = w1 := hw1.symm; clear hw1
 have hww := HS1.out.below.size
 have p0 := HS1.out.v.cell (k := 0) rfl
 have p1 := HS1.out.v.cell (k := 1) rfl
 have p2 := HS1.out.v.cell (k := 2) rfl
 go_enter Tryz.func7, Tryz.ntmps7
 go_wp2_with fail
 try rw [hw1']
 clear hw1'
 refine (marketSize_any ra ba oa rn rc bn bc on oc m w1 HS1.out.m HS.out.r HS.out.b HS.out.o HS.out.x).mono ?_
 rintro e w2 ⟨s, rfl, hs1, hs2, hb⟩
 have HSZ := Lib.hid hs2; clear hs2
 have HS2 := Lib.hid (HS1.out.step hb)
 have hz2 := hb.size
 clear hb HS1 p0 p1 p2
 obtain ⟨B0, hB0⟩ : ∃ B0, B0 = w.heap.size := ⟨_, rfl⟩
 have HS2' := Lib.hid (show OSt w B0 ra ba oa za ya rn rc bn bc on oc zn zc yn yc m zo w2 by rw [hB0]; exact HS2.out)
 rw [← hB0]
 clear hB0 HS2
 have HS2 := HS2'; clear HS2'
 have p0 := HS2.out.v.cell (k := 0) rfl
 have p1 := HS2.out.v.cell (k := 1) rfl
 have p2 := HS2.out.v.cell (k := 2) rfl
 have u0 := HS2.out.u.cell (k := 0) rfl
 have u1 := HS2.out.u.cell (k := 1) rfl
 obtain ⟨hs10, hs11⟩ := hs1
 by_cases g1 : 1000 < s
 · have e1 : decide (1000 < s) = true := by simpa using g1
   go_wp2_with fail
   refine (lives15_any w2).mono ?_
   rintro e w3 ⟨rfl, hb⟩
   have HS3 := Lib.hid (HS2.out.step hb); clear hb
   go_wp2_with fail
   go_ret
   exact ⟨rfl, HS3.out.below⟩
 have e1 : decide (1000 < s) = false := by simpa using g1
 by_cases g2 : 1000 < (zn : Int) + yn
 · have e2 : decide (1000 < (zn : Int) + yn) = true := by simpa using g2
   go_wp2_with fail
   refine (lives15_any w2).mono ?_
   rintro e w3 ⟨rfl, hb⟩
   have HS3 := Lib.hid (HS2.out.step hb); clear hb
   go_wp2_with fail
   go_ret
   exact ⟨rfl, HS3.out.below⟩
 have e2 : decide (1000 < (zn : Int) + yn) = false := by simpa using g2
 obtain ⟨z1, z2, z3, z4⟩ := HSZ.out (by omega)
 rw [HLEN.out.1] at z1
 rw [HLEN.out.2.1] at z2
 rw [HLEN.out.2.2.1] at z3
 have HMB := Lib.hid (HS2.out.m.mbd2 (by omega) (by omega) (by omega) (fun xs hx => by have := z4 xs hx; omega))
 have HZ4 := Lib.hid z4; clear z4
 have y2 : zn ≤ 1000 := by omega
 have y3 : yn ≤ 1000 := by omega
 clear HSZ
 go_wp2_with fail
 clear e1 e2 g1 g2 hs10 hs11
 refine (twinMarketF_any ra ba oa rn rc bn bc on oc m w2 HS2.out.m (by omega) (by omega) (by omega) (fun xs hx => by have := HZ4.out xs hx; omega)).mono ?_
 rintro e w3 ⟨g1, x1, B, xB, M, g3, x3, s1, s2, vals, gs, rfl, hX, hb3⟩
 have HS3 := Lib.hid (HS2.out.step hb3)
 have hz3 := hb3.size
 have hsg := hX.seg HLEN.out.1 HLEN.out.2.1 HLEN.out.2.2.1
 have HG3 := Lib.hid (show GSt w2.heap.size w3.heap.size ([⟨some ⟨g1, 0, none⟩, rn, x1⟩] ++ vals.map toSlc ++ [⟨some ⟨g3, 0, none⟩, on, x3⟩]) ⟨some ⟨B, 0, none⟩, bn, xB⟩ w3 from ⟨hsg.1, hsg.2.1, Nat.le_refl _⟩)
 have HLI3 := Lib.hid hsg.2.2
 clear hb3 hsg p0 p1 p2 u0 u1
 obtain ⟨w4, hw4⟩ : ∃ w4, w4 = w3.alloc (.cells #[.slice (some ⟨g1, 0, none⟩) rn x1, .slice (some ⟨B, 0, none⟩) bn xB, .slice (some ⟨g3, 0, none⟩) on x3] 57) := ⟨_, rfl⟩
 have hb4 : Below w3.heap.size w3 w4 := by rw [hw4]; exact (Below.refl _ _).alloc (Nat.le_refl _) _
 have hvX : VRow w4 w3.heap.size 57 [.slice (some ⟨g1, 0, none⟩) rn x1, .slice (some ⟨B, 0, none⟩) bn xB, .slice (some ⟨g3, 0, none⟩) on x3] := by rw [hw4]; exact heap_alloc_new w3 _
 have hw4' := hw4.symm; clear hw4
 have HS4 := Lib.hid (HS3.out.step hb4)
 have HX4 := Lib.hid (show QX w3.heap.size w2.heap.size s1 s2 g1 x1 B xB M g3 x3 rn bn on vals gs m w4 from ⟨hvX, hX.step hb4⟩)
 have HG4 := Lib.hid (HG3.out.step hb4).wide
 have HLI4 := Lib.hid ((HLI3.out.keep hb4).up hb4.size)
 have hz4 := hb4.size
 clear hX hvX hb4 HG3 HLI3 HS3
 have u0 := HS4.out.u.cell (k := 0) rfl
 have u1 := HS4.out.u.cell (k := 1) rfl
 go_wp2_with fail
 try rw [hw4']
 clear hw4'
 refine (twinOutcomeF_any za ya zn zc yn yc zo w4 HS4.out.z (by omega) (by omega)).mono ?_
 rintro e w5 ⟨h1, d1, h2, d2, rfl, hY, hb5⟩
 have HS5 := Lib.hid (HS4.out.step hb5)
 have HX5 := Lib.hid (HX4.out.step hb5)
 have HG5 := Lib.hid ((HG4.out.step hb5).add (hY.seg HLEN.out.2.2.2.1 HLEN.out.2.2.2.2) (by omega))
 have HLI5 := Lib.hid ((HLI4.out.keep hb5).up hb5.size)
 have hz5 := hb5.size
 clear hb5 HS4 HX4 HG4 HLI4 u0 u1
 obtain ⟨w6, hw6⟩ : ∃ w6, w6 = w5.alloc (.cells #[.slice (some ⟨h1, 0, none⟩) zn d1, .slice (some ⟨h2, 0, none⟩) yn d2] 70) := ⟨_, rfl⟩
 have hb6 : Below w5.heap.size w5 w6 := by rw [hw6]; exact (Below.refl _ _).alloc (Nat.le_refl _) _
 have hvY : VRow w6 w5.heap.size 70 [.slice (some ⟨h1, 0, none⟩) zn d1, .slice (some ⟨h2, 0, none⟩) yn d2] := by rw [hw6]; exact heap_alloc_new w5 _
 have hw6' := hw6.symm; clear hw6
 have HS6 := Lib.hid (HS5.out.step hb6)
 have HX6 := Lib.hid (HX5.out.step hb6)
 have HO6 := Lib.hid (show VOut w5.heap.size w4.heap.size h1 d1 h2 d2 zn yn zo w6 from ⟨hvY, hY.step hb6⟩)
 have HG6 := Lib.hid (HG5.out.step hb6).wide
 have HLI6 := Lib.hid ((HLI5.out.keep hb6).up hb6.size)
 have hz6 := hb6.size
 clear hY hvY hb6 HS5 HX5 HG5 HLI5
 obtain ⟨oo, hoo⟩ : ∃ oo, oo = outA m := ⟨_, rfl⟩
 obtain ⟨er, her⟩ : ∃ er, er = outE m := ⟨_, rfl⟩
 have HMX := Lib.hid (HX6.out.x.mkt HMB.out HLEN.out.1 HLEN.out.2.1 HLEN.out.2.2.1)
 have HOF := Lib.hid (oof_ans (some ⟨g1, 0, none⟩) (some ⟨B, 0, none⟩) (some ⟨g3, 0, none⟩) rn x1 bn xB on x3 m w6 HMX.out)
 rw [← hoo, ← her] at HOF
 have q0 := HX6.out.v.cell (k := 0) rfl
 have q1 := HX6.out.v.cell (k := 1) rfl
 have q2 := HX6.out.v.cell (k := 2) rfl
 go_wp2_with fail
 try rw [hw6']
 clear hw6'
 refine HOF.out.mono ?_
 rintro e w7 ⟨aa, pa, an, ac, pn, pc, rfl, hA, hSa, han, hpn, hb7⟩
 have HS7 := Lib.hid (HS6.out.step hb7)
 have HX7 := Lib.hid (HX6.out.step hb7)
 have HO7 := Lib.hid (HO6.out.step hb7)
 have HG7 := Lib.hid ((HG6.out.step hb7).add hSa (by omega))
 have HLI7 := Lib.hid ((HLI6.out.keep hb7).up hb7.size)
 have hz7 := hb7.size
 clear hb7 hSa HMX HOF HS6 HX6 HO6 HG6 HLI6 q0 q1 q2
 obtain ⟨w8, hw8⟩ : ∃ w8, w8 = w7.alloc (.cells #[.slice aa an ac, .slice pa pn pc] 70) := ⟨_, rfl⟩
 have hb8 : Below w7.heap.size w7 w8 := by rw [hw8]; exact (Below.refl _ _).alloc (Nat.le_refl _) _
 have hvA : VRow w8 w7.heap.size 70 [.slice aa an ac, .slice pa pn pc] := by rw [hw8]; exact heap_alloc_new w7 _
 have hw8' := hw8.symm; clear hw8
 have HS8 := Lib.hid (HS7.out.step hb8)
 have HX8 := Lib.hid (HX7.out.step hb8)
 have HO8 := Lib.hid (HO7.out.step hb8)
 have HA8 := Lib.hid (show BoxO w7.heap.size aa pa an ac pn pc oo w8 from ⟨hvA, hA.below hb8 (Nat.le_refl _)⟩)
 have HG8 := Lib.hid (HG7.out.step hb8).wide
 have HLI8 := Lib.hid ((HLI7.out.keep hb8).up hb8.size)
 have hz8 := hb8.size
 clear hA hvA hb8 HS7 HX7 HO7 HG7 HLI7
 have HRF := Lib.hid (oof15_any ra ba oa rn rc bn bc on oc m w8 HS8.out.m HS.out)
 rw [← hoo, ← her] at HRF
 clear hoo her
 have p0 := HS8.out.v.cell (k := 0) rfl
 have p1 := HS8.out.v.cell (k := 1) rfl
 have p2 := HS8.out.v.cell (k := 2) rfl
 go_wp2_with fail
 try rw [hw8']
 clear hw8'
 refine HRF.out.mono ?_
 rintro e w9 ⟨fa, qa, fn, fc, qn, qc, rfl, hF, hb9⟩
 have HS9 := Lib.hid (HS8.out.step hb9)
 have HX9 := Lib.hid (HX8.out.step hb9)
 have HO9 := Lib.hid (HO8.out.step hb9)
 have HA9 := Lib.hid (HA8.out.step hb9)
 have HG9 := Lib.hid (HG8.out.step hb9).wide
 have HLI9 := Lib.hid ((HLI8.out.keep hb9).up hb9.size)
 have hz9 := hb9.size
 clear hb9 HRF HS8 HX8 HO8 HA8 HG8 HLI8 p0 p1 p2
 obtain ⟨w10, hw10⟩ : ∃ w10, w10 = w9.alloc (.cells #[.slice fa fn fc, .slice qa qn qc] 70) := ⟨_, rfl⟩
 have hb10 : Below w9.heap.size w9 w10 := by rw [hw10]; exact (Below.refl _ _).alloc (Nat.le_refl _) _
 have hvF : VRow w10 w9.heap.size 70 [.slice fa fn fc, .slice qa qn qc] := by rw [hw10]; exact heap_alloc_new w9 _
 have hw10' := hw10.symm; clear hw10
 have HS10 := Lib.hid (HS9.out.step hb10)
 have HX10 := Lib.hid (HX9.out.step hb10)
 have HO10 := Lib.hid (HO9.out.step hb10)
 have HA10 := Lib.hid (HA9.out.step hb10)
 have HF10 := Lib.hid (show BoxO w9.heap.size fa qa fn fc qn qc oo w10 from ⟨hvF, hF.below hb10 (Nat.le_refl _)⟩)
 have HG10 := Lib.hid (HG9.out.step hb10).wide
 have HLI10 := Lib.hid ((HLI9.out.keep hb10).up hb10.size)
 have hz10 := hb10.size
 have hs10 : w10.heap.size = w9.heap.size + 1 := by rw [← hw10']; simp
 have HW10 := Lib.hid hw10'; clear hw10'
 clear hF hvF hb10 HS9 HX9 HO9 HA9 HG9 HLI9
 have hbk := BookHas.new w10
 obtain ⟨w11, hw11⟩ : ∃ w11, w11 = w10.alloc (.cells #[.int .i64 0, .slice none 0 0, .slice none 0 0, .slice none 0 0, .slice none 0 0, .slice none 0 0, .slice none 0 0, .slice none 0 0, .slice none 0 0, .slice none 0 0] 44) := ⟨_, rfl⟩
 rw [← hw11] at hbk
 have hb11 : Below w10.heap.size w10 w11 := by rw [hw11]; exact (Below.refl _ _).alloc (Nat.le_refl _) _
 have HLI11 := Lib.hid (HLI10.out.keep hb11)
 have HK11 := Lib.hid hbk; clear hbk
 have HB11 := Lib.hid hb11; clear hb11
 obtain ⟨Bk, hBk⟩ : ∃ Bk, Bk = w9.heap.size + 1 := ⟨_, rfl⟩
 rw [hs10, ← hBk] at HK11 HLI11
 have hBk2 : Bk = w10.heap.size := by rw [hs10]; exact hBk
 clear hs10
 have HW11 := Lib.hid hw11.symm; clear hw11
 have HBK := Lib.hid hBk2; clear hBk2
 have hr11 := HX10.out.step HB11.out
 have q0 := hr11.v.cell (k := 0) rfl
 have q1 := hr11.v.cell (k := 1) rfl
 have q2 := hr11.v.cell (k := 2) rfl
 clear hr11
 rw [← HW11.out, ← HW10.out] at q0 q1 q2
 go_wp2_with fail
 rw [HW10.out, HW11.out]
 try rw [← hBk]
 clear hBk
 refine (bMarket_any Bk 0 (some ⟨g1, 0, none⟩) (some ⟨B, 0, none⟩) (some ⟨g3, 0, none⟩) rn x1 bn xB on x3 (vals.map toSlc) [] [] [] w11 HK11.out HLI11.out (by omega)).mono ?_
 rintro e w12 ⟨⟨v, rfl⟩, hk12, hf12⟩
 have HB12 := Lib.hid (show Below w10.heap.size w10 w12 from HB11.out.trans (by rw [← HBK.out]; exact hf12.low))
 have HK12 := Lib.hid hk12
 clear hk12 hf12 HB11 HK11 HLI11 q0 q1 q2
 have hx12 := HO10.out.step HB12.out
 have q0 := hx12.v.cell (k := 0) rfl
 have q1 := hx12.v.cell (k := 1) rfl
 clear hx12
 go_wp2_with fail
 refine (bOutcome_any Bk (0 + bn + 3) (some ⟨h1, 0, none⟩) (some ⟨h2, 0, none⟩) zn d1 yn d2 _ _ _ w12 HK12.out (by omega)).mono ?_
 rintro e w13 ⟨⟨v, rfl⟩, hk13, hf13⟩
 have HB13 := Lib.hid (show Below w10.heap.size w10 w13 from HB12.out.trans (by rw [← HBK.out]; exact hf13.low))
 have HK13 := Lib.hid hk13
 clear hk13 hf13 HB12 HK12 q0 q1
 have hx13 := HA10.out.step HB13.out
 have q0 := hx13.row.cell (k := 0) rfl
 have q1 := hx13.row.cell (k := 1) rfl
 clear hx13
 go_wp2_with fail
 refine (bOutcome_any Bk (0 + bn + 3 + 2) aa pa an ac pn pc _ _ _ w13 HK13.out (by omega)).mono ?_
 rintro e w14 ⟨⟨v, rfl⟩, hk14, hf14⟩
 have hb14 : Below w10.heap.size w10 w14 := HB13.out.trans (by rw [← HBK.out]; exact hf14.low)
 have hgA := HG10.out.a.keep hb14
 have hgL := HG10.out.b.keep hb14
 rw [← HBK.out] at hgA hgL
 have hzk := hb14.size
 have hlo : w2.heap.size ≤ Bk := by have := HBK.out; omega
 clear q0 q1
 have HPRE := Lib.hid (show OPre w B0 w3.heap.size w2.heap.size s1 s2 g1 x1 B xB M g3 x3 vals gs w5.heap.size w4.heap.size h1 d1 h2 d2 w7.heap.size aa pa an ac pn pc w9.heap.size fa qa fn fc qn qc w2.heap.size Bk (0 + bn + 3 + 2 + 2) ([⟨some ⟨g1, 0, none⟩, rn, x1⟩] ++ vals.map toSlc ++ [⟨some ⟨g3, 0, none⟩, on, x3⟩] ++ [⟨some ⟨h1, 0, none⟩, zn, d1⟩, ⟨some ⟨h2, 0, none⟩, yn, d2⟩] ++ [⟨aa, an, ac⟩, ⟨pa, pn, pc⟩]) [⟨some ⟨B, 0, none⟩, bn, xB⟩] ra ba oa za ya rn rc bn bc on oc zn zc yn yc m zo oo w14 from ⟨HS10.out.step hb14, HX10.out.step hb14, HO10.out.step hb14, HA10.out.step hb14, HF10.out.step hb14, by simpa using hk14, Seg.nil _ _ _ _, by simpa using hgA, hgL, by have := HBK.out; omega⟩)
 clear hk14 hf14 hb14 hgA hgL HS10 HX10 HO10 HA10 HF10 HG10 HK13 HB13 HLI10 hzk
 have HB20 := Lib.hid HPRE.out.s.below
 obtain ⟨ev, hev⟩ : ∃ ev, ev = evenB m zo := ⟨_, rfl⟩
 obtain ⟨py, hpy⟩ : ∃ py, py = paysV zo zi := ⟨_, rfl⟩
 have HEV := Lib.hid (And.intro hev hpy); clear hev hpy
 go_wp2_with fail
 have e0 : (er == er) = true := by simp
 have e0b : (ev == ev) = true := by simp
 have e0p : (py == py) = true := by simp
 have hw02 : w.heap.size ≤ w2.heap.size := by omega
 have HBB := Lib.hid HB20.out
 refine wp_region_live3' (by kernel_rfl) [48, 49, 50, 51, 52, 53, 54, 55, 56, 57, 58, 59, 60, 61, 62, 63, 64, 65, 66, 67, 68, 69, 70, 71, 72, 73, 74, 75, 76, 77, 78, 79, 80, 81, 82, 83, 84, 85, 86, 87, 88, 89] (OPI (.agg #[.slice ra rn rc, .slice ba bn bc, .slice oa on oc]) (.agg #[.slice (some ⟨g1, 0, none⟩) rn x1, .slice (some ⟨B, 0, none⟩) bn xB, .slice (some ⟨g3, 0, none⟩) on x3]) (.agg #[.slice za zn zc, .slice ya yn yc]) (.agg #[.slice (some ⟨h1, 0, none⟩) zn d1, .slice (some ⟨h2, 0, none⟩) yn d2]) (.agg #[.slice aa an ac, .slice pa pn pc]) (.agg #[.slice fa fn fc, .slice qa qn qc]) er zi py ev) (fun wa wb => Below w2.heap.size wa wb) 37 (fun _ => false) (fun W => OPre w B0 w3.heap.size w2.heap.size s1 s2 g1 x1 B xB M g3 x3 vals gs w5.heap.size w4.heap.size h1 d1 h2 d2 w7.heap.size aa pa an ac pn pc w9.heap.size fa qa fn fc qn qc w2.heap.size Bk (0 + bn + 3 + 2 + 2) ([⟨some ⟨g1, 0, none⟩, rn, x1⟩] ++ vals.map toSlc ++ [⟨some ⟨g3, 0, none⟩, on, x3⟩] ++ [⟨some ⟨h1, 0, none⟩, zn, d1⟩, ⟨some ⟨h2, 0, none⟩, yn, d2⟩] ++ [⟨aa, an, ac⟩, ⟨pa, pn, pc⟩]) [⟨some ⟨B, 0, none⟩, bn, xB⟩] ra ba oa za ya rn rc bn bc on oc zn zc yn yc m zo oo W) (fun W => Below w.heap.size w W) (by simp) (by kernel_rfl) (by simp) (by decide) (by simp) (by kernel_rfl) (by kernel_rfl) (fun _ _ _ _ _ h => h) (fun _ _ _ _ _ _ _ h => h) (HPRE.out.step (Below.refl _ _).drew) (fun wa wb hb h => h.step hb) HBB.out.drew ?hstep ?hlast
 case hlast =>
   intro o v w5 K ho hS hd hK
   simp only [List.length_cons, List.length_nil, Nat.reduceAdd, Nat.reduceSub, List.getElem?_cons_zero, List.getElem?_cons_succ, Option.some.injEq] at ho
   subst ho
   have d41 : v 41 = .bool true := hd ⟨41, .data⟩ (by simp) rfl
   have HSS := Lib.hid hS
   clear hS hd
   simp only [fold, Nat.zero_add, Nat.reduceAdd, List.setIfInBounds_toArray, List.set_cons_zero, List.set_cons_succ]
   rw [d41]
   go_wp2_with fail
   go_ret
   exact ⟨rfl, HSS.out⟩
 case hstep =>
   intro i o v w5 K hi ho hS hpre hd hK
   simp only [List.length_cons, List.length_nil] at hi
   simp only [fold, Nat.zero_add, Nat.reduceAdd, List.setIfInBounds_toArray, List.set_cons_zero, List.set_cons_succ] at hK ⊢
   have hii : i = 0 ∨ i = 1 ∨ i = 2 ∨ i = 3 ∨ i = 4 ∨ i = 5 ∨ i = 6 ∨ i = 7 ∨ i = 8 ∨ i = 9 ∨ i = 10 ∨ i = 11 ∨ i = 12 ∨ i = 13 ∨ i = 14 ∨ i = 15 ∨ i = 16 ∨ i = 17 ∨ i = 18 ∨ i = 19 ∨ i = 20 ∨ i = 21 ∨ i = 22 ∨ i = 23 ∨ i = 24 ∨ i = 25 ∨ i = 26 ∨ i = 27 ∨ i = 28 ∨ i = 29 ∨ i = 30 ∨ i = 31 ∨ i = 32 ∨ i = 33 ∨ i = 34 ∨ i = 35 ∨ i = 36 ∨ i = 37 ∨ i = 38 ∨ i = 39 ∨ i = 40 ∨ i = 41 := by omega
   rcases hii with rfl | rfl | rfl | rfl | rfl | rfl | rfl | rfl | rfl | rfl | rfl | rfl | rfl | rfl | rfl | rfl | rfl | rfl | rfl | rfl | rfl | rfl | rfl | rfl | rfl | rfl | rfl | rfl | rfl | rfl | rfl | rfl | rfl | rfl | rfl | rfl | rfl | rfl | rfl | rfl | rfl | rfl
   all_goals
     simp only [List.getElem?_cons_zero, List.getElem?_cons_succ, Option.some.injEq] at ho
     subst ho
     simp only [Act.put, List.setIfInBounds_toArray, List.set_cons_zero, List.set_cons_succ] at hK
   · clear hd hpre
     go_wp2_with fail
     exact hK _ _ hS (fun _ => Below.refl _ _) (fun h => absurd h (by decide)) rfl
   · clear hd hpre
     go_wp2_with fail
     exact hK _ _ hS (fun _ => Below.refl _ _) (fun h => absurd h (by decide)) rfl
   · have d0 : v 0 = .int .i64 er := hd ⟨0, .data⟩ (by simp) rfl
     have d1 : v 1 = .int .i64 er := hd ⟨1, .data⟩ (by simp) rfl
     rw [d0, d1] at hK ⊢
     clear hd hpre
     go_wp2_with fail
     exact hK _ _ hS (fun _ => Below.refl _ _) (fun h => absurd h (by decide)) rfl
   · have d2 : v 2 = .bool true := hd ⟨2, .data⟩ (by simp) rfl
     rw [d2] at hK ⊢
     clear hd hpre
     go_wp2_with fail
     exact hK _ _ hS (fun _ => Below.refl _ _) (fun h => absurd h (by decide)) rfl
   · have d3 : v 3 = .bool true := hd ⟨3, .guard⟩ (by simp) rfl
     have hP := hpre (by decide)
     have c0 := VRow.cell hP.a.row (k := 0) rfl
     have c1 := VRow.cell hP.a.row (k := 1) rfl
     rw [d3] at hK ⊢
     clear hd hpre hP
     go_wp2_with fail
     exact hK _ _ hS (fun _ => Below.refl _ _) (fun h => absurd h (by decide)) rfl
   · have d3 : v 3 = .bool true := hd ⟨3, .guard⟩ (by simp) rfl
     have hP := hpre (by decide)
     have c0 := VRow.cell hP.f.row (k := 0) rfl
     have c1 := VRow.cell hP.f.row (k := 1) rfl
     rw [d3] at hK ⊢
     clear hd hpre hP
     go_wp2_with fail
     exact hK _ _ hS (fun _ => Below.refl _ _) (fun h => absurd h (by decide)) rfl
   · have d3 : v 3 = .bool true := hd ⟨3, .guard⟩ (by simp) rfl
     have d4 : v 4 = .agg #[.slice aa an ac, .slice pa pn pc] := hd ⟨4, .data⟩ (by simp) rfl
     have d5 : v 5 = .agg #[.slice fa fn fc, .slice qa qn qc] := hd ⟨5, .data⟩ (by simp) rfl
     have hP := hpre (by decide)
     have HC := Lib.hid ((sameO_any aa pa fa qa an ac pn pc fn fc qn qc oo oo w5 hP.a.out hP.f.out).mono fun e w6 h => (show e = .returned (.bool true) ∧ Below w5.heap.size w5 w6 by simpa [sameO] using h))
     rw [d3, d4, d5] at hK ⊢
     clear hd hpre hP
     go_wp2_with fail
     refine HC.out.mono ?_
     rintro e w6 ⟨rfl, hb6⟩
     clear HC
     go_wp2_with fail
     exact hK _ _ (hS.trans (hb6.mono hS.size)) (fun _ => hb6) (fun h => absurd h (by decide)) rfl
   · have d3 : v 3 = .bool true := hd ⟨3, .data⟩ (by simp) rfl
     have d6 : v 6 = .bool true := hd ⟨6, .data⟩ (by simp) rfl
     rw [d3, d6] at hK ⊢
     clear hd hpre
     go_wp2_with fail
     exact hK _ _ hS (fun _ => Below.refl _ _) (fun h => absurd h (by decide)) rfl
   · have d7 : v 7 = .bool true := hd ⟨7, .data⟩ (by simp) rfl
     rw [d7] at hK ⊢
     clear hd hpre
     go_wp2_with fail
     exact hK _ _ hS (fun _ => Below.refl _ _) (fun h => absurd h (by decide)) rfl
   · have d8 : v 8 = .bool true := hd ⟨8, .guard⟩ (by simp) rfl
     have hP := hpre (by decide)
     have c0 := VRow.cell hP.x.v (k := 0) rfl
     have c1 := VRow.cell hP.x.v (k := 1) rfl
     have c2 := VRow.cell hP.x.v (k := 2) rfl
     rw [d8] at hK ⊢
     clear hd hpre hP
     go_wp2_with fail
     exact hK _ _ hS (fun _ => Below.refl _ _) (fun h => absurd h (by decide)) rfl
   · have d8 : v 8 = .bool true := hd ⟨8, .guard⟩ (by simp) rfl
     have hP := hpre (by decide)
     have c0 := VRow.cell hP.o.v (k := 0) rfl
     have c1 := VRow.cell hP.o.v (k := 1) rfl
     rw [d8] at hK ⊢
     clear hd hpre hP
     go_wp2_with fail
     exact hK _ _ hS (fun _ => Below.refl _ _) (fun h => absurd h (by decide)) rfl
   · have d8 : v 8 = .bool true := hd ⟨8, .guard⟩ (by simp) rfl
     have d9 : v 9 = .agg #[.slice (some ⟨g1, 0, none⟩) rn x1, .slice (some ⟨B, 0, none⟩) bn xB, .slice (some ⟨g3, 0, none⟩) on x3] := hd ⟨9, .data⟩ (by simp) rfl
     have d10 : v 10 = .agg #[.slice (some ⟨h1, 0, none⟩) zn d1, .slice (some ⟨h2, 0, none⟩) yn d2] := hd ⟨10, .data⟩ (by simp) rfl
     have hP := hpre (by decide)
     have HC := Lib.hid (Even_any (some ⟨g1, 0, none⟩) (some ⟨B, 0, none⟩) (some ⟨g3, 0, none⟩) (some ⟨h1, 0, none⟩) (some ⟨h2, 0, none⟩) rn x1 bn xB on x3 zn d1 yn d2 m zo w5 (hP.x.x.mkt HMB.out HLEN.out.1 HLEN.out.2.1 HLEN.out.2.2.1) (hP.o.f.out HLEN.out.2.2.2.1 HLEN.out.2.2.2.2 (by omega) (by omega) hP.s.z.has.bd hP.s.z.prices.bd))
     rw [← HEV.out.1] at HC
     rw [d8, d9, d10] at hK ⊢
     clear hd hpre hP
     go_wp2_with fail
     refine HC.out.mono ?_
     rintro e w6 ⟨rfl, hb6⟩
     clear HC
     go_wp2_with fail
     exact hK _ _ (hS.trans (hb6.mono hS.size)) (fun _ => hb6) (fun h => absurd h (by decide)) rfl
   · have d8 : v 8 = .bool true := hd ⟨8, .guard⟩ (by simp) rfl
     have hP := hpre (by decide)
     have c0 := VRow.cell hP.s.v (k := 0) rfl
     have c1 := VRow.cell hP.s.v (k := 1) rfl
     have c2 := VRow.cell hP.s.v (k := 2) rfl
     rw [d8] at hK ⊢
     clear hd hpre hP
     go_wp2_with fail
     exact hK _ _ hS (fun _ => Below.refl _ _) (fun h => absurd h (by decide)) rfl
   · have d8 : v 8 = .bool true := hd ⟨8, .guard⟩ (by simp) rfl
     have hP := hpre (by decide)
     have c0 := VRow.cell hP.s.u (k := 0) rfl
     have c1 := VRow.cell hP.s.u (k := 1) rfl
     rw [d8] at hK ⊢
     clear hd hpre hP
     go_wp2_with fail
     exact hK _ _ hS (fun _ => Below.refl _ _) (fun h => absurd h (by decide)) rfl
   · have d8 : v 8 = .bool true := hd ⟨8, .guard⟩ (by simp) rfl
     have d12 : v 12 = .agg #[.slice ra rn rc, .slice ba bn bc, .slice oa on oc] := hd ⟨12, .data⟩ (by simp) rfl
     have d13 : v 13 = .agg #[.slice za zn zc, .slice ya yn yc] := hd ⟨13, .data⟩ (by simp) rfl
     have hP := hpre (by decide)
     have HC := Lib.hid (even15_any ra ba oa za ya rn rc bn bc on oc zn zc yn yc m zo w5 hP.s.m HS.out hP.s.z)
     rw [← HEV.out.1] at HC
     rw [d8, d12, d13] at hK ⊢
     clear hd hpre hP
     go_wp2_with fail
     refine HC.out.mono ?_
     rintro e w6 ⟨rfl, hb6⟩
     clear HC
     go_wp2_with fail
     exact hK _ _ (hS.trans (hb6.mono hS.size)) (fun _ => hb6) (fun h => absurd h (by decide)) rfl
   · have d8 : v 8 = .bool true := hd ⟨8, .guard⟩ (by simp) rfl
     have d11 : v 11 = .bool ev := hd ⟨11, .data⟩ (by simp) rfl
     have d14 : v 14 = .bool ev := hd ⟨14, .data⟩ (by simp) rfl
     rw [d8, d11, d14] at hK ⊢
     clear hd hpre
     go_wp2_with fail
     exact hK _ _ hS (fun _ => Below.refl _ _) (fun h => absurd h (by decide)) rfl
   · have d8 : v 8 = .bool true := hd ⟨8, .data⟩ (by simp) rfl
     have d15 : v 15 = .bool true := hd ⟨15, .data⟩ (by simp) rfl
     rw [d8, d15] at hK ⊢
     clear hd hpre
     go_wp2_with fail
     exact hK _ _ hS (fun _ => Below.refl _ _) (fun h => absurd h (by decide)) rfl
   · have d16 : v 16 = .bool true := hd ⟨16, .data⟩ (by simp) rfl
     rw [d16] at hK ⊢
     clear hd hpre
     go_wp2_with fail
     exact hK _ _ hS (fun _ => Below.refl _ _) (fun h => absurd h (by decide)) rfl
   · have d17 : v 17 = .bool true := hd ⟨17, .guard⟩ (by simp) rfl
     have hP := hpre (by decide)
     have c0 := VRow.cell hP.o.v (k := 0) rfl
     have c1 := VRow.cell hP.o.v (k := 1) rfl
     rw [d17] at hK ⊢
     clear hd hpre hP
     go_wp2_with fail
     exact hK _ _ hS (fun _ => Below.refl _ _) (fun h => absurd h (by decide)) rfl
   · have d17 : v 17 = .bool true := hd ⟨17, .guard⟩ (by simp) rfl
     rw [d17] at hK ⊢
     clear hd hpre
     go_wp2_with fail
     exact hK _ _ hS (fun _ => Below.refl _ _) (fun h => absurd h (by decide)) rfl
   · have d17 : v 17 = .bool true := hd ⟨17, .guard⟩ (by simp) rfl
     have d18 : v 18 = .agg #[.slice (some ⟨h1, 0, none⟩) zn d1, .slice (some ⟨h2, 0, none⟩) yn d2] := hd ⟨18, .data⟩ (by simp) rfl
     have d19 : v 19 = .int .i64 zi := hd ⟨19, .data⟩ (by simp) rfl
     have hP := hpre (by decide)
     have HC := Lib.hid (pays_any (some ⟨h1, 0, none⟩) (some ⟨h2, 0, none⟩) zn d1 yn d2 zo zi w5 (hP.o.f.out HLEN.out.2.2.2.1 HLEN.out.2.2.2.2 (by omega) (by omega) hP.s.z.has.bd hP.s.z.prices.bd))
     rw [← HEV.out.2] at HC
     rw [d17, d18, d19] at hK ⊢
     clear hd hpre hP
     go_wp2_with fail
     refine HC.out.mono ?_
     rintro e w6 ⟨rfl, hb6⟩
     clear HC
     go_wp2_with fail
     exact hK _ _ (hS.trans (hb6.mono hS.size)) (fun _ => hb6) (fun h => absurd h (by decide)) rfl
   · have d17 : v 17 = .bool true := hd ⟨17, .guard⟩ (by simp) rfl
     have hP := hpre (by decide)
     have c0 := VRow.cell hP.s.u (k := 0) rfl
     have c1 := VRow.cell hP.s.u (k := 1) rfl
     rw [d17] at hK ⊢
     clear hd hpre hP
     go_wp2_with fail
     exact hK _ _ hS (fun _ => Below.refl _ _) (fun h => absurd h (by decide)) rfl
   · have d17 : v 17 = .bool true := hd ⟨17, .guard⟩ (by simp) rfl
     rw [d17] at hK ⊢
     clear hd hpre
     go_wp2_with fail
     exact hK _ _ hS (fun _ => Below.refl _ _) (fun h => absurd h (by decide)) rfl
   · have d17 : v 17 = .bool true := hd ⟨17, .guard⟩ (by simp) rfl
     have d21 : v 21 = .agg #[.slice za zn zc, .slice ya yn yc] := hd ⟨21, .data⟩ (by simp) rfl
     have d22 : v 22 = .int .i64 zi := hd ⟨22, .data⟩ (by simp) rfl
     have hP := hpre (by decide)
     have HC := Lib.hid (pays15_any za ya zn zc yn yc zo zi w5 hP.s.z)
     rw [← HEV.out.2] at HC
     rw [d17, d21, d22] at hK ⊢
     clear hd hpre hP
     go_wp2_with fail
     refine HC.out.mono ?_
     rintro e w6 ⟨rfl, hb6⟩
     clear HC
     go_wp2_with fail
     exact hK _ _ (hS.trans (hb6.mono hS.size)) (fun _ => hb6) (fun h => absurd h (by decide)) rfl
   · have d17 : v 17 = .bool true := hd ⟨17, .guard⟩ (by simp) rfl
     have d20 : v 20 = .int .i64 py := hd ⟨20, .data⟩ (by simp) rfl
     have d23 : v 23 = .int .i64 py := hd ⟨23, .data⟩ (by simp) rfl
     rw [d17, d20, d23] at hK ⊢
     clear hd hpre
     go_wp2_with fail
     exact hK _ _ hS (fun _ => Below.refl _ _) (fun h => absurd h (by decide)) rfl
   · have d17 : v 17 = .bool true := hd ⟨17, .data⟩ (by simp) rfl
     have d24 : v 24 = .bool true := hd ⟨24, .data⟩ (by simp) rfl
     rw [d17, d24] at hK ⊢
     clear hd hpre
     go_wp2_with fail
     exact hK _ _ hS (fun _ => Below.refl _ _) (fun h => absurd h (by decide)) rfl
   · have d25 : v 25 = .bool true := hd ⟨25, .data⟩ (by simp) rfl
     rw [d25] at hK ⊢
     clear hd hpre
     go_wp2_with fail
     exact hK _ _ hS (fun _ => Below.refl _ _) (fun h => absurd h (by decide)) rfl
   · have d26 : v 26 = .bool true := hd ⟨26, .guard⟩ (by simp) rfl
     have hP := hpre (by decide)
     have c0 := VRow.cell hP.x.v (k := 0) rfl
     have c1 := VRow.cell hP.x.v (k := 1) rfl
     have c2 := VRow.cell hP.x.v (k := 2) rfl
     rw [d26] at hK ⊢
     clear hd hpre hP
     go_wp2_with fail
     exact hK _ _ hS (fun _ => Below.refl _ _) (fun h => absurd h (by decide)) rfl
   · have d26 : v 26 = .bool true := hd ⟨26, .guard⟩ (by simp) rfl
     have hP := hpre (by decide)
     have c0 := VRow.cell hP.s.v (k := 0) rfl
     have c1 := VRow.cell hP.s.v (k := 1) rfl
     have c2 := VRow.cell hP.s.v (k := 2) rfl
     rw [d26] at hK ⊢
     clear hd hpre hP
     go_wp2_with fail
     exact hK _ _ hS (fun _ => Below.refl _ _) (fun h => absurd h (by decide)) rfl
   · have d26 : v 26 = .bool true := hd ⟨26, .guard⟩ (by simp) rfl
     have d27 : v 27 = .agg #[.slice (some ⟨g1, 0, none⟩) rn x1, .slice (some ⟨B, 0, none⟩) bn xB, .slice (some ⟨g3, 0, none⟩) on x3] := hd ⟨27, .data⟩ (by simp) rfl
     have d28 : v 28 = .agg #[.slice ra rn rc, .slice ba bn bc, .slice oa on oc] := hd ⟨28, .data⟩ (by simp) rfl
     have hP := hpre (by decide)
     have HC := Lib.hid (leftMarket_any w2.heap.size s1 s2 g1 x1 B xB M g3 x3 vals gs ra ba oa rn rc bn bc on oc m w5 hP.x.x hP.s.m (by omega) (by omega) (by omega) (fun xs hx => by have := HZ4.out xs hx; omega))
     rw [d26, d27, d28] at hK ⊢
     clear hd hpre hP
     go_wp2_with fail
     refine HC.out.mono ?_
     rintro e w6 ⟨rfl, hb6⟩
     clear HC
     go_wp2_with fail
     exact hK _ _ (hS.trans (hb6.mono hS.size)) (fun _ => hb6) (fun h => absurd h (by decide)) rfl
   · have d26 : v 26 = .bool true := hd ⟨26, .data⟩ (by simp) rfl
     have d29 : v 29 = .bool true := hd ⟨29, .data⟩ (by simp) rfl
     rw [d26, d29] at hK ⊢
     clear hd hpre
     go_wp2_with fail
     exact hK _ _ hS (fun _ => Below.refl _ _) (fun h => absurd h (by decide)) rfl
   · have d30 : v 30 = .bool true := hd ⟨30, .data⟩ (by simp) rfl
     rw [d30] at hK ⊢
     clear hd hpre
     go_wp2_with fail
     exact hK _ _ hS (fun _ => Below.refl _ _) (fun h => absurd h (by decide)) rfl
   · have d31 : v 31 = .bool true := hd ⟨31, .guard⟩ (by simp) rfl
     have hP := hpre (by decide)
     have c0 := VRow.cell hP.o.v (k := 0) rfl
     have c1 := VRow.cell hP.o.v (k := 1) rfl
     rw [d31] at hK ⊢
     clear hd hpre hP
     go_wp2_with fail
     exact hK _ _ hS (fun _ => Below.refl _ _) (fun h => absurd h (by decide)) rfl
   · have d31 : v 31 = .bool true := hd ⟨31, .guard⟩ (by simp) rfl
     have hP := hpre (by decide)
     have c0 := VRow.cell hP.s.u (k := 0) rfl
     have c1 := VRow.cell hP.s.u (k := 1) rfl
     rw [d31] at hK ⊢
     clear hd hpre hP
     go_wp2_with fail
     exact hK _ _ hS (fun _ => Below.refl _ _) (fun h => absurd h (by decide)) rfl
   · have d31 : v 31 = .bool true := hd ⟨31, .guard⟩ (by simp) rfl
     have d32 : v 32 = .agg #[.slice (some ⟨h1, 0, none⟩) zn d1, .slice (some ⟨h2, 0, none⟩) yn d2] := hd ⟨32, .data⟩ (by simp) rfl
     have d33 : v 33 = .agg #[.slice za zn zc, .slice ya yn yc] := hd ⟨33, .data⟩ (by simp) rfl
     have hP := hpre (by decide)
     have HC := Lib.hid (leftOutcome_any w4.heap.size h1 d1 h2 d2 za ya zn zc yn yc zo w5 hP.o.f hP.s.z (by omega) (by omega))
     rw [d31, d32, d33] at hK ⊢
     clear hd hpre hP
     go_wp2_with fail
     refine HC.out.mono ?_
     rintro e w6 ⟨rfl, hb6⟩
     clear HC
     go_wp2_with fail
     exact hK _ _ (hS.trans (hb6.mono hS.size)) (fun _ => hb6) (fun h => absurd h (by decide)) rfl
   · have d31 : v 31 = .bool true := hd ⟨31, .data⟩ (by simp) rfl
     have d34 : v 34 = .bool true := hd ⟨34, .data⟩ (by simp) rfl
     rw [d31, d34] at hK ⊢
     clear hd hpre
     go_wp2_with fail
     exact hK _ _ hS (fun _ => Below.refl _ _) (fun h => absurd h (by decide)) rfl
   · have d35 : v 35 = .bool true := hd ⟨35, .data⟩ (by simp) rfl
     rw [d35] at hK ⊢
     clear hd hpre
     go_wp2_with fail
     exact hK _ _ hS (fun _ => Below.refl _ _) (fun h => absurd h (by decide)) rfl
   · have d36 : v 36 = .bool true := hd ⟨36, .guard⟩ (by simp) rfl
     have hP := hpre (by decide)
     have HC := Lib.hid (apart_any Bk (0 + bn + 3 + 2 + 2) w2.heap.size _ _ _ w5 hP.k.k (by omega) hlo hP.k.gB hP.k.gI hP.k.gL (fun x hx => by
       have hrs := toSlc_len hP.x.x.rows (K := 1000) (fun xs hx => HZ4.out xs hx)
       simp only [List.mem_append, List.mem_cons, List.not_mem_nil, or_false, false_or] at hx
       rcases hx with ((((rfl | hx) | rfl) | (rfl | rfl)) | (rfl | rfl)) | rfl
       all_goals first | (have := hrs x hx; omega) | (show _ ≤ 900000; simp only []; omega)))
     rw [d36] at hK ⊢
     clear hd hpre hP
     go_wp2_with fail
     refine HC.out.mono ?_
     rintro e w6 ⟨rfl, hb6⟩
     clear HC
     go_wp2_with fail
     exact hK _ _ (hS.trans (hb6.mono hw02)) (fun h => absurd rfl h) (fun _ => hb6) rfl
   · have d36 : v 36 = .bool true := hd ⟨36, .data⟩ (by simp) rfl
     have d37 : v 37 = .bool true := hd ⟨37, .data⟩ (by simp) rfl
     rw [d36, d37] at hK ⊢
     clear hd hpre
     go_wp2_with fail
     exact hK _ _ hS (fun _ => Below.refl _ _) (fun h => absurd h (by decide)) rfl
   · have d38 : v 38 = .bool true := hd ⟨38, .data⟩ (by simp) rfl
     rw [d38] at hK ⊢
     clear hd hpre
     go_wp2_with fail
     exact hK _ _ hS (fun _ => Below.refl _ _) (fun h => absurd h (by decide)) rfl
   · have d39 : v 39 = .bool true := hd ⟨39, .guard⟩ (by simp) rfl
     have HC := Lib.hid (lives15_any w5)
     rw [d39] at hK ⊢
     clear hd hpre
     go_wp2_with fail
     refine HC.out.mono ?_
     rintro e w6 ⟨rfl, hb6⟩
     clear HC
     go_wp2_with fail
     exact hK _ _ (hS.trans (hb6.mono hS.size)) (fun _ => hb6) (fun h => absurd h (by decide)) rfl
   · have d39 : v 39 = .bool true := hd ⟨39, .data⟩ (by simp) rfl
     have d40 : v 40 = .bool true := hd ⟨40, .data⟩ (by simp) rfl
     rw [d39, d40] at hK ⊢
     clear hd hpre
     go_wp2_with fail
     exact hK _ _ hS (fun _ => Below.refl _ _) (fun h => absurd h (by decide)) rfl
end Go.Proofs.YtkddkkcfpnndlaaGreatDoor
