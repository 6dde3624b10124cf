/- Walks: the law FirstsFirst. -/
import Derived.Test.YtbnjeegicbffeaaFa1
import Derived.Test.YtbnjeegicbffeaaFp2
import Derived.Test.YtbnjeegicbffeaaKept
namespace Go.Proofs.Ytbnjeegicbffeaa
open Go.RowKit Sale

theorem alive_kept (w0 : World) (x : Kept (Below w0.heap.size w0)) : Calls Try.prog 25 #[] x.w fun e w' => e = .returned (.bool true) ∧ ∃ y : Kept (Below w0.heap.size w0), w' = y.w := by
  refine Kept.call ((alive_any x.w).mono ?_)
  rintro e w' ⟨rfl, h⟩
  exact ⟨rfl, x.h.trans (h.mono x.h.size)⟩

set_option maxRecDepth 100000 in
set_option maxHeartbeats 1000000 in
theorem firstsFirst_any (ga oa ta : Option Addr) (gn gc o_n oc tn tc : Nat) (gains : List (List Int)) (items : Int) (order other : List Int) (w : World) (hg : Rows w ga gn gc gains) (ho : Ints w oa o_n oc order) (ht : Ints w ta tn tc other) (hsz : o_n * 8 ≤ reachBytes) :
    Calls Try.prog 5 #[.agg #[.slice ga gn gc, .int .i64 items], .slice oa o_n oc, .slice ta tn tc] w fun e w' => e = .returned (.bool true) ∧ Below w.heap.size w w' := by
  have HG := Lib.hid hg; clear hg
  have HO := Lib.hid ho; clear ho
  have HT := Lib.hid ht; clear ht
  have HB0 := Lib.hid (gw_start w ga gn gc items)
  have HF := Lib.hid (First_all ga oa gn gc o_n oc gains items order (gw w ga gn gc items) (HG.out.below (gw_kept HB0.out).2.2.2 (Nat.le_refl _)) (HO.out.below (gw_kept HB0.out).2.2.2 (Nat.le_refl _)) hsz)
  have HL := Lib.hid HG.out.len
  go_enter Try.func5, Try.ntmps5
  rcases HF.out with ⟨hok, hc⟩ | ⟨n, on, rfl, rfl, h1, h2, hc⟩
  · have HC := Lib.hid hc; clear hc
    clear HF hok
    go_wp2_with fail
    refine HC.out.mono ?_
    rintro e w1 ⟨a1, n1, c1, rfl, hi1, hb1⟩
    have HB1 := Lib.hid (gw_below HB0.out hb1); clear hb1
    clear HC hi1
    obtain ⟨hc0, hc1, hs1, _⟩ := gw_kept HB1.out
    go_wp2_with fail
    refine (alive_any w1).mono ?_
    rintro e w3 ⟨rfl, hb⟩
    have HB3 := Lib.hid (gw_below HB1.out hb); clear hb
    go_wp2_with fail
    go_ret
    exact ⟨rfl, (gw_kept HB3.out).2.2.2⟩
  · have HC := Lib.hid hc; clear hc
    have H1 := Lib.hid h1; clear h1
    have H2 := Lib.hid h2; clear h2
    obtain ⟨p1, p2, p3, p4, p5⟩ := wcheck_parts H1.out
    have P4 := Lib.hid p4; clear p4
    have P5 := Lib.hid p5; clear p5
    clear HF
    go_wp2_with fail
    refine HC.out.mono ?_
    rintro e w1 ⟨a1, n1, c1, rfl, hi1, hb1⟩
    have HB1 := Lib.hid (gw_below HB0.out hb1); clear hb1
    have HI1 := Lib.hid hi1; clear hi1
    clear HC
    have hn1 : n1 = gn := by rw [← HI1.out.len, firstOf_length, HL.out]
    subst hn1
    obtain ⟨hc0, hc1, hs1, _⟩ := gw_kept HB1.out
    by_cases htn : tn = n1
    · subst htn
      go_wp2_with fail
      refine (Best_any ga tn gc gains n w1 (HG.out.below (gw_kept HB1.out).2.2.2 (Nat.le_refl _))).mono ?_
      rw [H1.out, if_pos rfl, if_pos rfl]
      rintro e w2 ⟨rfl, hb⟩
      have HB2 := Lib.hid (gw_below HB1.out hb)
      have HI2 := Lib.hid (HI1.out.below hb (Nat.le_refl _)); clear hb
      clear hc0 hc1 hs1
      obtain ⟨hc0, hc1, hs1, _⟩ := gw_kept HB2.out
      go_wp2_with fail
      refine (gains_any ga ta tn gc tn tc gains n other w2 (HG.out.below (gw_kept HB2.out).2.2.2 (Nat.le_refl _)) (HT.out.below (gw_kept HB2.out).2.2.2 (Nat.le_refl _)) rfl p3 P5.out).mono ?_
      rintro e w3 ⟨rfl, hb⟩
      have HB3 := Lib.hid (gw_below HB2.out hb)
      have HI3 := Lib.hid (HI2.out.below hb (Nat.le_refl _)); clear hb
      clear hc0 hc1 hs1
      obtain ⟨hc0, hc1, hs1, _⟩ := gw_kept HB3.out
      have HTL := Lib.hid (HT.out.len.trans HL.out.symm)
      cases hm : isM gains other gains.length with
      | false =>
        rw [show gainsOf gains other = (0, false) by simp [gainsOf, hm]]
        clear hm
        go_wp2_with fail
        refine (alive_any w3).mono ?_
        rintro e w4 ⟨rfl, hb⟩
        have HB4 := Lib.hid (gw_below HB3.out hb); clear hb
        go_wp2_with fail
        go_ret
        exact ⟨rfl, (gw_kept HB4.out).2.2.2⟩
      | true =>
        rw [show gainsOf gains other = (mSum gains other gains.length, true) by simp [gainsOf, hm]]
        have hmost := mSum_most P4.out HTL.out hm
        have HM := Lib.hid hm; clear hm
        by_cases hs : mSum gains other gains.length = bestVal gains n
        · have HS := Lib.hid hs; clear hs
          rw [HS.out]
          have e1 : (bestVal gains n != bestVal gains n) = false := by simp
          go_wp2_with fail
          have HON := Lib.hid (show o_n = on.length by have := HO.out.len; simp at this; omega)
          have hperm := isOrd_parts H2.out
          have HP := Lib.hid hperm; clear hperm
          have hob := HO.out.big
          clear hc0 hc1 hs1
          have HR := Lib.hid (Below.refl w3.heap.size w3)
          go_loopg [13, 14] o_n (fun g s13 s14 wr => ∃ d : Nat, d + g = o_n ∧ s13 = .int .i64 d ∧ Below w3.heap.size w3 wr ∧ ∀ y, y ∈ on.take d → (firstOf gains n on)[y]? = other[y]?)
          case atStart => exact ⟨0, by omega, rfl, HR.out, fun y hy => by simp at hy⟩
          case round =>
            obtain ⟨d, hd, rfl, hB, heq⟩ := hrel
            have HEQ := Lib.hid heq; clear heq
            have hBw : Below w.heap.size w wr := (gw_kept HB3.out).2.2.2.trans (hB.mono (gw_kept HB3.out).2.2.2.size)
            by_cases hlt : d < o_n
            · obtain ⟨x, hx⟩ : ∃ x, on[d]? = some x := ⟨on[d]'(by have := HON.out; omega), by simp⟩
              have hxl : x < gains.length := List.mem_range.1 (HP.out.mem_iff.1 (List.mem_of_getElem? hx))
              have hxt : x < tn := by have := HL.out; omega
              obtain ⟨bo, oo, rfl⟩ := HO.out.addr (by omega)
              obtain ⟨bt, ot, rfl⟩ := HT.out.addr (by omega)
              obtain ⟨ba, oa2, rfl⟩ := HI3.out.addr (by omega)
              obtain ⟨h, hh, _⟩ := HI3.out.get hxt
              obtain ⟨o, ho, _⟩ := HT.out.get hxt
              have hc1 := (HO.out.below hBw (Nat.le_refl _)).cell bo oo rfl d x (by simp [hx])
              have hc2 := (HT.out.below hBw (Nat.le_refl _)).cell bt ot rfl x o ho
              have hc3 := (HI3.out.below hB (Nat.le_refl _)).cell ba oa2 rfl x h hh
              have HB := Lib.hid hB; clear hB
              have HBW := Lib.hid hBw; clear hBw
              have HX := Lib.hid hx; clear hx
              have HH := Lib.hid hh; clear hh
              have HO2 := Lib.hid ho; clear ho
              have i1 : (x : Int) < (tn : Int) := by omega
              by_cases hho : h = o
              · have e2 : (h != o) = false := by simp [hho]
                have HHO := Lib.hid hho; clear hho
                go_wp2_with fail
                go_quiet (fail)
                go_wp2_with fail
                go_roundg (gk - 1)
                case measure => omega
                case rel =>
                  refine ⟨d + 1, by omega, by go_num, below_drewN HB.out _, fun y hy => ?_⟩
                  rw [List.take_add_one, HX.out, List.mem_append] at hy
                  rcases hy with hy | hy
                  · exact HEQ.out y hy
                  · simp at hy; subst hy; rw [HH.out, HO2.out, HHO.out]
              · have e2 : (h != o) = true := by simp [hho]
                obtain ⟨f1, f2⟩ := first_parts P4.out HP.out HM.out HTL.out HS.out HX.out HEQ.out HH.out HO2.out hho
                have e3 : (h != -1) = true := by simp [f1]
                have HHO := Lib.hid hho; clear hho
                have HF1 := Lib.hid f1; clear f1
                go_wp2_with fail
                go_quiet (fail)
                go_wp2_with fail
                have hbd := (below_drewN HB.out nq).drew
                have hne : Nonempty (Kept (Below w3.heap.size w3)) := ⟨⟨_, hbd⟩⟩
                have hk2 : ∀ x' : Kept (Below w3.heap.size w3), x'.w.cell? ⟨bt, ot + x, none⟩ = some (.int .i64 o) := fun x' => (HT.out.below ((gw_kept HB3.out).2.2.2.trans (x'.h.mono (gw_kept HB3.out).2.2.2.size)) (Nat.le_refl _)).cell bt ot rfl x o HO2.out
                have hk3 : ∀ x' : Kept (Below w3.heap.size w3), x'.w.cell? ⟨ba, oa2 + x, none⟩ = some (.int .i64 h) := fun x' => (HI3.out.below x'.h (Nat.le_refl _)).cell ba oa2 rfl x h HH.out
                by_cases ho1 : o = -1
                · have e4 : (o == -1) = true := by simp [ho1]
                  have HO1 := Lib.hid ho1; clear ho1 f2
                  refine wp_region_kept (Below w3.heap.size w3) (by kernel_rfl) (by kernel_rfl) hbd ?_
                  repeat (go_big_quiet_step ((go_at_call 25; exact alive_kept w3 _)))
                  refine wpQuiet_nil ?_
                  intro _ hw'
                  obtain ⟨⟨w4, hb⟩, rfl⟩ := hw'
                  clear hk2 hk3 hne
                  go_wp2_with fail
                  go_ret
                  exact ⟨rfl, (gw_kept HB3.out).2.2.2.trans (hb.mono (gw_kept HB3.out).2.2.2.size)⟩
                · have e4 : (o == -1) = false := by simp [ho1]
                  have f3 : h < o := f2.resolve_left ho1
                  have e5 : decide (h < o) = true := by simp [f3]
                  have HO1 := Lib.hid ho1; clear ho1 f2
                  refine wp_region_kept (Below w3.heap.size w3) (by kernel_rfl) (by kernel_rfl) hbd ?_
                  repeat (go_big_quiet_step ((go_at_call 25; exact alive_kept w3 _)))
                  refine wpQuiet_nil ?_
                  intro _ hw'
                  obtain ⟨⟨w4, hb⟩, rfl⟩ := hw'
                  clear hk2 hk3 hne
                  go_wp2_with fail
                  go_ret
                  exact ⟨rfl, (gw_kept HB3.out).2.2.2.trans (hb.mono (gw_kept HB3.out).2.2.2.size)⟩
            · go_wp2_with fail
              refine (alive_any wr).mono ?_
              rintro e w4 ⟨rfl, hb⟩
              go_wp2_with fail
              go_ret
              exact ⟨rfl, hBw.trans (hb.mono hBw.size)⟩
        · have e1 : (mSum gains other gains.length != bestVal gains n) = true := by simp [hs]
          have hlt : mSum gains other gains.length < bestVal gains n := by omega
          have HS := Lib.hid hs; clear hs
          go_wp2_with fail
          refine (alive_any w3).mono ?_
          rintro e w4 ⟨rfl, hb⟩
          have HB4 := Lib.hid (gw_below HB3.out hb); clear hb
          go_wp2_with fail
          go_ret
          exact ⟨rfl, (gw_kept HB4.out).2.2.2⟩
    · have e1 : ((tn : Int) != (n1 : Int)) = true := by simp; omega
      have HTN := Lib.hid htn; clear htn
      go_wp2_with fail
      refine (alive_any w1).mono ?_
      rintro e w3 ⟨rfl, hb⟩
      have HB3 := Lib.hid (gw_below HB1.out hb); clear hb
      go_wp2_with fail
      go_ret
      exact ⟨rfl, (gw_kept HB3.out).2.2.2⟩
end Go.Proofs.Ytbnjeegicbffeaa
