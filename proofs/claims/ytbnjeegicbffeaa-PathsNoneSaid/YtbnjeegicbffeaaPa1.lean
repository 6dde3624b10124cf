/- Walks: the law PathsMore. -/
import Derived.Test.YtbnjeegicbffeaaPl2
import Derived.Test.YtbnjeegicbffeaaPp1
namespace Go.Proofs.Ytbnjeegicbffeaa
open Go.RowKit

/-- the world behind the copy of the graph -/
def pw (w : World) (ga : Option Addr) (gn gc : Nat) (items : Int) : World := w.alloc (.cells #[.slice ga gn gc, .int .i64 items] 52)
theorem pw_kept {w w1 : World} {ga : Option Addr} {gn gc : Nat} {items : Int} (hb : Below (w.heap.size + 1) (pw w ga gn gc items) w1) :
    w1.cell? ⟨w.heap.size, 0, none⟩ = some (.slice ga gn gc) ∧ w1.cell? ⟨w.heap.size, 1, none⟩ = some (.int .i64 items) ∧ w.heap.size < w1.heap.size ∧ Below w.heap.size w w1 := by
  have hs : (pw w ga gn gc items).heap.size = w.heap.size + 1 := by simp [pw]
  have h0 := hb.size
  refine ⟨?_, ?_, by omega, ((Below.refl w.heap.size w).alloc (Nat.le_refl _) _).trans (hb.mono (by omega))⟩
  · rw [hb.cell (p := ⟨w.heap.size, 0, none⟩) (by simp)]; simp [pw, go_sem]
  · rw [hb.cell (p := ⟨w.heap.size, 1, none⟩) (by simp)]; simp [pw, go_sem]
theorem pw_start (w : World) (ga : Option Addr) (gn gc : Nat) (items : Int) : Below (w.heap.size + 1) (pw w ga gn gc items) (pw w ga gn gc items) := Below.refl _ _
theorem pw_below {w w1 w2 : World} {ga : Option Addr} {gn gc : Nat} {items : Int} (h : Below (w.heap.size + 1) (pw w ga gn gc items) w1) (h2 : Below w1.heap.size w1 w2) : Below (w.heap.size + 1) (pw w ga gn gc items) w2 :=
  h.trans (h2.mono (by have := h.size; simp [pw] at this; omega))

set_option maxRecDepth 100000 in
set_option maxHeartbeats 1000000 in
theorem pathsMore_any (ga ma : Option Addr) (gn gc mn mc : Nat) (g : List (List Int)) (items : Int) (m : List Int) (start : Int) (w : World) (hg : Rows w ga gn gc g) (hm : Ints w ma mn mc m) :
    Calls Try.prog 15 #[.agg #[.slice ga gn gc, .int .i64 items], .slice ma mn mc, .int .i64 start] w fun e w' => e = .returned (.bool true) ∧ Below w.heap.size w w' := by
  have HG := Lib.hid hg; clear hg
  have HM := Lib.hid hm; clear hm
  have HB0 := Lib.hid (pw_start w ga gn gc items)
  have hgr := HG.out.below (pw_kept HB0.out).2.2.2 (Nat.le_refl _)
  have hmr := HM.out.below (pw_kept HB0.out).2.2.2 (Nat.le_refl _)
  rcases bCase g items m start with hok | ⟨G, f, rfl, rfl, hok⟩
  · have HC := Lib.hid (More_no ga ma gn gc mn mc g items start m (pw w ga gn gc items) hgr hmr hok)
    clear hgr hmr hok
    go_enter Try.func15, Try.ntmps15
    go_wp2_with fail
    refine HC.out.mono ?_
    rintro e w1 ⟨rfl, hb1⟩
    have HB1 := Lib.hid (pw_below HB0.out hb1); clear hb1 HC
    go_wp2_with fail
    refine (alive7_any w1).mono ?_
    rintro e w2 ⟨rfl, hb⟩
    have HB2 := Lib.hid (pw_below HB1.out hb); clear hb
    go_wp2_with fail
    go_ret
    exact ⟨rfl, (pw_kept HB2.out).2.2.2⟩
  · have HC := Lib.hid (More_res ga ma gn gc mn mc f G items m (pw w ga gn gc items) hgr hmr hok)
    have hbo := bOk_parts hok
    have HBO := Lib.hid hbo; clear hbo
    have HGC := Lib.hid (bOk_gcheck hok)
    clear hgr hmr hok
    cases hmo : moreOf G m f with
    | none =>
      rw [hmo] at HC
      clear hmo
      go_enter Try.func15, Try.ntmps15
      go_wp2_with fail
      refine HC.out.mono ?_
      rintro e w1 ⟨rfl, hb1⟩
      have HB1 := Lib.hid (pw_below HB0.out hb1); clear hb1 HC
      go_wp2_with fail
      refine (alive7_any w1).mono ?_
      rintro e w2 ⟨rfl, hb⟩
      have HB2 := Lib.hid (pw_below HB1.out hb); clear hb
      go_wp2_with fail
      go_ret
      exact ⟨rfl, (pw_kept HB2.out).2.2.2⟩
    | some l =>
      rw [hmo] at HC
      obtain ⟨k, ws, hmv⟩ := moved HBO.out hmo
      clear hmo
      have hmany := hmv.many HBO.out
      have hfit := hmv.fits HBO.out HGC.out
      have HMV := Lib.hid hmv; clear hmv
      have HFIT := Lib.hid hfit; clear hfit
      have hfm : f < mn := by have := HBO.out.lt; have := HM.out.len; omega
      have hmn8 : mn ≤ 8 := by have := HBO.out.len; have := HBO.out.n8; have := HM.out.len; omega
      have hmb := manyOf_le m
      rw [HM.out.len] at hmb
      obtain ⟨M, hM⟩ : ∃ M, M = manyOf m := ⟨_, rfl⟩
      rw [← hM] at hmany hmb
      have HMM := Lib.hid hM; clear hM
      have HMANY := Lib.hid hmany; clear hmany
      obtain ⟨hmb1, hmb2⟩ := hmb
      go_enter Try.func15, Try.ntmps15
      go_wp2_with fail
      refine HC.out.mono ?_
      rintro e w1 ⟨a1, rfl, hi1, hb1⟩
      have HB1 := Lib.hid (pw_below HB0.out hb1); clear hb1 HC
      have HI1 := Lib.hid hi1; clear hi1
      obtain ⟨c0, c1, hs1, hB1⟩ := pw_kept HB1.out
      have HBW1 := Lib.hid hB1; clear hB1
      go_wp2_with fail
      refine (fits_any ga a1 gn gc mn mn (G.map nats) items l w1 (HG.out.below HBW1.out (Nat.le_refl _)) HI1.out).mono ?_
      rw [HFIT.out]
      rintro e w2 ⟨rfl, hb2⟩
      have HB2 := Lib.hid (pw_below HB1.out hb2)
      have HI2 := Lib.hid (HI1.out.below hb2 (Nat.le_refl _)); clear hb2
      have HBW2 := Lib.hid (pw_kept HB2.out).2.2.2
      have HM2 := Lib.hid (HM.out.below HBW2.out (Nat.le_refl _))
      go_wp2_with fail
      refine (many_any a1 mn mn l w2 HI2.out).mono ?_
      rw [HMANY.out]
      rintro e w3 ⟨rfl, rfl⟩
      go_wp2_with fail
      refine (many_any ma mn mc m w2 HM2.out).mono ?_
      rw [← HMM.out]
      rintro e w3 ⟨rfl, rfl⟩
      have e1 : ((M + 1 : Int) != M + 1) = false := by simp
      have e2 : ((mn : Int) != (mn : Int)) = false := by simp
      have e3 : decide ((f : Int) < 0) = false := by simp
      have e4 : decide ((mn : Int) ≤ (f : Int)) = false := by simp; omega
      have e4' : ¬ (mn ≤ f) := by omega
      obtain ⟨y, hy, _⟩ := HI2.out.get hfm
      obtain ⟨b1, o1, rfl⟩ := HI2.out.addr (by omega)
      have cy := HI2.out.cell b1 o1 rfl f y hy
      have e5 : (y == -1) = false := by have := HMV.out.start hy; simp [this]
      have i1 : (f : Int) < (mn : Int) := by omega
      have HY := Lib.hid hy; clear hy
      clear c0 c1
      go_wp2_with fail
      go_loopg [10] mn (fun g' s10 wr => ∃ i : Nat, i + g' = mn ∧ s10 = .int .i64 i ∧ wr = w2)
      case atStart => exact ⟨0, by omega, rfl, rfl⟩
      case round =>
        obtain ⟨i, hi, rfl, rfl⟩ := hrel
        have HI := Lib.hid hi; clear hi
        by_cases hlt : i < mn
        · obtain ⟨x, hx, _⟩ := HM2.out.get hlt
          obtain ⟨z, hz, _⟩ := HI2.out.get hlt
          obtain ⟨b2, o2, rfl⟩ := HM2.out.addr (by omega)
          have cx := HM2.out.cell b2 o2 rfl i x hx
          have cz := HI2.out.cell b1 o1 rfl i z hz
          have hxb := (HBO.out.bd x (List.mem_of_getElem? hx)).1
          have i2 : (i : Int) < (mn : Int) := by omega
          by_cases hx1 : x = -1
          · have f1 : (x != -1) = false := by simp [hx1]
            have HX1 := Lib.hid hx1; clear hx1
            have HX := Lib.hid hx; clear hx
            have HZ := Lib.hid hz; clear hz
            go_wp2_with fail
            go_roundg (gk - 1)
            case measure => have := HI.out; omega
            case rel => exact ⟨i + 1, by have := HI.out; omega, by go_num, rfl⟩
          · obtain ⟨k1, k2⟩ := HMV.out.keeps hx hz hxb hx1
            have f1 : (x != -1) = true := by simp [hx1]
            have f2 : (z == -1) = false := by simp [k1]
            have f3 : decide (x ∈ l) = true := by simp [k2]
            have HX1 := Lib.hid hx1; clear hx1 k1 k2
            have HX := Lib.hid hx; clear hx
            have HZ := Lib.hid hz; clear hz
            go_wp2_with fail
            refine (lhas_any _ mn mn l x wr HI2.out).mono ?_
            rw [f3]
            rintro e w3 ⟨rfl, rfl⟩
            go_wp2_with fail
            go_roundg (gk - 1)
            case measure => have := HI.out; omega
            case rel => exact ⟨i + 1, by have := HI.out; omega, by go_num, rfl⟩
        · go_wp2_with fail
          refine (alive7_any wr).mono ?_
          rintro e w4 ⟨rfl, hb⟩
          have HB4 := Lib.hid (pw_below HB2.out hb); clear hb
          go_wp2_with fail
          go_ret
          exact ⟨rfl, (pw_kept HB4.out).2.2.2⟩
end Go.Proofs.Ytbnjeegicbffeaa
