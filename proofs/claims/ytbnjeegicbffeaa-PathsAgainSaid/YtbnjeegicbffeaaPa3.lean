/- Walks: the law PathsAgain. -/
import Derived.Test.YtbnjeegicbffeaaPa2
namespace Go.Proofs.Ytbnjeegicbffeaa
open Go.RowKit

/-- who has what, while others go their ways: from the one that found none nothing is found -/
structure Again (G : List (List Nat)) (items : Int) (n f : Nat) (R : List Nat) (l : List Int) : Prop where
  len : l.length = n
  fits : fitsB (G.map nats) items l = true
  stuck : Way.Stuck (nbOf G) f R (hasAt l)
  bd : ∀ x, x ∈ l → -1 ≤ x ∧ x < 8

theorem stuck_start {G : List (List Nat)} {m : List Int} {f : Nat} (hb : BOk G m f) (hmo : moreOf G m f = none) : ∃ R C, Way.Few (nbOf G) f R C ∧ Way.Stuck (nbOf G) f R (hasAt m) := by
  have hm : Way.more (nbOf G) (Way.holdTo (hasAt m) m.length) (hasAt m) f = none := by
    unfold moreOf at hmo
    cases h : Way.more (nbOf G) (Way.holdTo (hasAt m) m.length) (hasAt m) f with
    | none => rfl
    | some h' => rw [h] at hmo; cases hmo
  obtain ⟨R, C, h1, h2, _⟩ := Way.stuck_of_none hb.held hb.zero hb.h8 hm
  exact ⟨R, C, h1, h2⟩

theorem bOk_of {G : List (List Nat)} {items : Int} {l : List Int} {i : Nat} (hf : fitsB (G.map nats) items l = true) (hx : l[i]? = some (-1)) : bOk (G.map nats) items l (i : Int) = true := by
  have hi := (List.getElem?_eq_some_iff.1 hx).1
  have := (fitsB_parts hf).2.1
  simp only [bOk, Bool.and_eq_true, decide_eq_true_eq, Int.toNat_natCast]
  exact ⟨⟨⟨hf, by omega⟩, by omega⟩, hx⟩

theorem Again.step {G : List (List Nat)} {items : Int} {n f i : Nat} {R : List Nat} {l l' : List Int} (h : Again G items n f R l) (hx : l[i]? = some (-1)) (hne : i ≠ f) (hmo : moreOf G l i = some l') : Again G items n f R l' := by
  have hok := bOk_of h.fits hx
  have hb := bOk_parts hok
  obtain ⟨k, ws, hm⟩ := moved hb hmo
  have hf := hm.fits hb (bOk_gcheck hok)
  refine ⟨hm.len.trans h.len, hf, h.stuck.went hne hm.went, fun x hx => ⟨hm.ge x hx, ?_⟩⟩
  obtain ⟨j, hj⟩ := List.mem_iff_getElem?.1 hx
  by_cases e : x = -1
  · omega
  · have := fits_item hf hj e; omega

theorem Again.no {G : List (List Nat)} {items : Int} {n f : Nat} {R C : List Nat} {l : List Int} (h : Again G items n f R l) (hF : Way.Few (nbOf G) f R C) (hx : l[f]? = some (-1)) : moreOf G l f = none := by
  have hb := bOk_parts (bOk_of h.fits hx)
  unfold moreOf
  rw [h.stuck.more hF hb.held hb.h8]
  rfl

theorem Again.start {G : List (List Nat)} {items : Int} {n f : Nat} {R : List Nat} {l : List Int} (h : Again G items n f R l) (hf : f < n) : l[f]? = some (-1) := by
  obtain ⟨x, hx⟩ : ∃ x, l[f]? = some x := ⟨_, List.getElem?_eq_getElem (by rw [h.len]; exact hf)⟩
  rw [hx, (hasAt_none hx).1 h.stuck.zero]

set_option maxRecDepth 100000 in
set_option maxHeartbeats 1000000 in
theorem pathsAgain_any (ga ma : Option Addr) (gn gc mn mc : Nat) (g : List (List Int)) (items : Int) (m : List Int) (start : Int) (w : World) (hg : Rows w ga gn gc g) (hm : Ints w ma mn mc m) :
    Calls Try.prog 14 #[.agg #[.slice ga gn gc, .int .i64 items], .slice ma mn mc, .int .i64 start] w fun e w' => e = .returned (.bool true) ∧ Below w.heap.size w w' := by
  have HG := Lib.hid hg; clear hg
  have HM := Lib.hid hm; clear hm
  have HB0 := Lib.hid (pw_start w ga gn gc items)
  have hgr := HG.out.below (pw_kept HB0.out).2.2.2 (Nat.le_refl _)
  have hmr := HM.out.below (pw_kept HB0.out).2.2.2 (Nat.le_refl _)
  rcases bCase g items m start with hok | ⟨G, f, rfl, rfl, hok⟩
  · have HC := Lib.hid (More_no ga ma gn gc mn mc g items start m (pw w ga gn gc items) hgr hmr hok)
    clear hgr hmr hok
    go_enter Try.func14, Try.ntmps14
    go_wp2_with fail
    refine HC.out.mono ?_
    rintro e w1 ⟨rfl, hb1⟩
    have HB1 := Lib.hid (pw_below HB0.out hb1); clear hb1 HC
    go_wp2_with fail
    refine (alive7_any w1).mono ?_
    rintro e w2 ⟨rfl, hb⟩
    have HB2 := Lib.hid (pw_below HB1.out hb); clear hb
    go_wp2_with fail
    go_ret
    exact ⟨rfl, (pw_kept HB2.out).2.2.2⟩
  · have HC := Lib.hid (More_res ga ma gn gc mn mc f G items m (pw w ga gn gc items) hgr hmr hok)
    have hbo := bOk_parts hok
    have HBO := Lib.hid hbo; clear hbo
    have hfits : fitsB (G.map nats) items m = true := by
      simp only [bOk, Bool.and_eq_true, decide_eq_true_eq] at hok
      exact hok.1.1.1
    have HFIT := Lib.hid hfits; clear hfits
    clear hgr hmr hok
    have hmG : mn = G.length := by have := HBO.out.len; have := HM.out.len; omega
    have hGn : G.length = gn := by have := HG.out.len; simpa using this
    have hfm : f < mn := by have := HBO.out.lt; have := HM.out.len; omega
    have hmn8 : mn ≤ 8 := by have := HBO.out.n8; omega
    obtain rfl : mn = gn := by omega
    clear hmG
    have HGN := Lib.hid hGn; clear hGn
    cases hmo : moreOf G m f with
    | some l =>
      rw [hmo] at HC
      clear hmo
      go_enter Try.func14, Try.ntmps14
      go_wp2_with fail
      refine HC.out.mono ?_
      rintro e w1 ⟨a1, rfl, _, hb1⟩
      have HB1 := Lib.hid (pw_below HB0.out hb1); clear hb1 HC
      go_wp2_with fail
      refine (alive7_any w1).mono ?_
      rintro e w2 ⟨rfl, hb⟩
      have HB2 := Lib.hid (pw_below HB1.out hb); clear hb
      go_wp2_with fail
      go_ret
      exact ⟨rfl, (pw_kept HB2.out).2.2.2⟩
    | none =>
      obtain ⟨R, C, hF, hS⟩ := stuck_start HBO.out hmo
      rw [hmo] at HC
      clear hmo
      have hag : Again G items mn f R m := ⟨HM.out.len, HFIT.out, hS, HBO.out.bd⟩
      have HAG := Lib.hid hag; clear hag
      have HF := Lib.hid hF; clear hF hS
      go_enter Try.func14, Try.ntmps14
      go_wp2_with fail
      refine HC.out.mono ?_
      rintro e w1 ⟨rfl, hb1⟩
      have HB1 := Lib.hid (pw_below HB0.out hb1); clear hb1 HC
      obtain ⟨c0, c1, hs1, hB1⟩ := pw_kept HB1.out
      have HM1 := Lib.hid (HM.out.below hB1 (Nat.le_refl _))
      have HBW1 := Lib.hid hB1; clear hB1
      have e3 : ((mn : Int) != (mn : Int)) = false := by simp
      go_wp2_with (at_builtin; refine appMany _ rfl _ _ rfl w1.heap.size _ [] rfl (Own.nil _ _) _ mn mc m rfl HM1.out (by omega) (by simp; omega) (Nat.le_refl _) ?_)
      intro v' w2 hown' _ hb' _
      obtain ⟨va, vc, rfl, hmr, _⟩ := hown'.myRow
      rw [HM1.out.len] at hmr ⊢
      have hmi := hmr.ints (by omega) (fun x hx => HM1.out.bd x hx)
      have HMI := Lib.hid hmi; clear hmi
      have HB2 := Lib.hid hb'; clear hb' hown' hmr
      have HBA := Lib.hid (pw_below HB1.out HB2.out)
      go_wp2_with fail
      go_loopg [10, 11] mn (fun g' s10 s11 wr => ∃ (i : Nat) (a : Option Addr) (c : Nat) (l : List Int), i + g' = mn ∧ s11 = .int .i64 i ∧ s10 = .slice a mn c ∧ Ints wr a mn c l ∧ Again G items mn f R l ∧ Below (w.heap.size + 1) (pw w ga mn gc items) wr)
      case atStart => exact ⟨0, _, _, m, by omega, rfl, rfl, HMI.out, HAG.out, HBA.out⟩
      case round =>
        obtain ⟨i, a, c, l, hi, rfl, rfl, hI, hA, hB⟩ := hrel
        obtain ⟨c0, c1, hs1, hBw⟩ := pw_kept hB
        have HGR := Lib.hid (HG.out.below hBw (Nat.le_refl _))
        have HI := Lib.hid hi; clear hi
        have HA := Lib.hid hA; clear hA
        have HBR := Lib.hid hB; clear hB
        clear hBw
        by_cases hlt : i < mn
        · obtain ⟨x, hx, _⟩ := hI.get hlt
          obtain ⟨b, o, rfl⟩ := hI.addr (by omega)
          have cx := hI.cell b o rfl i x hx
          have HIN := Lib.hid hI; clear hI
          have i1 : (i : Int) < (mn : Int) := by omega
          by_cases hx1 : x = -1
          · have f1 : (x != -1) = false := by simp [hx1]
            subst hx1
            by_cases hif : i = f
            · have f2 : ((i : Int) == (f : Int)) = true := by simp [hif]
              have HIF := Lib.hid hif; clear hif
              have HX := Lib.hid hx; clear hx
              go_wp2_with fail
              go_roundg (gk - 1)
              case measure => have := HI.out; omega
              case rel => exact ⟨i + 1, _, _, l, by have := HI.out; omega, by go_num, rfl, HIN.out, HA.out, HBR.out⟩
            · have f2 : ((i : Int) == (f : Int)) = false := by simp; omega
              have hok2 := bOk_of HA.out.fits hx
              have HC2 := Lib.hid (More_res ga _ mn gc mn c i G items l wr HGR.out HIN.out hok2)
              have HIF := Lib.hid hif; clear hif hok2
              cases hmo2 : moreOf G l i with
              | none =>
                rw [hmo2] at HC2
                have HX := Lib.hid hx; clear hx hmo2
                go_wp2_with fail
                refine HC2.out.mono ?_
                rintro e w3 ⟨rfl, hb3⟩
                have HB3 := Lib.hid (pw_below HBR.out hb3)
                have HI3 := Lib.hid (HIN.out.below hb3 (Nat.le_refl _)); clear hb3 HC2
                go_wp2_with fail
                go_roundg (gk - 1)
                case measure => have := HI.out; omega
                case rel => exact ⟨i + 1, _, _, l, by have := HI.out; omega, by go_num, rfl, HI3.out, HA.out, HB3.out⟩
              | some l' =>
                rw [hmo2] at HC2
                have HA2 := Lib.hid (HA.out.step hx HIF.out hmo2)
                have HX := Lib.hid hx; clear hx hmo2
                have e4 : ((mn : Int) != (mn : Int)) = false := by simp
                go_wp2_with fail
                refine HC2.out.mono ?_
                rintro e w3 ⟨a3, rfl, hi3, hb3⟩
                have HB3 := Lib.hid (pw_below HBR.out hb3)
                have HI3 := Lib.hid hi3; clear hb3 hi3 HC2
                go_wp2_with fail
                go_roundg (gk - 1)
                case measure => have := HI.out; omega
                case rel => exact ⟨i + 1, _, _, l', by have := HI.out; omega, by go_num, rfl, HI3.out, HA2.out, HB3.out⟩
          · have f1 : (x != -1) = true := by simp [hx1]
            have HX1 := Lib.hid hx1; clear hx1
            have HX := Lib.hid hx; clear hx
            go_wp2_with fail
            go_roundg (gk - 1)
            case measure => have := HI.out; omega
            case rel => exact ⟨i + 1, _, _, l, by have := HI.out; omega, by go_num, rfl, HIN.out, HA.out, HBR.out⟩
        · have hst := HA.out.start hfm
          have hok2 := bOk_of HA.out.fits hst
          have HC2 := Lib.hid (More_res ga _ mn gc mn c f G items l wr HGR.out hI hok2)
          rw [HA.out.no HF.out hst] at HC2
          clear hst hok2 hI
          go_wp2_with fail
          refine HC2.out.mono ?_
          rintro e w3 ⟨rfl, hb3⟩
          have HB3 := Lib.hid (pw_below HBR.out hb3); clear hb3 HC2
          go_wp2_with fail
          refine (alive7_any w3).mono ?_
          rintro e w4 ⟨rfl, hb⟩
          have HB4 := Lib.hid (pw_below HB3.out hb); clear hb
          go_wp2_with fail
          go_ret
          exact ⟨rfl, (pw_kept HB4.out).2.2.2⟩
end Go.Proofs.Ytbnjeegicbffeaa
