/- Walks: forests: a view of an outcome: does it fit? -/
import Derived.Test.YtbnjeegicbffeaaMg1
namespace Go.Proofs.Ytbnjeegicbffeaa
open Go.RowKit Sale

/-- an outcome -/
structure Outc where
  has : List Int
  prices : List Int

/-- does the outcome fit the market? -/
def fitTo (o : Outc) (k : Nat) : Bool := (o.has.take k).all fun x => decide (-1 ≤ x) && decide (x < (o.prices.length : Int))
def fitsB (m : Mkt) (o : Outc) : Bool := mcheck m && (decide (o.has.length = m.bids.length) && (decide (o.prices.length = m.res.length) && fitTo o o.has.length))
structure FitOk (m : Mkt) (o : Outc) : Prop where
  mok : MOk m
  chk : mcheck m = true
  hlen : o.has.length = m.bids.length
  plen : o.prices.length = m.res.length
  item : ∀ x, x ∈ o.has → -1 ≤ x ∧ x < (m.res.length : Int)
theorem fitTo_succ {o : Outc} {k : Nat} {x : Int} (h : o.has[k]? = some x) : fitTo o (k + 1) = (fitTo o k && (decide (-1 ≤ x) && decide (x < (o.prices.length : Int)))) := by
  unfold fitTo; rw [List.take_add_one, h]; simp [List.all_append]
theorem fitTo_no {o : Outc} {k : Nat} {x : Int} (h : o.has[k]? = some x) (hx : x < -1 ∨ (o.prices.length : Int) ≤ x) : fitTo o o.has.length = false := by
  unfold fitTo
  rw [List.take_length]
  rw [List.all_eq_false]
  exact ⟨x, List.mem_of_getElem? h, by simp; omega⟩
theorem fitsB_ok {m : Mkt} {o : Outc} (h : fitsB m o = true) : FitOk m o := by
  simp only [fitsB, fitTo, Bool.and_eq_true, decide_eq_true_eq, List.take_length, List.all_eq_true] at h
  obtain ⟨h1, h2, h3, h4⟩ := h
  exact ⟨mcheck_ok h1, h1, h2, h3, fun x hx => by have := h4 x hx; omega⟩

/-- the outcome's cells; a view -/
structure OutAt (w : World) (ha pa : Option Addr) (hn hc pn pc : Nat) (o : Outc) : Prop where
  has : Ints w ha hn hc o.has
  prices : Ints w pa pn pc o.prices
theorem OutAt.below {w w' : World} {ha pa : Option Addr} {hn hc pn pc : Nat} {o : Outc} (h : OutAt w ha pa hn hc pn pc o) {B : Nat} (hb : Below B w w') (hB : w.heap.size ≤ B) : OutAt w' ha pa hn hc pn pc o := ⟨h.has.below hb hB, h.prices.below hb hB⟩
def vcells (ra ba oa ha pa : Option Addr) (rn rc bn bc on oc hn hc pn pc : Nat) : Array Value := #[.slice ra rn rc, .slice ba bn bc, .slice oa on oc, .slice ha hn hc, .slice pa pn pc]
/-- the world behind the copy of a view -/
def vw (w : World) (ra ba oa ha pa : Option Addr) (rn rc bn bc on oc hn hc pn pc : Nat) : World := w.alloc (.cells #[.slice ra rn rc, .slice ba bn bc, .slice oa on oc, .slice ha hn hc, .slice pa pn pc] 69)
theorem vw_kept {w w1 : World} {ra ba oa ha pa : Option Addr} {rn rc bn bc on oc hn hc pn pc : Nat} (hb : Below (w.heap.size + 1) (vw w ra ba oa ha pa rn rc bn bc on oc hn hc pn pc) w1) :
    w1.cell? ⟨w.heap.size, 0, none⟩ = some (.slice ra rn rc) ∧ w1.cell? ⟨w.heap.size, 1, none⟩ = some (.slice ba bn bc) ∧ w1.cell? ⟨w.heap.size, 2, none⟩ = some (.slice oa on oc) ∧ w1.cell? ⟨w.heap.size, 3, none⟩ = some (.slice ha hn hc) ∧ w1.cell? ⟨w.heap.size, 4, none⟩ = some (.slice pa pn pc) ∧ w.heap.size < w1.heap.size ∧ Below w.heap.size w w1 := by
  have hs : (vw w ra ba oa ha pa rn rc bn bc on oc hn hc pn pc).heap.size = w.heap.size + 1 := by simp [vw]
  have h0 := hb.size
  refine ⟨?_, ?_, ?_, ?_, ?_, by omega, ((Below.refl w.heap.size w).alloc (Nat.le_refl _) _).trans (hb.mono (by omega))⟩
  all_goals (rw [hb.cell (p := ⟨w.heap.size, _, none⟩) (by simp)]; simp [vw, go_sem])
theorem vw_start (w : World) (ra ba oa ha pa : Option Addr) (rn rc bn bc on oc hn hc pn pc : Nat) : Below (w.heap.size + 1) (vw w ra ba oa ha pa rn rc bn bc on oc hn hc pn pc) (vw w ra ba oa ha pa rn rc bn bc on oc hn hc pn pc) := Below.refl _ _
theorem vw_below {w w1 w2 : World} {ra ba oa ha pa : Option Addr} {rn rc bn bc on oc hn hc pn pc : Nat} (h : Below (w.heap.size + 1) (vw w ra ba oa ha pa rn rc bn bc on oc hn hc pn pc) w1) (h2 : Below w1.heap.size w1 w2) : Below (w.heap.size + 1) (vw w ra ba oa ha pa rn rc bn bc on oc hn hc pn pc) w2 :=
  h.trans (h2.mono (by have := h.size; simp [vw] at this; omega))

set_option maxRecDepth 100000 in
set_option maxHeartbeats 2000000 in
theorem fits_any (ra ba oa ha pa : Option Addr) (rn rc bn bc on oc hn hc pn pc : Nat) (m : Mkt) (o : Outc) (w : World) (hm : MktAt w ra ba oa rn rc bn bc on oc m) (ho : OutAt w ha pa hn hc pn pc o) :
    Calls Try.prog 41 #[.agg #[.slice ra rn rc, .slice ba bn bc, .slice oa on oc, .slice ha hn hc, .slice pa pn pc]] w fun e w' => e = .returned (.bool (fitsB m o)) ∧ Below w.heap.size w w' := by
  have HB0 := Lib.hid (vw_start w ra ba oa ha pa rn rc bn bc on oc hn hc pn pc)
  obtain ⟨c0, c1, c2, c3, c4, hs, hbw⟩ := vw_kept HB0.out
  have hm1 := hm.below hbw (Nat.le_refl _)
  have HK := Lib.hid (mcheck_any ra ba oa rn rc bn bc on oc m (vw w ra ba oa ha pa rn rc bn bc on oc hn hc pn pc) hm1.res hm1.bids hm1.ord)
  have HO := Lib.hid ho
  have hhl := ho.has.len
  have hpl := ho.prices.len
  have hbl := hm.bids.len
  have hrl := hm.res.len
  have hhb := ho.has.big
  have hpb := ho.prices.big
  clear hm hm1 hbw ho c0 c1 c2 c3 c4 hs
  have hfit : fitsB m o = (mcheck m && (decide (hn = bn) && (decide (pn = rn) && fitTo o hn))) := by unfold fitsB; rw [hhl, hpl, hbl, hrl]
  obtain ⟨bf, hbf⟩ : ∃ bf, bf = fitsB m o := ⟨_, rfl⟩
  rw [← hbf]
  rw [hfit] at hbf
  have HBF := Lib.hid hbf; clear hbf
  have HHL := Lib.hid hhl; clear hhl
  have HPL := Lib.hid hpl; clear hpl
  clear hbl hrl hfit
  go_enter Try.func41, Try.ntmps41
  go_wp2_with fail
  refine HK.out.mono ?_
  rintro e w1 ⟨rfl, hb⟩
  have HB1 := Lib.hid (vw_below HB0.out hb); clear hb HK
  obtain ⟨c0, c1, c2, c3, c4, hs, hbw⟩ := vw_kept HB1.out
  have HBW := Lib.hid hbw; clear hbw
  obtain ⟨mb, hmb⟩ : ∃ mb, mb = mcheck m := ⟨_, rfl⟩
  rw [← hmb] at HBF ⊢
  clear hmb
  cases mb with
  | false =>
    go_wp2_with fail
    go_ret
    exact ⟨by rw [HBF.out]; rfl, HBW.out⟩
  | true =>
    by_cases h1 : hn = bn
    · subst h1
      by_cases h2 : pn = rn
      · subst h2
        go_wp2_with fail
        clear c0 c1 c2
        go_loopg [35] hn (fun g' s35 wr => ∃ k : Nat, k + g' = hn ∧ s35 = .int .i64 k ∧ fitTo o k = true ∧ wr = w1)
        case atStart => exact ⟨0, by omega, rfl, rfl, rfl⟩
        case round =>
          obtain ⟨k, hk, rfl, hft, rfl⟩ := hrel
          have HKK := Lib.hid hk; clear hk
          have HFT := Lib.hid hft; clear hft
          by_cases hlt : k < hn
          · have HO1 := Lib.hid (HO.out.below HBW.out (Nat.le_refl _))
            obtain ⟨x, hx, _⟩ := HO1.out.has.get hlt
            obtain ⟨hb', ho', rfl⟩ := HO1.out.has.addr (by omega)
            have cx := HO1.out.has.cell hb' ho' rfl k x hx
            have hsucc := fitTo_succ hx
            have hno := fitTo_no hx
            rw [HPL.out] at hsucc hno
            rw [HHL.out] at hno
            have HX := Lib.hid hx; clear hx
            have HSUCC := Lib.hid hsucc; clear hsucc
            have HNO := Lib.hid hno; clear hno
            by_cases h3 : x < -1
            · have e3 : decide (x < -1) = true := by simpa using h3
              go_wp2_with fail
              go_ret
              exact ⟨by rw [HBF.out, HNO.out (.inl h3)]; simp, HBW.out⟩
            · have e3 : decide (x < -1) = false := by simpa using h3
              by_cases h4 : (pn : Int) ≤ x
              · have e4 : decide ((pn : Int) ≤ x) = true := by simpa using h4
                go_wp2_with fail
                go_ret
                exact ⟨by rw [HBF.out, HNO.out (.inr h4)]; simp, HBW.out⟩
              · have e4 : decide ((pn : Int) ≤ x) = false := by simpa using h4
                go_wp2_with fail
                go_roundg (gk - 1)
                case measure => have := HKK.out; omega
                case rel => exact ⟨k + 1, by have := HKK.out; omega, by go_num, by rw [HSUCC.out, HFT.out]; simp; omega, rfl⟩
          · obtain rfl : k = hn := by have := HKK.out; omega
            go_wp2_with fail
            go_ret
            exact ⟨by rw [HBF.out, HFT.out]; simp, HBW.out⟩
      · have e2 : ((pn : Int) != (rn : Int)) = true := by simp; omega
        rw [decide_eq_false h2] at HBF
        clear h2
        go_wp2_with fail
        go_ret
        exact ⟨by rw [HBF.out]; simp, HBW.out⟩
    · have e2 : ((hn : Int) != (bn : Int)) = true := by simp; omega
      rw [decide_eq_false h1] at HBF
      clear h1
      go_wp2_with fail
      go_ret
      exact ⟨by rw [HBF.out]; simp, HBW.out⟩
end Go.Proofs.Ytbnjeegicbffeaa
