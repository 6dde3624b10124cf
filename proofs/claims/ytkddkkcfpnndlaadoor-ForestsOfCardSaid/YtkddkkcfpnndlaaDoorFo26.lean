/- Walks: forests.Of: one pass behind the label. Walks: forests.Of. Walks: salesroomlaw16.lives. -/
import Derived.Test.YtkddkkcfpnndlaaDoorFo23
import Derived.Test.YtkddkkcfpnndlaaDoorFo25
import Derived.Test.YtkddkkcfpnndlaaDoorFo16
namespace Go.Proofs.YtkddkkcfpnndlaaDoor
open Go.RowKit Sale Tree

/-- the state while items are gone through -/
structure Finds (w : World) (B1 B2 B3 Bo Bm Bf : Nat) (ra ba oa ha pa : Option Addr) (rn rc bn bc on oc hn hc pn pc : Nat) (m : Mkt) (o : Outc) (r k : Nat) (wr : World) : Prop where
  view : VAt w B1 B2 B3 ra ba oa ha pa rn rc bn bc on oc hn hc pn pc m o wr
  out : WRow wr Bo (outL pn (lv (woodOf m o) r))
  ranks : ∃ n cnt, n + leftN pn (lv (woodOf m o) r) = pn + 1 ∧ MapI wr Bm n (rkF (clipS pn (lv (woodOf m o) r))) cnt
  found : MapI wr Bf (fN (woodOf m o) (lv (woodOf m o) r) r k) (fF (woodOf m o) (lv (woodOf m o) r) r k) (fN (woodOf m o) (lv (woodOf m o) r) r k)
theorem Finds.step {w : World} {B1 B2 B3 Bo Bm Bf : Nat} {ra ba oa ha pa : Option Addr} {rn rc bn bc on oc hn hc pn pc : Nat} {m : Mkt} {o : Outc} {r k : Nat} {wr wr' : World} (h : Finds w B1 B2 B3 Bo Bm Bf ra ba oa ha pa rn rc bn bc on oc hn hc pn pc m o r k wr) (hb : Below wr.heap.size wr wr') :
    Finds w B1 B2 B3 Bo Bm Bf ra ba oa ha pa rn rc bn bc on oc hn hc pn pc m o r k wr' :=
  ⟨h.view.step hb, h.out.step hb, by obtain ⟨n, cnt, e, hM⟩ := h.ranks; exact ⟨n, cnt, e, hM.below hb⟩, h.found.below hb⟩

/-- the state while what is found is laid down -/
structure Lays (w : World) (B1 B2 B3 Bo Bm Bf rb : Nat) (ra ba oa ha pa : Option Addr) (rn rc bn bc on oc hn hc pn pc : Nat) (m : Mkt) (o : Outc) (r : Nat) (left : Int → Bool) (cnt : Nat) (wr : World) : Prop where
  view : VAt w B1 B2 B3 ra ba oa ha pa rn rc bn bc on oc hn hc pn pc m o wr
  out : WRow wr Bo (outL pn (sG (woodOf m o) pn (lv (woodOf m o) r) r left))
  ranks : ∃ n cnt, n + leftN pn (sG (woodOf m o) pn (lv (woodOf m o) r) r left) = pn + 1 ∧ MapI wr Bm n (rkF (sG (woodOf m o) pn (lv (woodOf m o) r) r left)) cnt
  found : MapI wr Bf (fN (woodOf m o) (lv (woodOf m o) r) r pn) (fF (woodOf m o) (lv (woodOf m o) r) r pn) (fN (woodOf m o) (lv (woodOf m o) r) r pn)
  rng : RangeI wr Bf rb (fN (woodOf m o) (lv (woodOf m o) r) r pn) (fF (woodOf m o) (lv (woodOf m o) r) r pn) left cnt
  sub : ∀ x, left x = true → (fF (woodOf m o) (lv (woodOf m o) r) r pn x).isSome = true
theorem WRow.setBoth {w : World} {B : Nat} {l : List (Int × Int)} (h : WRow w B l) {k : Nat} {p : Int × Int} (hp : l[k]? = some p) (x y : Int) : WRow ((w.setCell ⟨B, k * 2, none⟩ (.int .i64 x)).setCell ⟨B, k * 2 + 1, none⟩ (.int .i64 y)) B (l.set k (x, y)) := by
  have h1 := WRow.set1 h hp x
  have hk := (List.getElem?_eq_some_iff.1 hp).1
  have h2 := WRow.set2 h1 (k := k) (p := (x, p.2)) (by rw [List.getElem?_set, if_pos rfl, if_pos hk]) y
  rwa [List.set_set] at h2
theorem Whys.of_row {w : World} {B : Nat} {l : List (Int × Int)} (h : WRow w B l) (hbig : l.length ≤ 1000000) (hbd : ∀ p, p ∈ l → (-9223372036854775808 ≤ p.1 ∧ p.1 ≤ 9223372036854775807) ∧ -9223372036854775808 ≤ p.2 ∧ p.2 ≤ 9223372036854775807) : Whys w (some ⟨B, 0, none⟩) l.length l.length l :=
  ⟨rfl, Nat.le_refl _, by omega, fun _ => ⟨_, _, rfl⟩, fun b o e k p hp => by
    cases e
    have := h.cell hp
    simpa using this, hbd⟩

set_option maxRecDepth 100000 in
set_option maxHeartbeats 4000000 in
theorem fof_pass (ra ba oa ha pa : Option Addr) (rn rc bn bc on oc hn hc pn pc : Nat) (m : Mkt) (o : Outc) (w : World) (hm : MktAt w ra ba oa rn rc bn bc on oc m) (ho : OutAt w ha pa hn hc pn pc o) (hfit : FitOk m o) (B1 B2 B3 : Nat) (a' : Act) (w' : World)
    (hJ : ∃ r Bo Bm, AtNext w B1 B2 B3 Bo Bm ra ba oa ha pa rn rc bn bc on oc hn hc pn pc m o r a' w') :
    fofPass.wp Tryd.prog (Exit.jump 0 (fun a'' w'' => (∃ r Bo Bm, AtNext w B1 B2 B3 Bo Bm ra ba oa ha pa rn rc bn bc on oc hn hc pn pc m o r a'' w'') ∧ fofMu a'' w'' < fofMu a' w') (bodyPost Tryd.prog Tryd.f8 (FofSays m o w))) a' w' := by
  obtain ⟨r, Bo, Bm, hrl, lf, hH, T, rfl, hT, t2, t3, t4, t5, t6, t7, t8, t9, t11⟩ := hJ
  obtain ⟨u, rfl⟩ := fr128_of T hT
  replace t2 : u 2 = _ := t2
  replace t3 : u 3 = _ := t3
  replace t4 : u 4 = _ := t4
  replace t5 : u 5 = _ := t5
  replace t6 : u 6 = _ := t6
  replace t7 : u 7 = _ := t7
  replace t8 : u 8 = _ := t8
  replace t9 : u 9 = _ := t9
  replace t11 : u 11 = _ := t11
  unfold fr128
  rw [t2, t3, t4, t5, t6, t7, t8, t9, t11]
  clear t2 t3 t4 t5 t6 t7 t8 t9 t11 hT
  have hhn : hn = bn := by rw [← ho.has.len, ← hm.bids.len]; exact hfit.hlen
  have hrn : pn = rn := by rw [← ho.prices.len, ← hm.res.len]; exact hfit.plen
  have hhl := ho.has.len
  have hpl := ho.prices.len
  subst hhn
  subst hrn
  have hn8 := hfit.mok.n8
  rw [hm.res.len] at hn8
  have hh8 := hfit.mok.m8
  rw [hm.bids.len] at hh8
  obtain ⟨hV, hW, ⟨n, cnt, hnl, hMp⟩, rfl, hnew⟩ := hH
  have hmm := fun w => run_makeMap (P := Tryd.prog) 60 w
  have HM := Lib.hid hm; clear hm
  have HO := Lib.hid ho; clear ho
  have HFIT := Lib.hid hfit; clear hfit
  have HHL := Lib.hid hhl; clear hhl
  have HPL := Lib.hid hpl; clear hpl
  have HN := Lib.hid hnew; clear hnew
  have hr8 : r ≤ 8 := by omega
  have HRL := Lib.hid hrl; clear hrl
  have hb0 : Below w'.heap.size w' (w'.alloc (.map #[] 0)) := (Below.refl _ _).alloc (Nat.le_refl _) _
  have HS := Lib.hid (show Finds w B1 B2 B3 Bo Bm w'.heap.size ra ba oa ha pa pn rc hn bc on oc hn hc pn pc m o r 0 (w'.alloc (.map #[] 0)) from
    ⟨hV.step hb0, hW.step hb0, ⟨n, cnt, hnl, hMp.below hb0⟩, by rw [fF_zero, fN_zero]; exact MapI.new w'⟩)
  have HBf := Lib.hid (show w.heap.size ≤ w'.heap.size ∧ Bo < w'.heap.size ∧ Bm < w'.heap.size ∧ B1 < w'.heap.size ∧ B2 < w'.heap.size ∧ B3 < w'.heap.size from
    ⟨hV.below.size, VRow.lt hW, hMp.lt, hV.v1.lt, hV.v2.lt, hV.v3.lt⟩)
  clear hV hW hMp hb0 hnl
  have HMU := Lib.hid (show ∀ a' w', fofMu a' w' = fofMu a' w' from fun _ _ => rfl); clear HMU
  obtain ⟨W, hWd⟩ : ∃ W, W = woodOf m o := ⟨_, rfl⟩
  generalize hmu : fofMu _ w' = mu
  have HMU := Lib.hid hmu; clear hmu
  conv => arg 2; whnf
  go_wp2_with fail
  clear hmm
  go_loopg [56] pn (fun g' s56 wr => ∃ k : Nat, k + g' = pn ∧ s56 = .int .i64 k ∧ Finds w B1 B2 B3 Bo Bm w'.heap.size ra ba oa ha pa pn rc hn bc on oc hn hc pn pc m o r k wr)
  case atStart => exact ⟨0, by omega, rfl, HS.out⟩
  case round =>
    obtain ⟨k, hk, rfl, hF⟩ := hrel
    have HKK := Lib.hid hk; clear hk
    by_cases hlt : k < pn
    · have hfk : rkF (clipS pn (lv (woodOf m o) r)) (k : Int) = (lv (woodOf m o) r k).map fun p => (p.2 : Int) := by rw [rkF_item]; simp [clipS, hlt]
      have HFK := Lib.hid hfk; clear hfk
      have HF := Lib.hid hF; clear hF
      obtain ⟨n1, cnt1, hn1, hM1⟩ := HF.out.ranks
      have HM1 := Lib.hid hM1; clear hM1
      have HN1 := Lib.hid hn1; clear hn1
      cases hs : lv (woodOf m o) r k with
      | some p =>
        have HS1 := Lib.hid hs; clear hs
        have HQ := Lib.hid (show rkF (clipS pn (lv (woodOf m o) r)) (k : Int) = some (p.2 : Int) by rw [HFK.out, HS1.out]; rfl)
        go_wp2_with (at_lookup; refine lookupI _ rfl _ _ rfl _ _ _ _ (k : Int) rfl HM1.out rfl ⟨by omega, by omega⟩ ?_; rw [HQ.out]; simp only [Option.getD_some, Option.isSome_some])
        go_roundg (gk - 1)
        case measure => have := HKK.out; omega
        case rel =>
          have e := f_had (W := woodOf m o) (r := r) HS1.out
          exact ⟨k + 1, by have := HKK.out; omega, by go_num, ⟨HF.out.view, HF.out.out, HF.out.ranks, by rw [e.1, e.2]; exact HF.out.found⟩⟩
      | none =>
        have HS1 := Lib.hid hs; clear hs
        have HQ := Lib.hid (show rkF (clipS pn (lv (woodOf m o) r)) (k : Int) = none by rw [HFK.out, HS1.out]; rfl)
        have c0 := HF.out.view.v2.cell (k := 0) rfl
        go_wp2_with (at_lookup; refine lookupI _ rfl _ _ rfl _ _ _ _ (k : Int) rfl HM1.out rfl ⟨by omega, by omega⟩ ?_; rw [HQ.out]; simp only [Option.getD_none, Option.isSome_none])
        obtain ⟨wo, hwo⟩ : ∃ wo : World, wo = wr := ⟨_, rfl⟩
        obtain ⟨go, rfl⟩ : ∃ go : Nat, go = gk := ⟨_, rfl⟩
        go_loopg [69] hn (fun g' s69 wx => ∃ i : Nat, i + g' = hn ∧ s69 = .int .i64 i ∧ Finds w B1 B2 B3 Bo Bm w'.heap.size ra ba oa ha pa pn rc hn bc on oc hn hc pn pc m o r k wx ∧ seekTo (woodOf m o) (lv (woodOf m o) r) r k i = none)
        case atStart => exact ⟨0, by omega, rfl, HF.out, rfl⟩
        case round =>
          obtain ⟨i, hi, rfl, hF2, hsk⟩ := hrel
          have HII := Lib.hid hi; clear hi
          have HSK := Lib.hid hsk; clear hsk
          by_cases hli : i < hn
          · obtain ⟨x, hx, _⟩ := hF2.view.out.has.get hli
            obtain ⟨hb, ho', rfl⟩ := hF2.view.out.has.addr (by omega)
            have cx := hF2.view.out.has.cell hb ho' rfl i x hx
            have hxi := HFIT.out.item x (List.mem_of_getElem? hx)
            rw [HFIT.out.plen.symm, HPL.out] at hxi
            have hrk := rkF_now (clipS pn (lv (woodOf m o) r)) o i x hx hxi.1
            have hrc : rkOf (clipS pn (lv (woodOf m o) r)) (nowOf o i) = rkOf (lv (woodOf m o) r) ((woodOf m o).now i) := by
              show rkOf _ (nowOf o i) = rkOf _ (nowOf o i)
              cases hno : nowOf o i with
              | none => rfl
              | some j =>
                have hjn := HFIT.out.now i j hno
                have hjn : j < pn := by rw [← HPL.out]; exact hjn
                simp [rkOf, clipS, hjn]
            rw [hrc] at hrk
            obtain ⟨n2, cnt2, hn2, hM2⟩ := hF2.ranks
            have HM2 := Lib.hid hM2; clear hM2 hn2 hrc
            have HF2 := Lib.hid hF2; clear hF2 hx
            cases hk2 : rkOf (lv (woodOf m o) r) ((woodOf m o).now i) with
            | none =>
              have HQ2 := Lib.hid (show rkF (clipS pn (lv (woodOf m o) r)) x = none by rw [hrk, hk2]; rfl)
              have HK2 := Lib.hid hk2; clear hk2 hrk
              go_wp2_with (at_lookup; refine lookupI _ rfl _ _ rfl _ _ _ _ x rfl HM2.out rfl ⟨by omega, by omega⟩ ?_; rw [HQ2.out]; simp only [Option.getD_none, Option.isSome_none])
              go_roundg (gk - 1)
              case measure => have := HII.out; omega
              case rel => exact ⟨i + 1, by have := HII.out; omega, by go_num, HF2.out, seek_on HSK.out (by rw [HK2.out]; rfl)⟩
            | some a =>
              have HQ2 := Lib.hid (show rkF (clipS pn (lv (woodOf m o) r)) x = some (a : Int) by rw [hrk, hk2]; rfl)
              have HK2 := Lib.hid hk2; clear hk2 hrk
              by_cases har : a = r
              · subst har
                have q0 := HF2.out.view.v3.cell (k := 0) rfl
                have q1 := HF2.out.view.v3.cell (k := 1) rfl
                have q2 := HF2.out.view.v3.cell (k := 2) rfl
                have q3 := HF2.out.view.v3.cell (k := 3) rfl
                have q4 := HF2.out.view.v3.cell (k := 4) rfl
                go_wp2_with (at_lookup; refine lookupI _ rfl _ _ rfl _ _ _ _ x rfl HM2.out rfl ⟨by omega, by omega⟩ ?_; rw [HQ2.out]; simp only [Option.getD_some, Option.isSome_some])
                refine (well_any ra ba oa (some ⟨hb, ho', none⟩) pa pn rc hn bc on oc hn hc pn pc m o _ HF2.out.view.mkt HF2.out.view.out HFIT.out i hli k hlt).mono ?_
                rintro e w4 ⟨rfl, hb4⟩
                have HF4 := Lib.hid (HF2.out.step hb4); clear hb4 q0 q1 q2 q3 q4 cx
                cases hwl : wellB m o i k with
                | true =>
                  have HWL := Lib.hid hwl; clear hwl
                  have hfs := f_some (W := woodOf m o) (r := a) HS1.out (seek_at HSK.out (by show i < o.has.length; rw [HHL.out]; exact hli) (by rw [HK2.out]; show (_ == _ && wellB m o i k) = true; rw [HWL.out]; simp))
                  have HFS := Lib.hid hfs; clear hfs
                  have hfn := fN_le (woodOf m o) (lv (woodOf m o) a) a k
                  have HFN := Lib.hid (show fN (woodOf m o) (lv (woodOf m o) a) a k < 1000000 by omega); clear hfn
                  go_wp2_with (at_mapUpdate; refine updateI _ rfl _ _ _ rfl _ _ _ _ (k : Int) (i : Int) rfl HF4.out.found HFN.out rfl rfl ⟨by omega, by omega⟩ ⟨by omega, by omega⟩ (fF_new _ _ _ _) ?_)
                  intro w5 hM5 hg5
                  have hBf := HBf.out
                  have HF5 := Lib.hid (show Finds w B1 B2 B3 Bo Bm w'.heap.size ra ba oa (some ⟨hb, ho', none⟩) pa pn rc hn bc on oc hn hc pn pc m o a (k + 1) w5 from
                    ⟨HF4.out.view.grown HM.out HO.out hg5 hBf.1 (by omega) (by omega) (by omega), VRow.grownBy HF4.out.out hg5 (by simp; omega), by
                      obtain ⟨n5, cnt5, h5, hM5⟩ := HF4.out.ranks
                      exact ⟨n5, cnt5, h5, hM5.kept hg5 (by simp; omega)⟩, by rw [HFS.out.1, HFS.out.2]; exact hM5⟩)
                  clear hM5 hg5 hBf
                  go_wp2_with fail
                  go_roundg (go - 1)
                  case measure => have := HKK.out; omega
                  case rel => exact ⟨k + 1, by have := HKK.out; omega, by go_num, HF5.out⟩
                | false =>
                  have HWL := Lib.hid hwl; clear hwl
                  go_wp2_with fail
                  go_roundg (gk - 1)
                  case measure => have := HII.out; omega
                  case rel => exact ⟨i + 1, by have := HII.out; omega, by go_num, HF4.out, seek_on HSK.out (by show (_ && wellB m o i k) = false; rw [HWL.out]; simp)⟩
              · have e1 : ((a : Int) == (r : Int)) = false := by simp; omega
                go_wp2_with (at_lookup; refine lookupI _ rfl _ _ rfl _ _ _ _ x rfl HM2.out rfl ⟨by omega, by omega⟩ ?_; rw [HQ2.out]; simp only [Option.getD_some, Option.isSome_some])
                go_roundg (gk - 1)
                case measure => have := HII.out; omega
                case rel => exact ⟨i + 1, by have := HII.out; omega, by go_num, HF2.out, seek_on HSK.out (by rw [HK2.out]; simp; intro e; omega)⟩
          · obtain rfl : i = hn := by have := HII.out; omega
            have e := f_none (W := woodOf m o) (r := r) HS1.out (by rw [← seek_all]; show seekTo _ _ r k o.has.length = none; rw [HHL.out]; exact HSK.out)
            have HE := Lib.hid e; clear e
            go_wp2_with fail
            go_roundg (go - 1)
            case measure => have := HKK.out; omega
            case rel => exact ⟨k + 1, by have := HKK.out; omega, by go_num, ⟨hF2.view, hF2.out, hF2.ranks, by rw [HE.out.1, HE.out.2]; exact hF2.found⟩⟩
    · obtain rfl : k = pn := by have := HKK.out; omega
      have HF := Lib.hid hF; clear hF
      go_wp2_with (refine rangeI _ rfl _ rfl _ _ _ _ rfl HF.out.found ?_)
      intro w6 hR6 hg6 hz6
      have hb6 : Below wr.heap.size wr w6 := (Below.refl _ wr).grown hg6 (Nat.le_refl _) (fun k hk => by cases hk)
      have hsw := HF.out.found.lt
      have HL := Lib.hid (show Lays w B1 B2 B3 Bo Bm w'.heap.size wr.heap.size ra ba oa ha pa k rc hn bc on oc hn hc k pc m o r (fun x => (fF (woodOf m o) (lv (woodOf m o) r) r k x).isSome) (fN (woodOf m o) (lv (woodOf m o) r) r k) w6 from
        ⟨HF.out.view.step hb6, by rw [sG_start, outL_clip]; exact HF.out.out.step hb6, by
          obtain ⟨n5, cnt5, h5, hM5⟩ := HF.out.ranks
          exact ⟨n5, cnt5, by rw [sG_start, left_clip]; exact h5, by rw [sG_start]; exact hM5.below hb6⟩, HF.out.found.below hb6, hR6, fun x h => h⟩)
      have HSW := Lib.hid hsw; clear hsw hR6 hg6 hz6 hb6 HF HS
      obtain ⟨rb, hrb⟩ : ∃ rb, rb = wr.heap.size := ⟨_, rfl⟩
      rw [← hrb] at HL HSW ⊢
      clear hrb
      go_wp2_with fail
      go_loopg [8] (fN (woodOf m o) (lv (woodOf m o) r) r k) (fun g' s8 wx => ∃ left, Lays w B1 B2 B3 Bo Bm w'.heap.size rb ra ba oa ha pa k rc hn bc on oc hn hc k pc m o r left g' wx ∧ s8 = .int .i64 (leftN k (sG (woodOf m o) k (lv (woodOf m o) r) r left) : Nat))
      case atStart => exact ⟨_, HL.out, by rw [sG_start, left_clip]⟩
      case round =>
        obtain ⟨left, hL, rfl⟩ := hrel
        have HL2 := Lib.hid hL; clear hL HL
        go_wp2_with (refine nextI _ rfl _ rfl _ _ _ _ _ _ rfl HL2.out.rng ?done ?more)
        case done =>
          intro h0 hall
          have hse : sG (woodOf m o) k (lv (woodOf m o) r) r left = clipS k (lv (woodOf m o) (r + 1)) := sG_end fun j hj => hall (j : Int) ⟨by omega, by omega⟩
          have hlg := left_grow (woodOf m o) (lv (woodOf m o) r) r k
          rw [show grow (woodOf m o) (lv (woodOf m o) r) r = lv (woodOf m o) (r + 1) from rfl] at hlg
          have hV := HL2.out.view
          have hOut := HL2.out.out
          obtain ⟨n8, cnt8, hn9, hM8⟩ := HL2.out.ranks
          rw [hse, left_clip] at hn9 ⊢
          rw [hse] at hM8
          rw [hse, outL_clip] at hOut
          have HFD := Lib.hid HL2.out.found
          have HV := Lib.hid hV; clear hV
          have HOut := Lib.hid hOut; clear hOut
          have HM8 := Lib.hid hM8; clear hM8
          have HN9 := Lib.hid hn9; clear hn9
          clear HL2 hse hall
          obtain ⟨lf2, hlf2⟩ : ∃ lf2, lf2 = leftN k (lv (woodOf m o) (r + 1)) := ⟨_, rfl⟩
          obtain ⟨fn2, hfn2⟩ : ∃ fn2, fn2 = fN (woodOf m o) (lv (woodOf m o) r) r k := ⟨_, rfl⟩
          rw [← hlf2] at HN9 hlg ⊢
          rw [← hfn2] at HFD hlg
          have HLF := Lib.hid hlf2; clear hlf2
          have HFN := Lib.hid hfn2; clear hfn2
          have HLG := Lib.hid hlg
          have hr2 : r + lf2 + fn2 ≤ k := by have := HRL.out; omega
          clear hlg
          by_cases hp : 0 < lf2
          · by_cases hq : 0 < fn2
            · have hln := HFD.out.lenRun 3
              go_wp2_with fail
              have hmu2 : mu = leftN k (lv (woodOf m o) r) := by rw [← HMU.out]; simp [fofMu, intOf]
              refine wp_goto ?_
              exact ⟨rfl, ⟨r + 1, Bo, Bm, by rw [← HLF.out]; omega, _, ⟨HV.out, HOut.out, ⟨n8, cnt8, by rw [← HLF.out]; exact HN9.out, HM8.out⟩, by rw [← HLF.out], HN.out⟩, _, rfl, rfl, rfl, rfl, rfl, rfl, rfl, rfl, rfl, rfl, rfl⟩, by rw [hmu2]; have := HLG.out; simp [fofMu, intOf]; omega⟩
            · obtain rfl : fn2 = 0 := by omega
              have hln := HFD.out.lenRun 3
              go_wp2_with fail
              go_ret2
              obtain ⟨j, hj, hjn⟩ := some_left (N := k) (s := lv (woodOf m o) (r + 1)) (by rw [← HLF.out]; exact hp)
              have hst := none_new HFN.out.symm
              exact ⟨HV.out.below, .inr ⟨none_of (n := r) HFIT.out.now (fun j' hj' => hst j' (by rw [← HPL.out]; exact hj')) (j := j) (by show j < o.prices.length; rw [HPL.out]; exact hj) (by rw [← hst j hj]; exact hjn), rfl⟩⟩
          · obtain rfl : lf2 = 0 := by omega
            go_wp2_with fail
            go_ret2
            have hal := all_of (W := woodOf m o) (n := r + 1) HFIT.out.now (fun j hj => leftN_zero.1 HLF.out.symm j (by rw [← HPL.out]; exact hj))
            have hoe : outL o.prices.length (lv (woodOf m o) o.prices.length) = outL k (lv (woodOf m o) (r + 1)) := by
              rw [HPL.out]
              unfold outL
              refine List.map_congr_left fun j hj => ?_
              have := hal.2 j (by show j < o.prices.length; rw [HPL.out]; exact List.mem_range.1 hj)
              rw [show (woodOf m o).N = k from HPL.out] at this
              rw [this]
            have hwy := Whys.of_row HOut.out (by rw [outL_length]; omega) (outL_bd (lv_bd (by show o.has.length ≤ 8; rw [HHL.out]; exact hh8) (by omega)))
            exact ⟨HV.out.below, .inl ⟨hal.1, _, _, _, rfl, by rw [hoe]; rw [outL_length] at hwy; exact hwy⟩⟩
        case more =>
          intro x c w7 cnt7 hx7 hc7 hlx hfc hR7 hlt7 hg7 hz7 hen
          obtain ⟨j, i, rfl, hj, hs, hk, hfi⟩ := fF_is (HL2.out.sub x hlx)
          obtain rfl : (i : Int) = c := hfc _ hfi
          have hiM := seek_lt hk
          have hiM : i < hn := by rw [← HHL.out]; exact hiM
          have hBf := HBf.out
          have hNW := HN.out
          have hrb := HSW.out
          have hput := sG_put (N := k) (left := left) hj hs hk
          have hsn := sG_none (W := woodOf m o) (N := k) (r := r) hlx hs
          have hlp := leftN_put (p := ((i : Int), r + 1)) hsn hj
          rw [← hput] at hlp
          have hV7 := HL2.out.view.grown HM.out HO.out hg7 (by omega) (by omega) (by omega) (by omega)
          have hW7 : WRow w7 Bo _ := VRow.grownBy HL2.out.out hg7 (by simp; omega)
          obtain ⟨n7, cnt8, hn7, hM7⟩ := HL2.out.ranks
          have hM7 := hM7.kept hg7 (by simp; omega)
          have hF7 := HL2.out.found.kept hg7 (by simp; omega)
          have hg1 := outL_get (n := k) (s := sG (woodOf m o) k (lv (woodOf m o) r) r left) hj
          rw [hsn] at hg1
          obtain ⟨c1, c2⟩ := hW7.cell hg1
          have f1 := VRow.frozen hW7 (j * 2)
          have f2 := VRow.frozen hW7 (j * 2 + 1)
          have hW8 := hW7.setBoth hg1 (i : Int) (((r + 1 : Nat) : Int))
          rw [outL_put ((i : Int), r + 1), ← hput] at hW8
          rw [show (((r + 1 : Nat) : Int)) = (r : Int) + 1 by push_cast; rfl] at hW8
          have hV8 := (hV7.far HM.out HO.out (a := ⟨Bo, j * 2, none⟩) hNW.1 (by simp; omega) (by simp; omega) (by simp; omega) (.int .i64 (i : Int))).far HM.out HO.out (a := ⟨Bo, j * 2 + 1, none⟩) hNW.1 (by simp; omega) (by simp; omega) (by simp; omega) (.int .i64 ((r : Int) + 1))
          have hM8 := (hM7.setCell (a := ⟨Bo, j * 2, none⟩) (by simp; omega) (.int .i64 (i : Int))).setCell (a := ⟨Bo, j * 2 + 1, none⟩) (by simp; omega) (.int .i64 ((r : Int) + 1))
          have hF8 := (hF7.setCell (a := ⟨Bo, j * 2, none⟩) (by simp; omega) (.int .i64 (i : Int))).setCell (a := ⟨Bo, j * 2 + 1, none⟩) (by simp; omega) (.int .i64 ((r : Int) + 1))
          have hg8 : ∀ (W : World) (x : Nat) (v : Value), W.grownBy (W.setCell ⟨Bo, x, none⟩ v) (some Bo) := fun W x v => grown_set W ⟨Bo, x, none⟩ v
          have hR8 := (hR7.kept (hg8 w7 (j * 2) (.int .i64 (i : Int))) (by simp; omega) (by simp; omega)).kept (hg8 _ (j * 2 + 1) (.int .i64 ((r : Int) + 1))) (by simp; omega) (by simp; omega)
          have hlo : leftN k (sG (woodOf m o) k (lv (woodOf m o) r) r left) ≤ k := leftN_le _ _
          obtain ⟨lo, hlo'⟩ : ∃ lo, lo = leftN k (sG (woodOf m o) k (lv (woodOf m o) r) r left) := ⟨_, rfl⟩
          rw [← hlo'] at hlo hlp hn7 ⊢
          have hnk : rkF (sG (woodOf m o) k (lv (woodOf m o) r) r left) (j : Int) = none := by rw [rkF_item, hsn]; rfl
          have hpf : putI (rkF (sG (woodOf m o) k (lv (woodOf m o) r) r left)) (j : Int) ((r : Int) + 1) = rkF (sG (woodOf m o) k (lv (woodOf m o) r) r (fun z => left z && !decide (z = (j : Int)))) := by
            rw [hput, ← rkF_put]; push_cast; rfl
          have hn99 : n7 < 1000000 := by omega
          have HPF := Lib.hid hpf; clear hpf
          have HNK := Lib.hid hnk; clear hnk
          have HV8 := Lib.hid hV8; clear hV8 hV7
          have HW8 := Lib.hid hW8; clear hW8 hW7
          have HM8 := Lib.hid hM8; clear hM8 hM7
          have HF8 := Lib.hid hF8; clear hF8 hF7
          have HR8 := Lib.hid hR8; clear hR8 hR7
          have HLO := Lib.hid hlo'; clear hlo'
          have HLP := Lib.hid hlp
          have HSUB := Lib.hid HL2.out.sub
          have hlo1 : 1 ≤ lo := by omega
          have HN7 := Lib.hid hn7
          have HBf' := Lib.hid hBf; clear hBf
          have HNW := Lib.hid hNW; clear hNW
          have HRB := Lib.hid hrb; clear hrb
          have HHH := Lib.hid hlt7
          clear hput hsn hlp hg1 HL2 hg7 hz7 hfc hs hk hfi hlx hn7 hlt7
          go_wp2_with (at_mapUpdate; refine updateI _ rfl _ _ _ rfl _ _ _ _ (j : Int) ((r : Int) + 1) rfl HM8.out hn99 rfl rfl ⟨by omega, by omega⟩ ⟨by omega, by omega⟩ HNK.out ?_)
          intro w9 hM9 hg9
          rw [HPF.out] at hM9
          have hNW := HNW.out
          have hBf := HBf'.out
          have hrb := HRB.out
          have hV9 := HV8.out.grown HM.out HO.out hg9 (by omega) (by omega) (by omega) (by omega)
          have hW9 : WRow w9 Bo _ := VRow.grownBy HW8.out hg9 (by simp; omega)
          have hF9 := HF8.out.kept hg9 (by simp; omega)
          have hR9 := HR8.out.kept hg9 (by simp; omega) (by simp; omega)
          have HLays := Lib.hid (show Lays w B1 B2 B3 Bo Bm w'.heap.size rb ra ba oa ha pa k rc hn bc on oc hn hc k pc m o r (fun z => left z && !decide (z = (j : Int))) cnt7 w9 from
            ⟨hV9, hW9, ⟨n7 + 1, cnt8 + 1, by have h1 := HN7.out; have h2 := HLP.out; omega, hM9⟩, hF9, hR9, fun x hx => HSUB.out x (by simp only [Bool.and_eq_true] at hx; exact hx.1)⟩)
          clear hV9 hW9 hF9 hR9 hM9 hg9 hNW hBf hrb HPF HNK HV8 HW8 HM8 HF8 HR8
          go_wp2_with fail
          go_roundg cnt7
          case measure => exact HHH.out
          case rel => exact ⟨_, HLays.out, by have := HLP.out; rw [show ((lo : Int) - 1) = ((leftN k (sG (woodOf m o) k (lv (woodOf m o) r) r fun z => left z && !decide (z = (j : Int))) : Nat) : Int) by omega]⟩
end Go.Proofs.YtkddkkcfpnndlaaDoor

namespace Go.Proofs.YtkddkkcfpnndlaaDoor
open Go.RowKit Sale Tree

theorem ojump_ret {l : Nat} {J : Act → World → Prop} {Q : Exit → Act → World → Prop} {a : Act} {w : World} : Exit.jump l J Q .ret a w = Q .ret a w := rfl
set_option maxRecDepth 100000 in
set_option maxHeartbeats 4000000 in
theorem fof_any (ra ba oa ha pa : Option Addr) (rn rc bn bc on oc hn hc pn pc : Nat) (m : Mkt) (o : Outc) (w : World) (hm : MktAt w ra ba oa rn rc bn bc on oc m) (ho : OutAt w ha pa hn hc pn pc o) (hfb : ofitsB m o = true) :
    Calls Tryd.prog 8 #[.agg #[.slice ra rn rc, .slice ba bn bc, .slice oa on oc], .agg #[.slice ha hn hc, .slice pa pn pc]] w (FofSays m o w) := by
  have HV0 := Lib.hid (VAt.new w hm ho)
  have hhl := ho.has.len
  have hpl := ho.prices.len
  have hfit := ofitsB_ok hfb
  have HFB := Lib.hid hfb; clear hfb
  have HM := Lib.hid hm; clear hm
  have HO := Lib.hid ho; clear ho
  go_enter Tryd.func8, Tryd.ntmps8
  go_wp2_with fail
  refine wp_scope_once 0 (fun a' w' => ∃ r Bo Bm, AtNext w w.heap.size (w.heap.size + 1) (w.heap.size + 1 + 1) Bo Bm ra ba oa ha pa rn rc bn bc on oc hn hc pn pc m o r a' w') fofMu rfl ?first ?pass
  case pass => exact fun a' w' hJ => fof_pass ra ba oa ha pa rn rc bn bc on oc hn hc pn pc m o w HM.out HO.out hfit _ _ _ a' w' hJ
  case first =>
    intro hnext
    have HNEXT := Lib.hid hnext; clear hnext
    go_wp2_with fail
    refine (ofits_any ra ba oa ha pa rn rc bn bc on oc hn hc pn pc m o _ HV0.out.mkt HV0.out.out).mono ?_
    rw [HFB.out]
    rintro e w1 ⟨rfl, hb⟩
    have HV1 := Lib.hid (HV0.out.step hb); clear hb HV0
    have c1 := HV1.out.v2.cell (k := 1) rfl
    have hn8 := hfit.mok.n8
    rw [HV1.out.mkt.res.len] at hn8
    have hrn : pn = rn := by rw [← HV1.out.mkt.res.len, ← hfit.plen, hpl]
    subst hrn
    have HFIT := Lib.hid hfit; clear hfit
    have hmk := mkWhys pn (by omega)
    have hmm := fun w => run_makeMap (P := Tryd.prog) 60 w
    obtain ⟨w2, hw2⟩ : ∃ w2, w2 = w1.alloc (.cells (pairVals (List.replicate pn (0, 0))).toArray 38) := ⟨_, rfl⟩
    have hM0 := MapI.new w2
    have hsz2 : w2.heap.size = w1.heap.size + 1 := by rw [hw2]; simp
    rw [hsz2, hw2] at hM0
    have HM0 := Lib.hid hM0; clear hM0 hw2 hsz2 w2
    go_wp2_with (refine insertI _ rfl _ _ _ rfl _ _ _ _ (-1) 0 rfl HM0.out (by omega) rfl rfl ⟨by omega, by omega⟩ ⟨by omega, by omega⟩ rfl ?_)
    intro w3 hM3 hg3
    have hb3 : Below w1.heap.size w1 w3 := (((Below.refl _ w1).alloc (Nat.le_refl _) (.cells (pairVals (List.replicate pn (0, 0))).toArray 38)).alloc (by simp) (.map #[] 0)).grown hg3 (by simp; omega) (fun k hk => by cases hk; omega)
    have hW3 : WRow w3 w1.heap.size (l0 pn 0) := by
      rw [l0_zero]
      exact WRow.grown (WRow.step (VRow.new w1 38 (pairVals (List.replicate pn (0, 0)))) ((Below.refl _ _).alloc (Nat.le_refl _) _)) hg3 (by simp)
    have HV3 := Lib.hid (HV1.out.step hb3)
    have hs1 := HV1.out.v3.lt
    have hs0' := HV1.out.v1.lt
    have HB3 := Lib.hid hb3; clear hb3
    have HW3 := Lib.hid hW3; clear hW3
    have hM3' : MapI w3 (w1.heap.size + 1) 1 (rkF (s0 (woodOf m o) 0)) 1 := by
      have e : rkF (s0 (woodOf m o) 0) = putI (fun _ => none) (-1) 0 := by
        funext y
        rw [s0_zero]
        unfold rkF putI
        by_cases h : y = -1
        · rw [if_pos h, if_pos h]
        · rw [if_neg h, if_neg h]; simp
      rw [e]; exact hM3
    have HM3 := Lib.hid hM3'; clear hM3 hM3' hg3 HM0 c1 hmk hmm
    go_wp2_with fail
    go_loopg [8, 38] pn (fun g' s8 s38 wr => ∃ k : Nat, k + g' = pn ∧ s38 = .int .i64 k ∧ s8 = .int .i64 (leftN pn (s0 (woodOf m o) k) : Nat) ∧ VAt w w.heap.size (w.heap.size + 1) (w.heap.size + 1 + 1) ra ba oa ha pa pn rc bn bc on oc hn hc pn pc m o wr ∧ WRow wr w1.heap.size (l0 pn k) ∧
      ∃ n cnt, n + leftN pn (s0 (woodOf m o) k) = pn + 1 ∧ MapI wr (w1.heap.size + 1) n (rkF (s0 (woodOf m o) k)) cnt)
    case atStart => exact ⟨0, by omega, rfl, by rw [s0_zero, leftN_none], HV3.out, HW3.out, 1, 1, by rw [s0_zero, leftN_none]; omega, HM3.out⟩
    case round =>
      obtain ⟨k, hk, rfl, rfl, hV, hW, n, cnt, hnl, hM⟩ := hrel
      have HKK := Lib.hid hk; clear hk
      by_cases hlt : k < pn
      · have hl0 := l0_get (n := pn) (k := k) hlt
        rw [if_neg (by omega)] at hl0
        obtain ⟨cw1, _⟩ := hW.cell hl0
        have fw := VRow.frozen hW (k * 2)
        have hWs := WRow.set1 hW hl0 (-1)
        rw [l0_set] at hWs
        have HWs := Lib.hid hWs; clear hWs hW
        have hsz3 := hV.v3.lt
        have hVs := hV.far HM.out HO.out (a := ⟨w1.heap.size, k * 2, none⟩) (by simp; omega) (by simp; omega) (by simp; omega) (by simp; omega) (.int .i64 (-1))
        have q0 := hVs.v3.cell (k := 0) rfl
        have q1 := hVs.v3.cell (k := 1) rfl
        have q2 := hVs.v3.cell (k := 2) rfl
        have q3 := hVs.v3.cell (k := 3) rfl
        have q4 := hVs.v3.cell (k := 4) rfl
        have HVs := Lib.hid hVs; clear hVs hV
        have hMs := hM.setCell (a := ⟨w1.heap.size, k * 2, none⟩) (by simp) (.int .i64 (-1))
        have HMs := Lib.hid hMs; clear hMs hM
        have i1 : (k : Int) < (pn : Int) := by omega
        have HNL := Lib.hid hnl; clear hnl
        go_wp2_with fail
        refine (reserved_any ra ba oa ha pa pn rc bn bc on oc hn hc pn pc m o _ HVs.out.mkt HVs.out.out HFIT.out k hlt).mono ?_
        rintro e w4 ⟨rfl, hb4⟩
        have HV4 := Lib.hid (HVs.out.step hb4); clear HVs
        have HW4 := Lib.hid (HWs.out.step hb4); clear HWs
        have HM4 := Lib.hid (HMs.out.below hb4); clear HMs hb4 q0 q1 q2 q3 q4
        have hlf := leftN_le pn (s0 (woodOf m o) k)
        cases hr : resB m o k with
        | true =>
          have hs := s0_yes (W := woodOf m o) (k := k) hr
          have hl1 := leftN_put (p := (-1, 0)) (s0_at (woodOf m o) k) hlt
          rw [← hs] at hl1
          have hpf : putI (rkF (s0 (woodOf m o) k)) (k : Int) 0 = rkF (putS (s0 (woodOf m o) k) k (-1, 0)) := rkF_put (s0 (woodOf m o) k) k (-1, 0)
          rw [← hs] at hpf
          have HNW := Lib.hid (show rkF (s0 (woodOf m o) k) (k : Int) = none by rw [rkF_item, s0_at]; rfl)
          have HS := Lib.hid hs; clear hs hr
          have HPF := Lib.hid hpf; clear hpf
          go_wp2_with (at_mapUpdate; refine updateI _ rfl _ _ _ rfl _ _ _ _ (k : Int) 0 rfl HM4.out (by have := HNL.out; omega) rfl rfl ⟨by omega, by omega⟩ ⟨by omega, by omega⟩ HNW.out ?_)
          intro w5 hM5 hg5
          rw [HPF.out] at hM5
          have HM5 := Lib.hid hM5; clear hM5
          have HV5 := Lib.hid (HV4.out.grown HM.out HO.out hg5 (by omega) (by omega) (by omega) (by omega))
          have HW5 := Lib.hid (HW4.out.grown hg5 (by simp)); clear hg5
          go_wp2_with fail
          go_roundg (gk - 1)
          case measure => have := HKK.out; omega
          case rel => exact ⟨k + 1, by have := HKK.out; omega, by go_num, by go_num, HV5.out, HW5.out, n + 1, _, by have := HNL.out; omega, HM5.out⟩
        | false =>
          have hs := s0_no (W := woodOf m o) (k := k) hr
          have HS := Lib.hid hs; clear hs hr
          go_wp2_with fail
          go_roundg (gk - 1)
          case measure => have := HKK.out; omega
          case rel => exact ⟨k + 1, by have := HKK.out; omega, by go_num, by rw [HS.out], HV4.out, HW4.out, n, cnt, by rw [HS.out]; exact HNL.out, by rw [HS.out]; exact HM4.out⟩
      · obtain rfl : k = pn := by have := HKK.out; omega
        rw [l0_all (woodOf m o)] at hW
        rw [leftN_s0] at hnl ⊢
        go_wp2_with fail
        go_step3
        rename_i hkk
        refine hkk _ _ ?_
        refine HNEXT.out _ _ ⟨0, w1.heap.size, w1.heap.size + 1, ?_⟩
        have hsz3 := hV.v3.lt
        exact ⟨by have := leftN_le k (lv (woodOf m o) 0); omega, _, ⟨hV, hW, ⟨n, cnt, hnl, hM⟩, rfl, by omega, by omega, by omega, by omega, by omega, by omega, by omega, by omega, by omega⟩, _, rfl, rfl, rfl, rfl, rfl, rfl, rfl, rfl, rfl, rfl, rfl⟩

set_option maxRecDepth 100000 in
set_option maxHeartbeats 2000000 in
theorem fof_no (ra ba oa ha pa : Option Addr) (rn rc bn bc on oc hn hc pn pc : Nat) (m : Mkt) (o : Outc) (w : World) (hm : MktAt w ra ba oa rn rc bn bc on oc m) (ho : OutAt w ha pa hn hc pn pc o) (hfb : ofitsB m o = false) :
    Calls Tryd.prog 8 #[.agg #[.slice ra rn rc, .slice ba bn bc, .slice oa on oc], .agg #[.slice ha hn hc, .slice pa pn pc]] w fun e w' => e = .returned (.tuple #[.slice none 0 0, .int .i64 1]) ∧ Below w.heap.size w w' := by
  have HV0 := Lib.hid (VAt.new w hm ho)
  have HFB := Lib.hid hfb; clear hfb hm ho
  go_enter Tryd.func8, Tryd.ntmps8
  go_wp2_with fail
  refine wp_scope_once 0 (fun _ _ => False) (fun _ _ => 0) rfl ?first (fun _ _ h => h.elim)
  intro _
  go_wp2_with fail
  refine (ofits_any ra ba oa ha pa rn rc bn bc on oc hn hc pn pc m o _ HV0.out.mkt HV0.out.out).mono ?_
  rw [HFB.out]
  rintro e w1 ⟨rfl, hb⟩
  have HV1 := Lib.hid (HV0.out.step hb); clear hb HV0
  go_wp2_with fail
  rw [ojump_ret]
  go_ret2
  exact ⟨rfl, HV1.out.below⟩
end Go.Proofs.YtkddkkcfpnndlaaDoor

namespace Go.Proofs.YtkddkkcfpnndlaaDoor
open Go.RowKit Sale Tree

theorem fofS_yes {m : Mkt} {o : Outc} {w w' : World} {e : Ending} (h : FofSays m o w e w') (l : List (Int × Int)) (ha : allB (woodOf m o) = true) (hl : outL o.prices.length (lv (woodOf m o) o.prices.length) = l) :
    ∃ b off c, e = .returned (.tuple #[.slice (some ⟨b, off, none⟩) l.length c, .int .i64 0]) ∧ Whys w' (some ⟨b, off, none⟩) l.length c l ∧ Below w.heap.size w w' ∨ l = [] := by
  subst hl
  obtain ⟨hb, (⟨_, a, n, c, rfl, hw⟩ | ⟨hn, _⟩)⟩ := h
  · have hlen := hw.len
    subst hlen
    by_cases h0 : (outL o.prices.length (lv (woodOf m o) o.prices.length)) = []
    · exact ⟨0, 0, 0, .inr h0⟩
    · obtain ⟨b, off, rfl⟩ := hw.addr (List.length_pos_iff.2 h0)
      exact ⟨b, off, c, .inl ⟨rfl, hw, hb⟩⟩
  · rw [ha] at hn; cases hn
theorem fofS_no {m : Mkt} {o : Outc} {w w' : World} {e : Ending} (h : FofSays m o w e w') (ha : allB (woodOf m o) = false) : e = .returned (.tuple #[.slice none 0 0, .int .i64 7]) ∧ Below w.heap.size w w' := by
  obtain ⟨hb, (⟨hy, _⟩ | ⟨_, e⟩)⟩ := h
  · rw [ha] at hy; cases hy
  · exact ⟨e, hb⟩

theorem out_lit (W : World) (N : Nat) (hN : W.heap.size = N) (hs ps : List Int) (hn pn : Nat) (h1 : hs.length = hn) (h2 : ps.length = pn) (hb1 : hn ≤ 100) (hb2 : pn ≤ 100) (hx1 : ∀ x, x ∈ hs → -1000 ≤ x ∧ x ≤ 1000) (hx2 : ∀ x, x ∈ ps → -1000 ≤ x ∧ x ≤ 1000) :
    OutAt ((W.alloc (.cells (iarr hs) 3)).alloc (.cells (iarr ps) 3)) (some ⟨N, 0, none⟩) (some ⟨N + 1, 0, none⟩) hn hn pn pn ⟨hs, ps⟩ ∧ Below W.heap.size W ((W.alloc (.cells (iarr hs) 3)).alloc (.cells (iarr ps) 3)) :=
  by subst hN; exact ⟨⟨row_lit ((Row.new W _ hs).alloc _) h1 hb1 hx1, row_lit (Row.new' _ _ ps (by simp)) h2 hb2 hx2⟩, ((Below.refl _ W).alloc (Nat.le_refl _) _).alloc (by simp) _⟩

def o1 : Outc := ⟨[0, -1], [5]⟩
def o2 : Outc := ⟨[0, -1], [6]⟩
def o3 : Outc := ⟨[0, 1, -1], [3, 3]⟩

set_option maxRecDepth 100000 in
set_option maxHeartbeats 400000 in
theorem lives16_any (w : World) : Calls Tryd.prog 5 #[] w fun e w' => e = .returned (.bool true) ∧ Below w.heap.size w w' := by
  have H0 := Lib.hid (m1_at w)
  have hs1 : (m1w w).heap.size = w.heap.size + 1 + 1 + 1 + 1 + 1 + 1 := by simp [m1w]
  have G1 := Lib.hid (m2_at (m1w w) _ hs1)
  have H1 := Lib.hid (H0.out.step (G1.out.below)); clear H0
  have HS1 := Lib.hid hs1; clear hs1
  have c0 := H1.out.row.cell (k := 0) rfl
  have c1 := H1.out.row.cell (k := 1) rfl
  have c2 := H1.out.row.cell (k := 2) rfl
  go_enter Tryd.func5, Tryd.ntmps5
  go_wp2_with fail
  have hsm : (m2w (m1w w) (w.heap.size + 1 + 1 + 1 + 1 + 1 + 1)).heap.size = w.heap.size + 1 + 1 + 1 + 1 + 1 + 1 + 1 + 1 + 1 + 1 + 1 + 1 + 1 := by simp [m2w, m1w]
  have h3 := out_lit (m2w (m1w w) (w.heap.size + 1 + 1 + 1 + 1 + 1 + 1)) _ hsm [0, -1] [5] 2 1 rfl rfl (by omega) (by omega) (by decide) (by decide)
  have H3 := Lib.hid (H1.out.step h3.2)
  have G3 := Lib.hid (G1.out.step h3.2)
  refine (fof_any _ _ _ _ _ 1 1 2 2 2 2 2 2 1 1 m1 o1 _ H3.out.mkt h3.1 (by decide +kernel)).mono ?_
  intro e w3 hf
  obtain ⟨lb, lo, lc, (⟨rfl, hy, hb⟩ | hl0)⟩ := fofS_yes hf [(1, 1)] (by decide +kernel) (by decide +kernel)
  case inr => cases hl0
  have H4 := Lib.hid (H3.out.step hb)
  have G4 := Lib.hid (G3.out.step hb)
  have Y4 := Lib.hid hy
  clear hf hb hy H3 G3 h3 c0 c1 c2 hsm HS1 H1 G1
  have c0 := H4.out.row.cell (k := 0) rfl
  have c1 := H4.out.row.cell (k := 1) rfl
  have c2 := H4.out.row.cell (k := 2) rfl
  go_wp2_with fail
  have h3 := out_lit w3 _ rfl [0, -1] [6] 2 1 rfl rfl (by omega) (by omega) (by decide) (by decide)
  have H5 := Lib.hid (H4.out.step h3.2)
  have G5 := Lib.hid (G4.out.step h3.2)
  have Y5 := Lib.hid (Y4.out.below h3.2 (Nat.le_refl _))
  refine (fof_any _ _ _ _ _ 1 1 2 2 2 2 2 2 1 1 m1 o2 _ H5.out.mkt h3.1 (by decide +kernel)).mono ?_
  intro e w4 hf
  obtain ⟨rfl, hb⟩ := fofS_no hf (by decide +kernel)
  have H6 := Lib.hid (H5.out.step hb)
  have G6 := Lib.hid (G5.out.step hb)
  have Y6 := Lib.hid (Y5.out.below hb (Nat.le_refl _))
  clear hf hb H5 G5 Y5 H4 G4 Y4 h3 c0 c1 c2
  have c0 := G6.out.row.cell (k := 0) rfl
  have c1 := G6.out.row.cell (k := 1) rfl
  have c2 := G6.out.row.cell (k := 2) rfl
  go_wp2_with fail
  have h3 := out_lit w4 _ rfl [0, 1, -1] [3, 3] 3 2 rfl rfl (by omega) (by omega) (by decide) (by decide)
  have H7 := Lib.hid (H6.out.step h3.2)
  have G7 := Lib.hid (G6.out.step h3.2)
  have Y7 := Lib.hid (Y6.out.below h3.2 (Nat.le_refl _))
  refine (fof_any _ _ _ _ _ 2 2 3 3 3 3 3 3 2 2 m2 o3 _ G7.out.mkt h3.1 (by decide +kernel)).mono ?_
  intro e w5 hf
  obtain ⟨kb, ko, kc, (⟨rfl, hy, hb⟩ | hl0)⟩ := fofS_yes hf [(2, 1), (0, 2)] (by decide +kernel) (by decide +kernel)
  case inr => cases hl0
  have Y8 := Lib.hid (Y7.out.below hb (Nat.le_refl _))
  have d0 := Y8.out.cell _ _ rfl 0 _ rfl
  have d1 := hy.cell _ _ rfl 0 _ rfl
  have d2 := hy.cell _ _ rfl 1 _ rfl
  simp only [Nat.zero_mul, Nat.add_zero, Nat.one_mul] at d0 d1 d2
  obtain ⟨d00, d01⟩ := d0
  obtain ⟨d10, d11⟩ := d1
  obtain ⟨d20, d21⟩ := d2
  have HB := Lib.hid (H7.out.below.trans (hb.mono H7.out.below.size))
  clear hf hb H6 H7 G6 G7 Y6 Y7 h3 c0 c1 c2 hy
  simp only [List.length_cons, List.length_nil]
  go_wp2_with fail
  go_ret
  exact ⟨rfl, HB.out⟩
end Go.Proofs.YtkddkkcfpnndlaaDoor
