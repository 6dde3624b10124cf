/- Walks: the law PathsReach. -/
import Derived.Test.YtbnjeegicbffeaaPp5
import Derived.Deep.RegionHeld
namespace Go.Proofs.Ytbnjeegicbffeaa
open Go.RowKit

theorem Ints.keep {w w' : World} {a : Option Addr} {n c B : Nat} {xs : List Int} (h : Ints w a n c xs) (hb : Below B w w') (hlt : 0 < n → ∀ b o, a = some ⟨b, o, none⟩ → b < B) : Ints w' a n c xs :=
  ⟨h.len, h.cap, h.big, h.addr, fun b o e k x hx => by
    rw [hb.cell (p := ⟨b, o + k, none⟩) (hlt (by have := (List.getElem?_eq_some_iff.1 hx).1; have := h.len; omega) b o e)]; exact h.cell b o e k x hx, h.bd, h.nil⟩
theorem Ints.other {w : World} {a : Option Addr} {n c : Nat} {xs : List Int} (h : Ints w a n c xs) {p : Addr} (hne : 0 < n → ∀ b o, a = some ⟨b, o, none⟩ → b ≠ p.block) (u : Value) : Ints (w.setCell p u) a n c xs :=
  ⟨h.len, h.cap, h.big, h.addr, fun b o e k x hx => by
    rw [World.cell?_setCell_far w p ⟨b, o + k, none⟩ u (fun e' => hne (by have := (List.getElem?_eq_some_iff.1 hx).1; have := h.len; omega) b o e e'.symm)]; exact h.cell b o e k x hx, h.bd, h.nil⟩

/-- all items, of the first i bidders; those from lo on have none yet -/
structure AllTo (w : World) (B base i lo items n : Nat) (vals : List Value) : Prop where
  row : VRow w B 22 vals
  len : vals.length = n
  done : ∀ j, j < i → ∃ (a : Option Addr) (c : Nat), vals[j]? = some (Value.slice a items c) ∧ Ints w a items c (nats (List.range items)) ∧ (0 < items → ∀ b o : Nat, a = some ⟨b, o, none⟩ → b ≠ B ∧ b < base)
  rest : ∀ j, lo ≤ j → j < n → vals[j]? = some (Value.slice none 0 0)

theorem AllTo.write {w W : World} {B base i lo items n : Nat} {vals : List Value} (h : AllTo w B base i lo items n vals) (hb : Below base w W) (hrow : VRow W B 22 vals) (hlo : i < lo) (v : Value) :
    AllTo (W.setCell ⟨B, i, none⟩ v) B base i lo items n (vals.set i v) :=
  ⟨hrow.set i v, by rw [List.length_set]; exact h.len, fun j hj => by
    obtain ⟨a, c, h1, h2, h3⟩ := h.done j hj
    exact ⟨a, c, by rw [List.getElem?_set_ne (by omega)]; exact h1, (h2.keep hb (fun hn b o e => (h3 hn b o e).2)).other (fun hn b o e => (h3 hn b o e).1) v, h3⟩,
    fun j hj hjn => by rw [List.getElem?_set_ne (by omega)]; exact h.rest j hj hjn⟩

theorem AllTo.next {w : World} {B base base' i items n : Nat} {vals : List Value} (h : AllTo w B base i (i + 1) items n vals) (hbb : base ≤ base') {a : Option Addr} {c : Nat} (hv : vals[i]? = some (Value.slice a items c)) (hI : Ints w a items c (nats (List.range items)))
    (hne : 0 < items → ∀ b o : Nat, a = some ⟨b, o, none⟩ → b ≠ B ∧ b < base') : AllTo w B base' (i + 1) (i + 1) items n vals :=
  ⟨h.row, h.len, fun j hj => by
    by_cases e : j = i
    · subst e; exact ⟨a, c, hv, hI, hne⟩
    · obtain ⟨a, c, h1, h2, h3⟩ := h.done j (by omega)
      exact ⟨a, c, h1, h2, fun hn b o e => ⟨(h3 hn b o e).1, Nat.lt_of_lt_of_le (h3 hn b o e).2 hbb⟩⟩, h.rest⟩

theorem AllTo.rows {w : World} {B base items n : Nat} {vals : List Value} (h : AllTo w B base n n items n vals) (hbig : n ≤ 4611686018427387904) : Rows w (some ⟨B, 0, none⟩) n n ((allG n items).map nats) := by
  have hl : ((allG n items).map nats).length = n := by simp [allG]
  have := h.row.rows (xss := (allG n items).map nats) (by omega) (fun j xs hj => by
    have hjn : j < n := by have := (List.getElem?_eq_some_iff.1 hj).1; omega
    obtain ⟨a, c, h1, h2, _⟩ := h.done j hjn
    have : xs = nats (List.range items) := by
      rw [List.getElem?_map] at hj
      simp only [allG, List.getElem?_replicate, hjn, if_true, Option.map_some, Option.some.injEq] at hj
      exact hj.symm
    exact ⟨a, items, c, h1, this ▸ h2⟩)
  rwa [hl] at this

set_option maxRecDepth 100000 in
set_option maxHeartbeats 2000000 in
theorem pathsReach_any (ga ma : Option Addr) (gn gc mn mc : Nat) (g : List (List Int)) (items : Int) (m : List Int) (start : Int) (w : World) (hg : Rows w ga gn gc g) (hm : Ints w ma mn mc m) :
    Calls Try.prog 11 #[.agg #[.slice ga gn gc, .int .i64 items], .slice ma mn mc, .int .i64 start] w fun e w' => e = .returned (.bool true) ∧ Below w.heap.size w w' := by
  have HG := Lib.hid hg; clear hg
  have HM := Lib.hid hm; clear hm
  have HB0 := Lib.hid (pw_start w ga gn gc items)
  have hgr := HG.out.below (pw_kept HB0.out).2.2.2 (Nat.le_refl _)
  have hmr := HM.out.below (pw_kept HB0.out).2.2.2 (Nat.le_refl _)
  rcases bCase g items m start with hok | ⟨G, f, rfl, rfl, hok⟩
  · have HC := Lib.hid (Reach_no ga ma gn gc mn mc g items start m (pw w ga gn gc items) hgr hmr hok)
    clear hgr hmr hok
    go_enter Try.func11, Try.ntmps11
    go_wp2_with fail
    refine HC.out.mono ?_
    rintro e w1 ⟨rfl, hb1⟩
    have HB1 := Lib.hid (pw_below HB0.out hb1); clear hb1 HC
    go_wp2_with fail
    refine (alive7_any w1).mono ?_
    rintro e w2 ⟨rfl, hb⟩
    have HB2 := Lib.hid (pw_below HB1.out hb); clear hb
    go_wp2_with fail
    go_ret
    exact ⟨rfl, (pw_kept HB2.out).2.2.2⟩
  · have hC := Reach_yes ga ma gn gc mn mc f G items m (pw w ga gn gc items) hgr hmr hok
    rw [← HM.out.len] at hC
    rw [show Way.full (nbOf G) (Way.holdTo (hasAt m) m.length) f = reachOf G m f from rfl, HM.out.len] at hC
    have HC := Lib.hid hC; clear hC
    have hbo := bOk_parts hok
    have HBO := Lib.hid hbo; clear hbo
    have hfits : fitsB (G.map nats) items m = true := by
      simp only [bOk, Bool.and_eq_true, decide_eq_true_eq] at hok
      exact hok.1.1.1
    have HFIT := Lib.hid hfits
    obtain ⟨q1, q2, _, _⟩ := gcheck_parts (fitsB_parts hfits).1
    clear hfits
    obtain ⟨it, rfl⟩ := Int.eq_ofNat_of_zero_le q1
    have HOKA := Lib.hid (all_ok hok)
    have hboa := bOk_parts HOKA.out
    have HBOA := Lib.hid hboa; clear hboa
    clear hgr hmr hok
    have hmG : mn = G.length := by have := HBO.out.len; have := HM.out.len; omega
    have hGn : G.length = gn := by have := HG.out.len; simpa using this
    have hfm : f < mn := by have := HBO.out.lt; have := HM.out.len; omega
    have hmn8 : mn ≤ 8 := by have := HBO.out.n8; omega
    obtain rfl : mn = gn := by omega
    clear hmG
    have HGN := Lib.hid hGn; clear hGn
    obtain ⟨s, hs⟩ : ∃ s, s = reachOf G m f := ⟨_, rfl⟩
    rw [← hs] at HC
    have HS := Lib.hid hs; clear hs
    obtain ⟨bm, om, rfl⟩ := HM.out.addr (by omega)
    go_enter Try.func11, Try.ntmps11
    go_wp2_with fail
    refine HC.out.mono ?_
    rintro e w1 ⟨a1, n1, a2, n2, rfl, hi1, hi2, hb1⟩
    have HB1 := Lib.hid (pw_below HB0.out hb1); clear hb1 HC
    have HI1 := Lib.hid hi1; clear hi1
    have HI2 := Lib.hid hi2; clear hi2
    obtain ⟨c0, c1, hs1, hB1⟩ := pw_kept HB1.out
    have HM1 := Lib.hid (HM.out.below hB1 (Nat.le_refl _))
    have HBW1 := Lib.hid hB1; clear hB1
    have hn1b := HI1.out.big
    go_wp2_with fail
    go_loopg [10] n1 (fun g' s10 wr => ∃ i : Nat, i + g' = n1 ∧ s10 = .int .i64 i ∧ wr = w1)
    case atStart => exact ⟨0, by omega, rfl, rfl⟩
    case round =>
      obtain ⟨i, hi, rfl, rfl⟩ := hrel
      have HI := Lib.hid hi; clear hi
      by_cases hlt : i < n1
      · obtain ⟨x, hx, _⟩ := HI1.out.get hlt
        obtain ⟨b1, o1, rfl⟩ := HI1.out.addr (by omega)
        have cx := HI1.out.cell b1 o1 rfl i x hx
        obtain ⟨y, hy, rfl⟩ : ∃ y, y ∈ s.ws ∧ x = (y : Int) := by
          have := (sorted_perm _).mem_iff.1 (List.mem_of_getElem? hx)
          obtain ⟨y, hy, rfl⟩ := List.mem_map.1 this
          exact ⟨y, hy, rfl⟩
        rw [HS.out] at hy
        obtain ⟨hyl, hyc⟩ := reach_item HBO.out hy
        rw [HM.out.len] at hyl
        have i1 : (i : Int) < (n1 : Int) := by omega
        have i2 : (y : Int) < (mn : Int) := by omega
        have e1 : decide ((y : Int) < 0) = false := by simp
        have e2 : decide ((mn : Int) ≤ (y : Int)) = false := by simp; omega
        have e2' : ¬ (mn ≤ y) := by omega
        have HX := Lib.hid hx; clear hx hy
        by_cases hyf : y = f
        · have e3 : ((y : Int) != (f : Int)) = false := by simp [hyf]
          have HYF := Lib.hid hyf; clear hyf hyc
          go_wp2_with fail
          go_roundg (gk - 1)
          case measure => have := HI.out; omega
          case rel => exact ⟨i + 1, by have := HI.out; omega, by go_num, rfl⟩
        · obtain ⟨k, hk, hkm⟩ := hyc.resolve_left hyf
          have e3 : ((y : Int) != (f : Int)) = true := by simp; omega
          have cm := HM1.out.cell bm om rfl y (k : Int) hk
          rw [← HS.out] at hkm
          have e4 : decide ((k : Int) ∈ nats (whatOf s.came 8)) = true := by simp [hkm]
          have HYF := Lib.hid hyf; clear hyf hyc hk hkm
          go_wp2_with fail
          refine (lhas_any a2 n2 n2 _ k wr HI2.out).mono ?_
          rw [e4]
          rintro e w3 ⟨rfl, rfl⟩
          go_wp2_with fail
          go_roundg (gk - 1)
          case measure => have := HI.out; omega
          case rel => exact ⟨i + 1, by have := HI.out; omega, by go_num, rfl⟩
      · have hmk := mkRows mn (by omega)
        have HBR := Lib.hid (((Below.refl wr.heap.size wr).alloc (Nat.le_refl _) (.cells (List.replicate mn (Value.slice none 0 0)).toArray 22)))
        have hbig := HM.out.big
        go_wp2_with fail
        obtain ⟨wa, rfl⟩ : ∃ wa : World, wa = wr := ⟨_, rfl⟩
        go_loopg [12] mn (fun g' s12 wr => ∃ (i : Nat) (vals : List Value), i + g' = mn ∧ s12 = .int .i64 i ∧ AllTo wr wa.heap.size wr.heap.size i i it mn vals ∧ Below wa.heap.size wa wr ∧ wa.heap.size < wr.heap.size)
        case atStart => exact ⟨0, List.replicate mn (.slice none 0 0), by omega, rfl, ⟨VRow.new _ _ _, by simp, fun j hj => absurd hj (by omega), fun j _ hj => by simp [hj]⟩, HBR.out, by simp⟩
        case round =>
          obtain ⟨i, vals, hi, rfl, hA, hB, hsz⟩ := hrel
          have hbc := (bcell hB).1 w.heap.size 0 hs1
          rw [c0] at hbc
          have HI := Lib.hid hi; clear hi
          have HA := Lib.hid hA; clear hA
          have HB := Lib.hid hB; clear hB
          by_cases hlt : i < mn
          · go_wp2_with fail
            obtain ⟨wo, rfl⟩ : ∃ wo : World, wo = wr := ⟨_, rfl⟩
            obtain ⟨go, rfl⟩ : ∃ go : Nat, go = gk := ⟨_, rfl⟩
            have hstart : AllTo wo wa.heap.size wo.heap.size i (i + 1) it mn vals := ⟨HA.out.row, HA.out.len, HA.out.done, fun j hj hjn => HA.out.rest j (by omega) hjn⟩
            have HST := Lib.hid hstart; clear hstart
            go_loopg [13] it (fun g' s13 wr => ∃ (k : Nat) (vals : List Value) (va : Option Addr) (vc : Nat), k + g' = it ∧ s13 = .int .i64 k ∧ AllTo wr wa.heap.size wo.heap.size i (i + 1) it mn vals ∧ vals[i]? = some (Value.slice va k vc) ∧ Own wr wo.heap.size (.slice va k vc) (nats (List.range k)) ∧ Below wa.heap.size wa wr ∧ wo.heap.size ≤ wr.heap.size)
            case atStart => exact ⟨0, vals, none, 0, by omega, rfl, HST.out, HA.out.rest i (Nat.le_refl _) hlt, Own.nil _ _, HB.out, Nat.le_refl _⟩
            case round =>
              obtain ⟨k, vals, va, vc, hk, rfl, hA2, hv, hO, hB2, hsz2⟩ := hrel
              have hbc := (bcell hB2).1 w.heap.size 1 hs1
              rw [c1] at hbc
              have hbc0 := (bcell hB2).1 w.heap.size 0 hs1
              rw [c0] at hbc0
              have cv := hA2.row.cell hv
              have HK := Lib.hid hk; clear hk
              have HV := Lib.hid hv; clear hv
              have HO2 := Lib.hid hO; clear hO
              have HB2 := Lib.hid hB2; clear hB2
              by_cases hlk : k < it
              · have cf := hA2.row.frozen i
                have HA2 := Lib.hid hA2; clear hA2
                have i1 : (i : Int) < (mn : Int) := by omega
                have hkl : (nats (List.range k)).length = k := by simp [nats]
                obtain ⟨zs, hzs⟩ : ∃ zs, zs = nats (List.range k) := ⟨_, rfl⟩
                rw [← hzs] at hkl HO2
                have HKL := Lib.hid hkl; clear hkl
                have HZ := Lib.hid hzs; clear hzs
                go_wp2_with (at_builtin; refine app1at _ rfl _ _ rfl wo.heap.size _ zs rfl (HO2.out.alloc _) wr.heap.size 0 1 (k : Int) rfl (by simp [go_sem]) (by rw [HKL.out]; omega) (by simp; omega) ?_)
                intro g' cap' w' hown' hgr' hb' hat'
                rw [HKL.out] at hown' ⊢
                have hvr := (HA2.out.row.alloc (.cells #[.int .i64 (k : Int)] 3)).below hb' hsz
                have cw := hvr.cell HV.out
                have cwf := hvr.frozen i
                have hal : Below wo.heap.size wr (wr.alloc (.cells #[.int .i64 (k : Int)] 3)) := (Below.refl _ _).alloc hsz2 _
                have hwr := HA2.out.write (hal.trans hb') hvr (by omega) (.slice (some ⟨g', 0, none⟩) (k + 1) cap')
                have hgb : (Value.slice (some ⟨g', 0, none⟩) (k + 1) cap').ownBlock ≠ some wa.heap.size := by
                  intro e
                  have := hown'.base g' rfl
                  have e2 := Option.some.inj e
                  simp at e2
                  omega
                have HWR := Lib.hid hwr; clear hwr
                have HGB := Lib.hid hgb; clear hgb
                have HO3 := Lib.hid (hown'.apart (a := ⟨wa.heap.size, i, none⟩) HGB.out (.slice (some ⟨g', 0, none⟩) (k + 1) cap')); clear hown'
                have HB3 := Lib.hid (HB2.out.trans (((Below.refl _ _).alloc HB2.out.size (.cells #[.int .i64 (k : Int)] 3)).trans (hb'.mono (Nat.le_of_lt hsz))))
                have hsz3 := hb'.size
                have hsz4 : wo.heap.size ≤ w'.heap.size := by simp at hsz3; omega
                clear hb' hgr' hat' hvr hal hsz3
                go_wp2_with fail
                go_roundg (gk - 1)
                case measure => have := HK.out; omega
                case rel =>
                  refine ⟨k + 1, _, some ⟨g', 0, none⟩, cap', by have := HK.out; omega, by go_num, HWR.out, ?_, ?_, HB3.out.setCell (by simp) _, by simpa using hsz4⟩
                  · rw [List.getElem?_set_self (by rw [HA2.out.len]; exact hlt)]
                  · have e : nats (List.range (k + 1)) = zs ++ [(k : Int)] := by rw [HZ.out, List.range_succ]; simp [nats]
                    rw [e]; exact HO3.out
              · obtain rfl : k = it := by have := HK.out; omega
                have hI : Ints wr va k vc (nats (List.range k)) := by
                  obtain ⟨a', c', e, h⟩ := HO2.out.ints (by simp [nats]; omega) (fun x hx => by
                    obtain ⟨y, hy, rfl⟩ := List.mem_map.1 hx
                    have := List.mem_range.1 hy; omega)
                  rw [show (nats (List.range k)).length = k by simp [nats]] at e h
                  cases e; exact h
                have hnext := hA2.next hsz2 HV.out hI (fun _ b o e => by
                  subst e
                  obtain ⟨h1, h2⟩ := World.ownsRow.lt HO2.out b rfl
                  omega)
                have HNX := Lib.hid hnext; clear hnext
                have HA2 := Lib.hid hA2; clear hA2 hI
                go_wp2_with fail
                go_roundg (go - 1)
                case measure => have := HI.out; omega
                case rel => exact ⟨i + 1, vals, by have := HI.out; omega, by go_num, HNX.out, HB2.out, by omega⟩
          · obtain rfl : i = mn := by have := HI.out; omega
            have hrows := HA.out.rows hbig
            have hBw := HBW1.out.trans (HB.out.mono HBW1.out.size)
            have hboa := HOKA.out
            have hml := HM.out.len
            rw [hml] at hboa
            have hC := Reach_yes (some ⟨wa.heap.size, 0, none⟩) (some ⟨bm, om, none⟩) i i i mc f (allG i it) it m wr hrows (HM.out.below hBw (Nat.le_refl _)) hboa
            have hth := all_things HBOA.out (by omega)
            have hwhos : ∀ y, y ∈ (reachOf G m f).ws → y ∈ (reachOf (allG m.length it) m f).ws := fun y hy => all_who HBO.out HFIT.out HBOA.out hy
            rw [show Way.full (nbOf (allG i it)) (Way.holdTo (hasAt m) i) f = reachOf (allG i it) m f by unfold reachOf; rw [hml]] at hC
            rw [hml] at hth hwhos
            obtain ⟨s2, hs2⟩ : ∃ s2, s2 = reachOf (allG i it) m f := ⟨_, rfl⟩
            rw [← hs2] at hC hth hwhos
            have hbc1 := (bcell HB.out).1 w.heap.size 1 hs1
            rw [c1] at hbc1
            have HC2 := Lib.hid hC
            have HTH := Lib.hid hth
            have HWH := Lib.hid hwhos
            have HBW := Lib.hid hBw
            clear hC hth hwhos hs2 hrows hboa hml hBw
            go_wp2_with fail
            refine HC2.out.mono ?_
            rintro e w3 ⟨a3, n3, a4, n4, rfl, hi3, hi4, hb3⟩
            obtain rfl : n4 = it := by rw [← hi4.len]; exact HTH.out
            have HI3 := Lib.hid hi3; clear hi3 hi4
            have hbc3 := (bcell hb3).1 w.heap.size 1 (by omega)
            rw [hbc1] at hbc3
            have HI13 := Lib.hid (HI1.out.below (HB.out.trans (hb3.mono HB.out.size)) (Nat.le_refl _))
            have HB3 := Lib.hid (HBW.out.trans (hb3.mono HBW.out.size)); clear hb3 HC2
            have e5 : ((n4 : Int) != (n4 : Int)) = false := by simp
            go_wp2_with fail
            go_loopg [17] n1 (fun g' s17 wr => ∃ j : Nat, j + g' = n1 ∧ s17 = .int .i64 j ∧ wr = w3)
            case atStart => exact ⟨0, by omega, rfl, rfl⟩
            case round =>
              obtain ⟨j, hj, rfl, rfl⟩ := hrel
              have HJ := Lib.hid hj; clear hj
              by_cases hlt : j < n1
              · obtain ⟨x, hx, _⟩ := HI13.out.get hlt
                obtain ⟨b1, o1, rfl⟩ := HI13.out.addr (by omega)
                have cx := HI13.out.cell b1 o1 rfl j x hx
                have hmem : x ∈ sorted (nats s2.ws) := by
                  have := (sorted_perm _).mem_iff.1 (List.mem_of_getElem? hx)
                  obtain ⟨y, hy, rfl⟩ := List.mem_map.1 this
                  rw [HS.out] at hy
                  exact (sorted_perm _).mem_iff.2 (List.mem_map.2 ⟨y, HWH.out y hy, rfl⟩)
                have e6 : decide (x ∈ sorted (nats s2.ws)) = true := by simp [hmem]
                have HX := Lib.hid hx; clear hx hmem
                have i1 : (j : Int) < (n1 : Int) := by omega
                go_wp2_with fail
                refine (lhas_any a3 n3 n3 _ x wr HI3.out).mono ?_
                rw [e6]
                rintro e w4 ⟨rfl, rfl⟩
                go_wp2_with fail
                go_roundg (gk - 1)
                case measure => have := HJ.out; omega
                case rel => exact ⟨j + 1, by have := HJ.out; omega, by go_num, rfl⟩
              · go_wp2_with fail
                refine (alive7_any wr).mono ?_
                rintro e w5 ⟨rfl, hb⟩
                go_wp2_with fail
                go_ret
                exact ⟨rfl, HB3.out.trans (hb.mono HB3.out.size)⟩
end Go.Proofs.Ytbnjeegicbffeaa
