/- Walks: paths.Reach. -/
import Derived.Test.YtkddkkcfpnndlaaGreatDoorPg20
import Derived.Test.YtkddkkcfpnndlaaGreatDoorPg13
import Derived.Test.YtkddkkcfpnndlaaGreatDoorPg19
import Derived.Deep.MidRow
namespace Go.Proofs.YtkddkkcfpnndlaaGreatDoor
open Go.RowKit

theorem VRow.came {w : World} {B : Nat} {T : TypeId} {g h wv : Value} {came hold : Nat → Nat} (hV : VRow w B T (sCells g h wv came hold)) : w.rangeAt B 3 (arr8 came) := by
  intro j v hj
  have hj8 : j < 8 := by have := (List.getElem?_eq_some_iff.1 hj).1; simpa [arr8] using this
  have : v = iv (came j) := by
    simp only [arr8, List.getElem?_map, List.getElem?_range hj8, Option.map_some, Option.some.injEq] at hj
    exact hj.symm
  rw [this]
  exact hV.cell (sCells_came hj8)

theorem sortOwn2 (v : Value) (zs : List Int) (base : Nat) (w : World) (ho : Own w base v zs) (hsz : zs.length < 4611686018427387904) :
    Calls Tryz.prog 97 #[v] w fun e w' => e = .returned (.tuple #[]) ∧ Own w' base v (sorted zs) ∧ w.grownBy w' v.ownBlock := by
  obtain ⟨h1, h2⟩ := ho
  rcases h2 with ⟨rfl, hn⟩ | ⟨g, cap, cur, rfl, hg, hh, hc, hm, hs, ht⟩
  · obtain rfl : zs = [] := List.eq_nil_of_length_eq_zero hn
    refine (Tryz.slices_Sort_int_none none 0 w).mono ?_
    rintro e w' ⟨rfl, rfl⟩
    exact ⟨rfl, (by rw [show sorted [] = [] by simp [sorted]]; exact Own.nil _ _), World.grownBy.refl _ _⟩
  · rw [Nat.mul_one] at ht
    have hlt : g < w.heap.size := (Array.getElem?_eq_some_iff.1 hh).1
    refine (Tryz.slices_Sort_int g 0 cap zs w (holds_of_blockI hh ht) hlt hsz).mono ?_
    rintro e w' ⟨rfl, n, os, rfl⟩
    refine ⟨rfl, ?_, grownBy_sortedI _⟩
    unfold Own
    rw [sorted_length]
    exact ownsRow_sortedI (sorted_length zs) hg hh hc hm hs

set_option maxRecDepth 100000 in
set_option maxHeartbeats 1000000 in
theorem Reach_no (ga ha : Option Addr) (gn gc hn hc : Nat) (g : List (List Int)) (items start : Int) (has : List Int) (w : World) (hg : Rows w ga gn gc g) (hh : Ints w ha hn hc has) (hok : bOk g items has start = false) :
    Calls Tryz.prog 21 #[.slice ga gn gc, .int .i64 items, .slice ha hn hc, .int .i64 start] w fun e w' => e = .returned (.tuple #[.slice none 0 0, .slice none 0 0, .int .i64 1]) ∧ Below w.heap.size w w' := by
  have HC := Lib.hid (begin_no ga ha gn gc hn hc g items start has w hg hh hok)
  clear hg hh hok
  go_enter Tryz.func21, Tryz.ntmps21
  go_wp2_with fail
  refine HC.out.mono ?_
  rintro e w1 ⟨rfl, hb⟩
  have HB := Lib.hid hb; clear hb
  go_wp2_with fail
  go_ret3
  exact ⟨rfl, HB.out⟩

/-- what Reach tells, and where its lists lie: the first below a bound, the second above it -/
def ReachOwn (s : Way.St) (w : World) (e : Ending) (w' : World) : Prop :=
  ∃ a1 n1 a2 n2, e = .returned (.tuple #[.slice a1 n1 n1, .slice a2 n2 n2, .int .i64 0]) ∧ Ints w' a1 n1 n1 (sorted (nats s.ws)) ∧ Ints w' a2 n2 n2 (nats (whatOf s.came 8)) ∧
    (∃ mid, w.heap.size ≤ mid ∧ MyRow w' w.heap.size a1 n1 n1 (sorted (nats s.ws)) ∧ (∀ b o, a1 = some ⟨b, o, none⟩ → b < mid) ∧ MyRow w' mid a2 n2 n2 (nats (whatOf s.came 8))) ∧ Below w.heap.size w w'

set_option maxRecDepth 100000 in
set_option maxHeartbeats 1000000 in
theorem Reach_own (ga ha : Option Addr) (gn gc hn hc f : Nat) (G : List (List Nat)) (items : Int) (has : List Int) (w : World) (hg : Rows w ga gn gc (G.map nats)) (hh : Ints w ha hn hc has) (hok : bOk (G.map nats) items has f = true) :
    Calls Tryz.prog 21 #[.slice ga gn gc, .int .i64 items, .slice ha hn hc, .int .i64 f] w (ReachOwn (Way.full (nbOf G) (Way.holdTo (hasAt has) hn) f) w) := by
  have hb := bOk_parts hok
  have HC := Lib.hid (begin_yes ga ha gn gc hn hc f (G.map nats) items has w hg hh hok)
  have HBO := Lib.hid hb; clear hb
  have HG := Lib.hid hg; clear hg
  have hhl := hh.len
  have hgl := HG.out.len
  rw [List.length_map] at hgl
  have HHL := Lib.hid hhl; clear hhl
  have HGL := Lib.hid hgl; clear hgl
  clear hok hh
  obtain ⟨s, hs⟩ : ∃ s, s = Way.full (nbOf G) (Way.holdTo (hasAt has) hn) f := ⟨_, rfl⟩
  rw [← hs]
  have HSS := Lib.hid hs; clear hs
  go_enter Tryz.func21, Tryz.ntmps21
  go_wp2_with fail
  refine HC.out.mono ?_
  rintro e w1 ⟨B, a', rfl, hBz, hS, hM, hab, hb⟩
  clear HC hM hab
  have HB := Lib.hid hb; clear hb
  have hbw : B + 1 < w1.heap.size := by obtain ⟨wv, hV, _⟩ := hS; exact hV.lt
  have hgn : gn ≤ 8 := by have := HBO.out.n8; have := HGL.out; omega
  have hfg : f < gn := by have := HBO.out.lt; have := HBO.out.len; have := HGL.out; omega
  have hHeld : Way.Held (nbOf G) (hasAt has) (Way.holdTo (hasAt has) hn) := HBO.out.mat.held (by rw [HHL.out]; exact Nat.le_refl _)
  have HGO := Lib.hid (goes_any true B ga gn gc (.slice a' hn hn) f G (hasAt has) (Way.holdTo (hasAt has) hn) w1 w HG.out HB.out hBz hbw hS hHeld HBO.out.zero hfg (fun x k e => by have := HBO.out.mat.lt x k e; have := HBO.out.len; have := HGL.out; omega) HBO.out.lists hgn)
  have HH := Lib.hid hHeld; clear hHeld
  clear hS
  go_wp2_with fail
  refine HGO.out.mono ?_
  rintro e w2 ⟨rfl, hS2, hb2⟩
  clear HGO
  rw [Way.full_none, ← HSS.out] at hS2
  rw [Way.full_none]
  have HALL := Lib.hid (HB.out.trans (hb2.mono hBz))
  obtain ⟨wv, hV, hO, hwv⟩ := hS2
  have hbc : B + 1 < w2.heap.size := hV.lt
  have hI : Way.Inv (nbOf G) (hasAt has) f s := by rw [HSS.out]; exact Way.full_inv HH.out HBO.out.zero
  have h8 : ∀ w k, hasAt has w = some k → k < 8 := fun x k e => by
    have hk := HBO.out.mat.fits x k e
    unfold nbOf at hk
    cases hGx : G[x]? with
    | none => rw [hGx] at hk; cases hk
    | some l => rw [hGx] at hk; exact HBO.out.lists l (List.mem_of_getElem? hGx) k hk
  have hws : ∀ x, x ∈ s.ws → x < 8 := fun x hx => by
    obtain ⟨j, hj⟩ := List.mem_iff_getElem?.1 hx
    cases j with
    | zero => have := hI.head; rw [this] at hj; cases hj; omega
    | succ j => obtain ⟨k', i, j', e1, _⟩ := hI.rest j x hj; have := HBO.out.mat.lt x k' e1; have := HBO.out.len; have := HGL.out; omega
  have hlen : s.ws.length ≤ 9 := hI.length HH.out h8
  have hcr := hV.came
  have HWS := Lib.hid hws; clear hws
  have HV := Lib.hid hV; clear hV
  have HO := Lib.hid hO; clear hO
  have HWV := Lib.hid hwv; clear hwv
  have HCR := Lib.hid hcr; clear hcr
  have HI := Lib.hid hI; clear hI
  clear h8 hb2
  go_wp2_with (refine wpList_load_mid rfl 114 _ rfl (B + 1) 3 rfl (arr8 s.came) _ HCR.out Tryz.underlying114 rfl (by kernel_rfl) ?_)
  have HBR := Lib.hid (Below.refl w2.heap.size w2)
  go_loopg [9, 31] 8 (fun g' s9 s31 wr => ∃ k : Nat, k + g' = 8 ∧ s31 = .int .i64 k ∧ Own wr w2.heap.size s9 (nats (whatOf s.came k)) ∧ Below w2.heap.size w2 wr)
  case atStart => exact ⟨0, by omega, rfl, Own.nil _ _, HBR.out⟩
  case round =>
    obtain ⟨k, hk, rfl, hO2, hB3⟩ := hrel
    have HK := Lib.hid hk; clear hk
    have HO2 := Lib.hid hO2; clear hO2
    have HB3 := Lib.hid hB3; clear hB3
    by_cases hlt : k < 8
    · have hix := index8 s.came k hlt
      obtain ⟨zs, hzs⟩ : ∃ zs, zs = nats (whatOf s.came k) := ⟨_, rfl⟩
      have hzl : zs.length ≤ k := by rw [hzs]; simp only [nats, List.length_map]; exact whatOf_length _ _
      have hsu := whatOf_succ s.came k
      obtain ⟨cm, hcm⟩ : ∃ cm, cm = s.came k := ⟨_, rfl⟩
      rw [← hcm] at hix hsu
      have HCM := Lib.hid hcm; clear hcm
      have HSU := Lib.hid hsu; clear hsu
      have HZ := Lib.hid hzs; clear hzs
      by_cases h0 : 0 < cm
      · go_wp2_with (at_builtin; refine app1 _ rfl _ _ rfl w2.heap.size _ zs rfl (by rw [HZ.out]; exact HO2.out.alloc _) wr.heap.size 0 1 (k : Int) rfl (by simp [go_sem]) (by omega) (by have := HB3.out.size; simp; omega) ?_)
        intro g' cap' w' hown' hgr' hb'
        have HO3 := Lib.hid hown'; clear hown'
        have HB4 := Lib.hid hb'; clear hb' hgr'
        go_wp2_with fail
        go_roundg (gk - 1)
        case measure => have := HK.out; omega
        case rel => exact ⟨k + 1, by have := HK.out; omega, by go_num, by rw [HSU.out, if_pos h0, show nats (whatOf s.came k ++ [k]) = zs ++ [(k : Int)] by rw [HZ.out]; simp [nats]]; exact HO3.out, (HB3.out.alloc HB3.out.size _).trans HB4.out⟩
      · go_wp2_with fail
        go_roundg (gk - 1)
        case measure => have := HK.out; omega
        case rel => exact ⟨k + 1, by have := HK.out; omega, by go_num, by rw [HSU.out, if_neg h0, List.append_nil]; exact HO2.out, HB3.out⟩
    · obtain rfl : k = 8 := by have := HK.out; omega
      obtain ⟨wa, wc, rfl, hmr, hwc⟩ := HO.out.myRow
      rw [show (nats s.ws).length = s.ws.length by simp [nats]] at HV HO HWV hmr
      have hV3 := HV.out.below HB3.out hbc
      have hO3 := HO.out.below HB3.out (Nat.le_refl _)
      have c2 := hV3.cell (k := 2) rfl
      have HC := Lib.hid (sortOwn2 _ (nats s.ws) B wr hO3 (by simp [nats]; omega))
      have HV3 := Lib.hid hV3; clear hV3
      obtain ⟨va, vc, rfl, _, hvc⟩ := HO2.out.myRow
      have hOld := HO.out.base
      have hlt2 : ∀ g, (Value.slice wa s.ws.length wc).ownBlock = some g → g < w2.heap.size := fun g e => (World.ownsRow.lt HO.out g e).2
      have hnew : ∀ g, (Value.slice va (nats (whatOf s.came 8)).length vc).ownBlock = some g → w2.heap.size ≤ g := HO2.out.base
      have HLT := Lib.hid hlt2; clear hlt2
      have HNEW := Lib.hid hnew; clear hnew
      have hcap := hmr.cap
      have hwl : (nats (whatOf s.came 8)).length ≤ 8 := by simp only [nats, List.length_map]; exact whatOf_length _ _
      obtain ⟨m, hm⟩ : ∃ m, m = (nats (whatOf s.came 8)).length := ⟨_, rfl⟩
      rw [← hm] at hwl HO2 HNEW ⊢
      have hvcap : m ≤ vc := by
        rcases HO2.out.2 with ⟨e, h0⟩ | ⟨g, cap, cur, e, _, _, hle, _⟩
        · cases e; omega
        · cases e; omega
      have HM := Lib.hid hm; clear hm
      clear hO3 hmr hOld
      go_wp2_with fail
      refine HC.out.mono ?_
      rintro e w3 ⟨rfl, hs3, hg3⟩
      clear HC
      have hV4 := HV3.out.grown hg3 HWV.out
      have c4 := hV4.cell (k := 2) rfl
      have hw4 : Own w3 w2.heap.size (.slice va m vc) (nats (whatOf s.came 8)) := by
        refine World.ownsRow.kept HO2.out hg3 ?_
        cases hob : (Value.slice va m vc).ownBlock with
        | none => exact .inl rfl
        | some g =>
          right
          intro e
          have h1 := HNEW.out g hob
          have h2 := HLT.out g e.symm
          omega
      have hB4 : Below w.heap.size w w3 := ((HALL.out.trans (HB3.out.mono HALL.out.size)).grown hg3 (by have := HALL.out.size; have := HB3.out.size; omega) (fun g e => Nat.le_trans hBz (HO.out.base g e)))
      have HS3 := Lib.hid hs3; clear hs3
      have HW4 := Lib.hid hw4; clear hw4
      have HB4 := Lib.hid hB4; clear hB4
      clear hV4 hg3 c2
      go_wp2_with fail
      refine (clip_any wa s.ws.length wc w3 hcap).mono ?_
      rintro e w4 ⟨rfl, rfl⟩
      go_wp2_with fail
      refine (clip_any va m vc w3 hvcap).mono ?_
      rintro e w5 ⟨rfl, rfl⟩
      go_wp2_with fail
      go_ret3
      have hsl : (sorted (nats s.ws)).length = s.ws.length := by rw [sorted_length]; simp [nats]
      obtain ⟨a1, c1, e1, hm1, _⟩ := HS3.out.myRow
      obtain ⟨a2, c2, e2, hm2, _⟩ := HW4.out.myRow
      rw [hsl] at e1 hm1
      cases e1
      rw [← HM.out] at e2 hm2
      cases e2
      refine ⟨wa, s.ws.length, va, m, rfl, hm1.clip.ints (by omega) (fun x hx => ?_), hm2.clip.ints (by omega) (fun x hx => ?_), ⟨w2.heap.size, HALL.out.size, ⟨hm1.len, Nat.le_refl _, fun e => ⟨(hm1.nil e).1, (hm1.nil e).1⟩, fun h => by obtain ⟨g', cur, r1, r2, r3⟩ := hm1.own h; exact ⟨g', cur, r1, Nat.le_trans hBz r2, r3⟩⟩, (fun b o e => HLT.out b (by rw [e]; rfl)), ⟨hm2.len, Nat.le_refl _, fun e => ⟨(hm2.nil e).1, (hm2.nil e).1⟩, hm2.own⟩⟩, HB4.out⟩
      · have := (sorted_perm _).mem_iff.1 hx
        obtain ⟨y, hy, rfl⟩ := List.mem_map.1 this
        have := HWS.out y hy
        omega
      · obtain ⟨y, hy, rfl⟩ := List.mem_map.1 hx
        have := List.mem_range.1 (List.mem_filter.1 hy).1
        omega
end Go.Proofs.YtkddkkcfpnndlaaGreatDoor
