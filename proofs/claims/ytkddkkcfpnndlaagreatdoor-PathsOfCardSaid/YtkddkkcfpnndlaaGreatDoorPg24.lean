/- Walks: the reference's paths: Reach. What the reference's More and Reach answer, as the program's do. -/
import Derived.Test.YtkddkkcfpnndlaaGreatDoorPg22
import Derived.Test.YtkddkkcfpnndlaaGreatDoorPg23
namespace Go.Proofs.YtkddkkcfpnndlaaGreatDoor
open Go.RowKit

set_option maxRecDepth 100000 in
theorem reach07_no (ga ha : Option Addr) (gn gc hn hc : Nat) (g : List (List Int)) (items start : Int) (has : List Int) (w : World) (hg : Rows w ga gn gc g) (hh : Ints w ha hn hc has) (hok : bOk g items has start = false) :
    Calls Tryz.prog 22 #[.slice ga gn gc, .int .i64 items, .slice ha hn hc, .int .i64 start] w fun e w' => e = .returned (.tuple #[.slice none 0 0, .slice none 0 0, .int .i64 1]) ∧ Below w.heap.size w w' := by
  have HC := Lib.hid (may07_any ga ha gn gc hn hc g items has start w hg hh)
  rw [hok] at HC
  clear hg hh hok
  go_enter Tryz.func22, Tryz.ntmps22
  go_wp2_with fail
  refine HC.out.mono ?_
  rintro e w1 ⟨rfl, hb⟩
  have HB := Lib.hid hb; clear hb
  go_wp2_with fail
  go_ret3
  exact ⟨rfl, HB.out⟩

/-- those below n that are in a list -/
def inOf (ws : List Nat) : Nat → List Nat
  | 0 => []
  | n + 1 => inOf ws n ++ if n ∈ ws then [n] else []
theorem inOf_length (ws : List Nat) : ∀ n, (inOf ws n).length ≤ n
  | 0 => Nat.le_refl _
  | n + 1 => by
    rw [inOf, List.length_append]
    have := inOf_length ws n
    split <;> simp <;> omega
theorem inOf_mem (ws : List Nat) : ∀ n k, k ∈ inOf ws n ↔ k < n ∧ k ∈ ws
  | 0, k => by simp [inOf]
  | n + 1, k => by
    rw [inOf, List.mem_append, inOf_mem ws n k]
    split
    · rename_i h
      rw [List.mem_singleton]
      constructor
      · rintro (⟨a, b⟩ | rfl)
        · exact ⟨by omega, b⟩
        · exact ⟨by omega, h⟩
      · rintro ⟨a, b⟩
        by_cases e : k = n
        · exact .inr e
        · exact .inl ⟨by omega, b⟩
    · rename_i h
      simp only [List.not_mem_nil, or_false]
      constructor
      · rintro ⟨a, b⟩; exact ⟨by omega, b⟩
      · rintro ⟨a, b⟩
        refine ⟨?_, b⟩
        by_cases e : k = n
        · exact absurd (e ▸ b) h
        · omega
/-- what the reference's Reach tells -/
def Reach07 (gn N : Nat) (s : Way.St) (w : World) (e : Ending) (w' : World) : Prop :=
  ∃ a1 n1 c1 a2 n2 c2, e = .returned (.tuple #[.slice a1 n1 c1, .slice a2 n2 c2, .int .i64 0]) ∧ Ints w' a1 n1 c1 (nats (inOf s.ws gn)) ∧ Ints w' a2 n2 c2 (nats (whatOf s.came N)) ∧ Below w.heap.size w w'

set_option maxRecDepth 100000 in
set_option maxHeartbeats 4000000 in
theorem reach07_yes (ga ha : Option Addr) (gn gc hn hc f N : Nat) (G : List (List Nat)) (has : List Int) (w : World) (hg : Rows w ga gn gc (G.map nats)) (hh : Ints w ha hn hc has) (hok : bOk (G.map nats) (N : Int) has f = true) :
    Calls Tryz.prog 22 #[.slice ga gn gc, .int .i64 N, .slice ha hn hc, .int .i64 f] w (Reach07 gn N (Way.full (nbOf G) (Way.holdTo (hasAt has) hn) f) w) := by
  have hb := bOk_parts hok
  have hN8 : N ≤ 8 := by
    have h := hok
    simp only [bOk, Bool.and_eq_true] at h
    have := (gcheck_parts (fitsB_parts h.1.1.1).1).2.1; omega
  have HC := Lib.hid (may07_any ga ha gn gc hn hc (G.map nats) N has f w hg hh)
  rw [hok] at HC
  have HSR := Lib.hid (fun w1 (hb1 : Below w.heap.size w w1) => search07_any true ga ha gn gc hn hc f N G has w1 (hg.below hb1 (Nat.le_refl _)) (hh.below hb1 (Nat.le_refl _)) hok)
  have hhl := hh.len
  have hgl := hg.len
  rw [List.length_map] at hgl
  have hgn8 : gn ≤ 8 := by have := hb.n8; omega
  have hHeld : Way.Held (nbOf G) (hasAt has) (Way.holdTo (hasAt has) hn) := hb.mat.held (by rw [hhl]; exact Nat.le_refl _)
  have h8 : ∀ w k, hasAt has w = some k → k < 8 := fun x k e => by
    have hk := hb.mat.fits x k e
    unfold nbOf at hk
    cases hGx : G[x]? with
    | none => rw [hGx] at hk; cases hk
    | some l => rw [hGx] at hk; exact hb.lists l (List.mem_of_getElem? hGx) k hk
  obtain ⟨s, hs⟩ : ∃ s, s = Way.full (nbOf G) (Way.holdTo (hasAt has) hn) f := ⟨_, rfl⟩
  have hI : Way.Inv (nbOf G) (hasAt has) f s := by rw [hs]; exact Way.full_inv hHeld hb.zero
  have hws : ∀ x, x ∈ s.ws → x < hn := fun x hx => by
    obtain ⟨j, hj⟩ := List.mem_iff_getElem?.1 hx
    cases j with
    | zero => have := hI.head; rw [this] at hj; cases hj; have := hb.lt; omega
    | succ j => obtain ⟨k', i, j', e1, _⟩ := hI.rest j x hj; have := hb.mat.lt x k' e1; omega
  have hlen : s.ws.length ≤ 9 := hI.length hHeld h8
  have hhn8 : hn ≤ 8 := by have := hb.len; have := hb.n8; omega
  have HSR2 := Lib.hid (fun w1 (hb1 : Below w.heap.size w w1) => by have h := HSR.out w1 hb1; rw [Way.full_none, ← hs] at h; exact h)
  rw [← hs]
  have HWS := Lib.hid hws; clear hws hI hb hHeld h8 hs HSR hgl hhl hg hh hok
  go_enter Tryz.func22, Tryz.ntmps22
  go_wp2_with fail
  refine HC.out.mono ?_
  rintro e w1 ⟨rfl, hb⟩
  have HB := Lib.hid hb; clear hb
  go_wp2_with fail
  refine (HSR2.out w1 HB.out).mono ?_
  rintro e w2 ⟨v1, v2, rfl, hO1, hO2, hb2⟩
  have HB2 := Lib.hid (HB.out.trans (hb2.mono HB.out.size)); clear hb2
  obtain ⟨a1, c1, e1, hi1⟩ := hO1.ints (by simp [nats]; omega) (fun x hx => by
    obtain ⟨k, hk, rfl⟩ := List.mem_map.1 hx
    have := HWS.out k hk
    omega)
  rw [show (nats s.ws).length = s.ws.length by simp [nats]] at e1 hi1
  subst e1
  have hcase : N = 0 ∨ ∃ b2 c2, v2 = .slice (some ⟨b2, 0, none⟩) N c2 ∧ b2 < w2.heap.size ∧ TabI w2 b2 (cameL N s.came) := by
    rcases hO2.2 with ⟨_, e0⟩ | ⟨g2, cap, cur, e, hb, hh, hle, _⟩
    · rw [cameL_length] at e0; exact .inl e0
    · rw [cameL_length] at e
      subst e
      exact .inr ⟨g2, cap, rfl, (Array.getElem?_eq_some_iff.1 hh).1, (Own.tab hO2).1⟩
  have HCA := Lib.hid hcase; clear hcase hO1 hO2
  have HI1 := Lib.hid hi1; clear hi1
  clear HC HSR2
  have hz2 := HB2.out.size
  go_wp2_with fail
  go_loopg [14, 16] gn (fun g' s14 s16 wr => ∃ (j : Nat) (v : Value), j + g' = gn ∧ s16 = .int .i64 j ∧ s14 = v ∧ Own wr w2.heap.size v (nats (inOf s.ws j)) ∧ Below w2.heap.size w2 wr)
  case atStart => exact ⟨0, _, by omega, rfl, rfl, Own.nil _ _, Below.refl _ _⟩
  case round =>
    obtain ⟨j, v, hj, rfl, hv, hO, hB⟩ := hrel
    replace hv := hv.symm
    subst hv
    obtain ⟨w3, rfl⟩ : ∃ w3, w3 = wr := ⟨_, rfl⟩
    have HJ := Lib.hid hj; clear hj
    have HO := Lib.hid hO; clear hO
    have hz3 := hB.size
    have HB3 := Lib.hid hB; clear hB
    by_cases hlt : j < gn
    · have i1 : (j : Int) < (gn : Int) := by omega
      have HH := Lib.hid (has06_any a1 s.ws.length c1 (nats s.ws) (j : Int) w3 (HI1.out.below HB3.out (Nat.le_refl _)))
      by_cases hm : j ∈ s.ws
      · have hcn : (nats s.ws).contains (j : Int) = true := by rw [List.contains_eq_mem, decide_eq_true_eq]; exact mem_nats.2 hm
        rw [hcn] at HH
        have hsu : inOf s.ws (j + 1) = inOf s.ws j ++ [j] := by rw [inOf, if_pos hm]
        have HSU := Lib.hid hsu; clear hsu hcn hm
        obtain ⟨zs, hzs⟩ : ∃ zs, zs = nats (inOf s.ws j) := ⟨_, rfl⟩
        have hzl : zs.length ≤ j := by rw [hzs]; simp only [nats, List.length_map]; exact inOf_length _ _
        rw [← hzs] at HO
        have HZ := Lib.hid hzs; clear hzs
        go_wp2_with fail
        refine HH.out.mono ?_
        rintro e w4 ⟨rfl, rfl⟩
        clear HH
        go_wp2_with (at_builtin; refine app1 _ rfl _ _ rfl w2.heap.size _ zs rfl (HO.out.alloc _) w3.heap.size 0 1 (j : Int) rfl (by simp [go_sem]) (by omega) (by simp; omega) ?_)
        intro g' cap' w' hown' hgr' hb'
        have HO3 := Lib.hid hown'; clear hown'
        have HB4 := Lib.hid ((HB3.out.alloc HB3.out.size (.cells #[.int .i64 (j : Int)] 3)).trans hb'); clear hb' hgr'
        go_wp2_with fail
        go_roundg (gk - 1)
        case measure => have := HJ.out; omega
        case rel => exact ⟨j + 1, _, by have := HJ.out; omega, by go_num, rfl, by rw [HSU.out, show nats (inOf s.ws j ++ [j]) = zs ++ [(j : Int)] by rw [HZ.out]; simp [nats]]; exact HO3.out, HB4.out⟩
      · have hcn : (nats s.ws).contains (j : Int) = false := by rw [List.contains_eq_mem, decide_eq_false_iff_not]; exact fun h => hm (mem_nats.1 h)
        rw [hcn] at HH
        have hsu : inOf s.ws (j + 1) = inOf s.ws j := by rw [inOf, if_neg hm, List.append_nil]
        have HSU := Lib.hid hsu; clear hsu hcn hm
        go_wp2_with fail
        refine HH.out.mono ?_
        rintro e w4 ⟨rfl, rfl⟩
        clear HH
        go_wp2_with fail
        go_roundg (gk - 1)
        case measure => have := HJ.out; omega
        case rel => exact ⟨j + 1, _, by have := HJ.out; omega, by go_num, rfl, by rw [HSU.out]; exact HO.out, HB3.out⟩
    obtain rfl : j = gn := by have := HJ.out; omega
    have hzl := inOf_length s.ws j
    obtain ⟨a3, c3, e3, hi3⟩ := HO.out.ints (by simp [nats]; omega) (fun x hx => by
      obtain ⟨k, hk, rfl⟩ := List.mem_map.1 hx
      have := ((inOf_mem _ _ _).1 hk).1
      omega)
    subst e3
    obtain ⟨n3, hn3⟩ : ∃ n3, n3 = (nats (inOf s.ws j)).length := ⟨_, rfl⟩
    rw [← hn3] at hi3 ⊢
    have HI3 := Lib.hid hi3; clear hi3 hn3 hzl HO
    go_wp2_with fail
    go_loopg [15, 17] N (fun g' s15 s17 wr => ∃ (k : Nat) (v : Value), k + g' = N ∧ s17 = .int .i64 k ∧ s15 = v ∧ Own wr w3.heap.size v (nats (whatOf s.came k)) ∧ Below w3.heap.size w3 wr)
    case atStart => exact ⟨0, _, by omega, rfl, rfl, Own.nil _ _, Below.refl _ _⟩
    case round =>
      obtain ⟨k, v, hk, rfl, hv, hO, hB⟩ := hrel
      replace hv := hv.symm
      subst hv
      obtain ⟨w4, rfl⟩ : ∃ w4, w4 = wr := ⟨_, rfl⟩
      have HK := Lib.hid hk; clear hk
      have HO := Lib.hid hO; clear hO
      have hz4 := hB.size
      have HB4 := Lib.hid hB; clear hB
      have hsu := whatOf_succ s.came k
      have hzl0 : (whatOf s.came k).length ≤ k := whatOf_length _ _
      by_cases hlt : k < N
      · have i1 : (k : Int) < (N : Int) := by omega
        rcases HCA.out with h0 | ⟨b2, c2, rfl, hb2, hT⟩
        · omega
        have hc := Tab.cell (Tab.below (Tab.below hT HB3.out hb2) HB4.out (by omega)) (k := k) (v := .int .i64 ((s.came k : Int) - 1)) (by rw [List.getElem?_map, cameL_get _ hlt]; rfl)
        obtain ⟨cm, hcm⟩ : ∃ cm, cm = s.came k := ⟨_, rfl⟩
        rw [← hcm] at hc hsu
        have HCM := Lib.hid hcm; clear hcm hT
        obtain ⟨zs, hzs⟩ : ∃ zs, zs = nats (whatOf s.came k) := ⟨_, rfl⟩
        have hzl : zs.length ≤ k := by rw [hzs]; simpa [nats] using hzl0
        rw [← hzs] at HO
        have HZ := Lib.hid hzs; clear hzs hzl0
        by_cases h0 : 0 < cm
        · rw [if_pos h0] at hsu
          have HSU := Lib.hid hsu; clear hsu
          have e6 : ((cm : Int) - 1 != -1) = true := by simp; omega
          go_wp2_with (at_builtin; refine app1 _ rfl _ _ rfl w3.heap.size _ zs rfl (HO.out.alloc _) w4.heap.size 0 1 (k : Int) rfl (by simp [go_sem]) (by omega) (by simp; omega) ?_)
          intro g' cap' w' hown' hgr' hb'
          have HO3 := Lib.hid hown'; clear hown'
          have HB5 := Lib.hid ((HB4.out.alloc HB4.out.size (.cells #[.int .i64 (k : Int)] 3)).trans hb'); clear hb' hgr'
          go_wp2_with fail
          go_roundg (gk - 1)
          case measure => have := HK.out; omega
          case rel => exact ⟨k + 1, _, by have := HK.out; omega, by go_num, rfl, by rw [HSU.out, show nats (whatOf s.came k ++ [k]) = zs ++ [(k : Int)] by rw [HZ.out]; simp [nats]]; exact HO3.out, HB5.out⟩
        · rw [if_neg h0, List.append_nil] at hsu
          have HSU := Lib.hid hsu; clear hsu
          obtain rfl : cm = 0 := by omega
          have hc0 : w4.cell? ⟨b2, k, none⟩ = some (.int .i64 (-1)) := hc
          clear hc
          go_wp2_with fail
          go_roundg (gk - 1)
          case measure => have := HK.out; omega
          case rel => exact ⟨k + 1, _, by have := HK.out; omega, by go_num, rfl, by rw [HSU.out, ← HZ.out]; exact HO.out, HB4.out⟩
      obtain rfl : k = N := by have := HK.out; omega
      obtain ⟨a5, c5, e5, hi5⟩ := HO.out.ints (by simp [nats]; omega) (fun x hx => by
        obtain ⟨z, hz, rfl⟩ := List.mem_map.1 hx
        have := List.mem_range.1 (List.mem_filter.1 hz).1
        omega)
      subst e5
      have HI5 := Lib.hid hi5; clear hi5 HO
      have HI3' := Lib.hid (HI3.out.below HB4.out (Nat.le_refl _)); clear HI3
      have HBW := Lib.hid ((HB2.out.trans (HB3.out.mono hz2)).trans (HB4.out.mono (by omega)))
      clear hsu hzl0
      go_wp2_with fail
      go_ret3
      exact ⟨_, _, _, _, _, _, rfl, HI3'.out, HI5.out, HBW.out⟩
end Go.Proofs.YtkddkkcfpnndlaaGreatDoor

namespace Go.Proofs.YtkddkkcfpnndlaaGreatDoor
open Go.RowKit

theorem inOf_pair (ws : List Nat) : ∀ n, (inOf ws n).Pairwise (· < ·)
  | 0 => List.Pairwise.nil
  | n + 1 => by
    rw [inOf, List.pairwise_append]
    refine ⟨inOf_pair ws n, ?_, fun a ha b hb => ?_⟩
    · split
      · exact List.pairwise_singleton _ _
      · exact List.Pairwise.nil
    · have h1 := ((inOf_mem ws n a).1 ha).1
      split at hb
      · rw [List.mem_singleton] at hb; omega
      · cases hb
theorem sorted_inOf {ws : List Nat} {n : Nat} (hnd : ws.Nodup) (hlt : ∀ k, k ∈ ws → k < n) : sorted (nats ws) = nats (inOf ws n) := by
  have hnd2 : (inOf ws n).Nodup := (inOf_pair ws n).imp (fun h => Nat.ne_of_lt h)
  have hp : ws.Perm (inOf ws n) := (List.perm_ext_iff_of_nodup hnd hnd2).2 fun a => by
    rw [inOf_mem]
    exact ⟨fun h => ⟨hlt a h, h⟩, fun h => h.2⟩
  have hs : (nats (inOf ws n)).Pairwise (· ≤ ·) := by
    unfold nats
    rw [List.pairwise_map]
    exact (inOf_pair ws n).imp (fun h => by omega)
  exact ((sorted_perm _).trans (hp.map _)).eq_of_pairwise (fun _ _ _ _ h1 h2 => Int.le_antisymm h1 h2) (sorted_pair _) hs
theorem whatOf_top {came : Nat → Nat} {n : Nat} (h : ∀ k, n ≤ k → came k = 0) : ∀ d, whatOf came (n + d) = whatOf came n
  | 0 => rfl
  | d + 1 => by
    rw [← Nat.add_assoc, whatOf_succ, whatOf_top h d, h (n + d) (by omega)]
    simp

/-- what Reach tells: who, and what -/
def ReachR (l1 l2 : List Int) (w : World) (e : Ending) (w' : World) : Prop :=
  ∃ a1 n1 c1 a2 n2 c2, e = .returned (.tuple #[.slice a1 n1 c1, .slice a2 n2 c2, .int .i64 0]) ∧ Ints w' a1 n1 c1 l1 ∧ Ints w' a2 n2 c2 l2 ∧ Below w.heap.size w w'
theorem reach07_ans (ga ha : Option Addr) (gn gc hn hc f N : Nat) (G : List (List Nat)) (has : List Int) (w : World) (hg : Rows w ga gn gc (G.map nats)) (hh : Ints w ha hn hc has) (hok : bOk (G.map nats) (N : Int) has f = true) :
    Calls Tryz.prog 22 #[.slice ga gn gc, .int .i64 N, .slice ha hn hc, .int .i64 f] w (ReachR (sorted (nats (reachOf G has f).ws)) (nats (whatOf (reachOf G has f).came 8)) w) := by
  have hb := bOk_parts hok
  have hhl := hh.len
  have hgl := hg.len
  rw [List.length_map] at hgl
  have hp : 0 ≤ (N : Int) ∧ (N : Int) ≤ 8 ∧ ∀ l, l ∈ G → ∀ k, k ∈ l → k < N := by
    have h := hok
    simp only [bOk, Bool.and_eq_true] at h
    have hq := gcheck_parts (fitsB_parts h.1.1.1).1
    exact ⟨hq.1, hq.2.1, fun l hl k hk => by have := risesFrom_bd (hq.2.2.2 (nats l) (List.mem_map.2 ⟨l, hl, rfl⟩)) (k : Int) (mem_nats.2 hk); omega⟩
  have hHeld : Way.Held (nbOf G) (hasAt has) (Way.holdTo (hasAt has) hn) := hb.mat.held (by rw [hhl]; exact Nat.le_refl _)
  obtain ⟨s, hs⟩ : ∃ s, s = Way.full (nbOf G) (Way.holdTo (hasAt has) hn) f := ⟨_, rfl⟩
  have hr : reachOf G has f = s := by rw [reachOf, hhl, hs]
  have hI : Way.Inv (nbOf G) (hasAt has) f s := by rw [hs]; exact Way.full_inv hHeld hb.zero
  have hws : ∀ x, x ∈ s.ws → x < gn := fun x hx => by
    obtain ⟨j, hj⟩ := List.mem_iff_getElem?.1 hx
    cases j with
    | zero => have := hI.head; rw [this] at hj; cases hj; have := hb.lt; have := hb.len; omega
    | succ j => obtain ⟨k', i, j', e1, _⟩ := hI.rest j x hj; have := hb.mat.lt x k' e1; have := hb.len; omega
  have hz : ∀ k, N ≤ k → s.came k = 0 := fun k hk => by
    rcases Nat.eq_zero_or_pos (s.came k) with h | h
    · exact h
    · obtain ⟨i, hi⟩ : ∃ i, s.came k = i + 1 := ⟨s.came k - 1, by omega⟩
      have hkn := (hI.came k i hi).1
      unfold nbOf at hkn
      cases hGx : G[i]? with
      | none => rw [hGx] at hkn; cases hkn
      | some l => rw [hGx] at hkn; have := hp.2.2 l (List.mem_of_getElem? hGx) k hkn; omega
  have h1 := sorted_inOf hI.nodup hws
  have h2 := whatOf_top hz (8 - N)
  rw [show N + (8 - N) = 8 by omega] at h2
  rw [hr, h1, h2]
  have h := reach07_yes ga ha gn gc hn hc f N G has w hg hh hok
  rw [← hs] at h
  exact h
end Go.Proofs.YtkddkkcfpnndlaaGreatDoor
