/- Walks: the reference's paths: the search. Walks: the reference's paths: More. -/
import Derived.Test.YtkddkkcfpnndlaaGreatDoorPg21
import Derived.Test.YtkddkkcfpnndlaaGreatDoorPg20
import Derived.Test.YtkddkkcfpnndlaaGreatDoorPg05
import Derived.Test.YtkddkkcfpnndlaaGreatDoorPg19
import Derived.Laws.OwnMore
namespace Go.Proofs.YtkddkkcfpnndlaaGreatDoor
open Go.RowKit

theorem hasAt_get {has : List Int} {i k : Nat} (hbd : ∀ x, x ∈ has → -1 ≤ x ∧ x < 8) (h : hasAt has i = some k) : has[i]? = some (k : Int) := by
  unfold hasAt at h
  cases hx : has[i]? with
  | none => rw [hx] at h; cases h
  | some x =>
    rw [hx] at h
    simp only at h
    by_cases e : x = -1
    · rw [if_pos e] at h; cases h
    · rw [if_neg e] at h
      have := hbd x (List.mem_of_getElem? hx)
      have h2 := Option.some.inj h
      congr 1; omega
theorem holdR_is {has : List Int} {hn k : Nat} {r : Int} (h : HoldR has (k : Int) r) (hl : has.length = hn) (hbd : ∀ x, x ∈ has → -1 ≤ x ∧ x < 8) (hinj : ∀ w w' k, hasAt has w = some k → hasAt has w' = some k → w = w') :
    r = (Way.holdTo (hasAt has) hn k : Int) - 1 := by
  rcases h with ⟨rfl, h⟩ | ⟨i, rfl, hx, _⟩
  · rw [Way.holdTo_zero (fun i e => h _ (List.mem_of_getElem? (hasAt_get hbd e)) rfl)]; rfl
  · have hi : i < hn := by rw [← hl]; exact (List.getElem?_eq_some_iff.1 hx).1
    rw [Way.holdTo_of hinj hi (by rw [hasAt_of hx, if_neg (by omega), Int.toNat_natCast])]
    omega
/-- from where each item was come to -/
def cameL (N : Nat) (came : Nat → Nat) : List Int := (List.range N).map fun k => (came k : Int) - 1
theorem cameL_length (N : Nat) (came : Nat → Nat) : (cameL N came).length = N := by simp [cameL]
theorem cameL_get {N k : Nat} (came : Nat → Nat) (h : k < N) : (cameL N came)[k]? = some ((came k : Int) - 1) := by simp [cameL, h]
theorem cameL_zero (N : Nat) : cameL N (fun _ => 0) = List.replicate N (-1) := by
  apply List.ext_getElem?
  intro j
  by_cases h : j < N
  · rw [cameL_get _ h, List.getElem?_replicate, if_pos h]; rfl
  · rw [List.getElem?_eq_none (by rw [cameL_length]; omega), List.getElem?_eq_none (by simp; omega)]
theorem cameL_mark (N : Nat) (came : Nat → Nat) (k who : Nat) : (cameL N came).set k (who : Int) = cameL N (Way.mark came k (who + 1)) := by
  apply List.ext_getElem?
  intro j
  by_cases h : j < N
  · rw [cameL_get _ h]
    by_cases e : k = j
    · subst e
      rw [List.getElem?_set_self (by rw [cameL_length]; exact h), Way.mark_same]
      congr 1; omega
    · rw [List.getElem?_set_ne e, cameL_get _ h, Way.mark_other (fun e' => e e'.symm)]
  · rw [List.getElem?_eq_none (by rw [List.length_set, cameL_length]; omega), List.getElem?_eq_none (by rw [cameL_length]; omega)]
/-- what the search leaves -/
def Search07 (N : Nat) (r : Way.St × Option Nat) (w : World) (e : Ending) (w' : World) : Prop :=
  ∃ v1 v2, e = .returned (.tuple #[v1, v2, .int .i64 (itm r.2)]) ∧ Own w' w.heap.size v1 (nats r.1.ws) ∧ Own w' w.heap.size v2 (cameL N r.1.came) ∧ Below w.heap.size w w'

set_option maxRecDepth 100000 in
set_option maxHeartbeats 4000000 in
theorem search07_any (all : Bool) (ga ha : Option Addr) (gn gc hn hc f N : Nat) (G : List (List Nat)) (has : List Int) (w : World) (hg : Rows w ga gn gc (G.map nats)) (hh : Ints w ha hn hc has) (hok : bOk (G.map nats) (N : Int) has f = true) :
    Calls Tryz.prog 96 #[.slice ga gn gc, .int .i64 N, .slice ha hn hc, .int .i64 f, .bool all] w (Search07 N (Way.goes (nbOf G) (Way.holdTo (hasAt has) hn) all 9 0 ⟨[f], fun _ => 0⟩) w) := by
  have hb := bOk_parts hok
  have hN8 : N ≤ 8 := by
    simp only [bOk, Bool.and_eq_true] at hok
    have := (gcheck_parts (fitsB_parts hok.1.1.1).1).2.1; omega
  have hGN : ∀ l, l ∈ G → ∀ k, k ∈ l → k < N := fun l hl k hk => by
    simp only [bOk, Bool.and_eq_true] at hok
    have := risesFrom_bd ((gcheck_parts (fitsB_parts hok.1.1.1).1).2.2.2 (nats l) (List.mem_map.2 ⟨l, hl, rfl⟩)) (k : Int) (mem_nats.2 hk)
    omega
  have hgl := hg.len
  rw [List.length_map] at hgl
  have hhl := hh.len
  have hgn : gn ≤ 8 := by have := hb.n8; omega
  have hfg : f < gn := by have := hb.lt; have := hb.len; omega
  have hhg : hn = gn := by have := hb.len; omega
  subst hhg
  have hHeld : Way.Held (nbOf G) (hasAt has) (Way.holdTo (hasAt has) hn) := hb.mat.held (by rw [hhl]; exact Nat.le_refl _)
  have hlt : ∀ x k, hasAt has x = some k → x < hn := fun x k e => by have := hb.mat.lt x k e; omega
  have h8 : ∀ x k, hasAt has x = some k → k < 8 := fun x k e => by
    have hk := hHeld.fits x k e
    unfold nbOf at hk
    cases hGx : G[x]? with
    | none => rw [hGx] at hk; cases hk
    | some l => rw [hGx] at hk; exact hb.lists l (List.mem_of_getElem? hGx) k hk
  have HG := Lib.hid hg; clear hg
  have HHI := Lib.hid hh; clear hh
  have HBO := Lib.hid hb; clear hb hok
  have HGN := Lib.hid hGN; clear hGN
  have HGL := Lib.hid (And.intro hgl hhl); clear hgl hhl
  have HH := Lib.hid hHeld; clear hHeld
  have HLT := Lib.hid hlt; clear hlt
  have H8 := Lib.hid h8; clear h8
  have HI0 := Lib.hid (Way.Inv.start (nb := nbOf G) (has := hasAt has) (start := f))
  obtain ⟨hold, hhold⟩ : ∃ hold, hold = Way.holdTo (hasAt has) hn := ⟨_, rfl⟩
  rw [← hhold] at HH ⊢
  have HHO := Lib.hid hhold; clear hhold
  obtain ⟨R, hR⟩ : ∃ R, R = Way.goes (nbOf G) hold all 9 0 ⟨[f], fun _ => 0⟩ := ⟨_, rfl⟩
  rw [← hR]
  have HR := Lib.hid hR; clear hR
  go_enter Tryz.func96, Tryz.ntmps96
  go_wp2_with fail
  go_loopg [11, 13] N (fun g' s11 s13 wr => ∃ (k : Nat) (v3 : Value), k + g' = N ∧ s13 = .int .i64 k ∧ s11 = v3 ∧ Own wr w.heap.size v3 (List.replicate k (-1)) ∧ Below w.heap.size w wr)
  case atStart => exact ⟨0, _, by omega, rfl, rfl, by simp [Own, World.ownsRow], Below.refl _ _⟩
  case round =>
    obtain ⟨k, v3, hk, rfl, hv3, hO, hB⟩ := hrel
    replace hv3 := hv3.symm
    subst hv3
    have HK := Lib.hid hk; clear hk
    have HO := Lib.hid hO; clear hO
    have hbs := hB.size
    have HB := Lib.hid hB; clear hB
    by_cases hlt : k < N
    · obtain ⟨zs, hzs⟩ : ∃ zs, zs = List.replicate k (-1 : Int) := ⟨_, rfl⟩
      have hzl : zs.length = k := by rw [hzs]; simp
      rw [← hzs] at HO
      have HZ := Lib.hid hzs; clear hzs
      have HZL := Lib.hid hzl; clear hzl
      have i1 : (k : Int) < (N : Int) := by omega
      go_wp2_with (at_builtin; refine app1 _ rfl _ _ rfl w.heap.size _ zs rfl (HO.out.alloc _) wr.heap.size 0 1 (-1) rfl (by simp [go_sem]) (by rw [HZL.out]; omega) (by simp; omega) ?_)
      intro g' cap' w' hown' hgr' hb'
      have HO3 := Lib.hid hown'; clear hown'
      have HB3 := Lib.hid ((HB.out.alloc HB.out.size (.cells #[.int .i64 (-1)] 3)).trans hb'); clear hb' hgr'
      go_wp2_with fail
      go_roundg (gk - 1)
      case measure => have := HK.out; omega
      case rel => exact ⟨k + 1, _, by have := HK.out; omega, by go_num, rfl, by rw [List.replicate_succ', ← HZ.out]; exact HO3.out, HB3.out⟩
    obtain rfl : k = N := by have := HK.out; omega
    obtain ⟨w1, rfl⟩ : ∃ w1, w1 = wr := ⟨_, rfl⟩
    have ho1 : Own (w1.alloc (.cells #[.int .i64 (f : Int)] 3)) w.heap.size (.slice (some ⟨w1.heap.size, 0, none⟩) 1 1) (nats [f]) :=
      ⟨rfl, .inr ⟨w1.heap.size, 1, #[.int .i64 (f : Int)], rfl, hbs, heap_alloc_new w1 _, Nat.le_refl _, by unfold maxLen; omega, rfl, rfl⟩⟩
    have ho2 : Own (w1.alloc (.cells #[.int .i64 (f : Int)] 3)) w.heap.size v3 (cameL k fun _ => 0) := by rw [cameL_zero]; exact HO.out.alloc _
    have hne : v3.ownBlock ≠ some w1.heap.size := fun e => by
      have := (World.ownsRow.lt HO.out _ e).2; omega
    have HO1 := Lib.hid ho1; clear ho1
    have HO2 := Lib.hid ho2; clear ho2
    have HNE := Lib.hid hne; clear hne
    have HB1 := Lib.hid (HB.out.alloc HB.out.size (.cells #[.int .i64 (f : Int)] 3)); clear HB
    clear HO
    go_wp2_with fail
    go_loopg [10, 11, 12, 14, 15, 16, 17, 18] 9 (fun g' s10 s11 s12 s14 s15 s16 s17 s18 wr => ∃ (n : Nat) (s : Way.St) (b1 c1 : Nat), n + g' = 9 ∧ s14 = .int .i64 n ∧ s10 = .slice (some ⟨b1, 0, none⟩) s.ws.length c1 ∧ s11 = v3 ∧ R = Way.goes (nbOf G) hold all g' n s ∧ Own wr w.heap.size (.slice (some ⟨b1, 0, none⟩) s.ws.length c1) (nats s.ws) ∧ Own wr w.heap.size v3 (cameL k s.came) ∧ v3.ownBlock ≠ some b1 ∧ Below w.heap.size w wr ∧ Way.Inv (nbOf G) (hasAt has) f s)
    case atStart => exact ⟨0, ⟨[f], fun _ => 0⟩, _, _, by omega, rfl, rfl, rfl, HR.out, HO1.out, HO2.out, HNE.out, HB1.out, HI0.out⟩
    case round =>
      obtain ⟨n, s, b1, c1, hn', rfl, rfl, hv3, hr, hO1, hO2, hne, hB, hI⟩ := hrel
      replace hv3 := hv3.symm
      subst hv3
      obtain ⟨w2, rfl⟩ : ∃ w2, w2 = wr := ⟨_, rfl⟩
      have hlen : s.ws.length ≤ 9 := hI.length HH.out H8.out
      have hwsl : ∀ k, k ∈ s.ws → k < hn := fun k hk => by
        obtain ⟨j, hj⟩ := List.mem_iff_getElem?.1 hk
        cases j with
        | zero => rw [hI.head] at hj; cases hj; exact hfg
        | succ j => obtain ⟨k', i, j', e1, _⟩ := hI.rest j k hj; exact HLT.out k k' e1
      obtain ⟨a1', c1', e1', hwi⟩ := hO1.ints (by simp [nats]; omega) (fun x hx => by
        obtain ⟨k, hk, rfl⟩ := List.mem_map.1 hx
        have := hwsl k hk
        omega)
      rw [show (nats s.ws).length = s.ws.length by simp [nats]] at hwi e1'
      cases e1'
      have HN := Lib.hid hn'; clear hn'
      have HRR := Lib.hid hr; clear hr
      have HO1' := Lib.hid hO1; clear hO1
      have HO2' := Lib.hid hO2; clear hO2
      have HNE' := Lib.hid hne; clear hne
      have HB2 := Lib.hid hB; clear hB
      have HI := Lib.hid hI; clear hI
      have HWSL := Lib.hid hwsl; clear hwsl
      by_cases hlt : n < s.ws.length
      · obtain ⟨who, hwho⟩ : ∃ who, s.ws[n]? = some who := ⟨_, List.getElem?_eq_getElem hlt⟩
        have hwl : who < hn := HWSL.out who (List.mem_of_getElem? hwho)
        have cw := hwi.cell b1 0 rfl n (who : Int) (by simp [nats, hwho])
        rw [Nat.zero_add] at cw
        obtain ⟨row, hrow⟩ := HG.out.get hwl
        obtain ⟨bg, og, rfl⟩ := HG.out.addr (by omega)
        obtain ⟨L, hL, rfl⟩ : ∃ L, G[who]? = some L ∧ row = nats L := by
          rw [List.getElem?_map] at hrow
          cases hGw : G[who]? with
          | none => rw [hGw] at hrow; cases hrow
          | some L => rw [hGw] at hrow; cases hrow; exact ⟨L, rfl, rfl⟩
        obtain ⟨la, ln, lc, hcl0, hli⟩ := HG.out.cell bg og rfl who (nats L) hrow
        have hnb : nbOf G who = L := by simp [nbOf, hL]
        have hLk := HGN.out L (List.mem_of_getElem? hL)
        have hln : L.length = ln := by have := hli.len; simpa [nats] using this
        have hlb := hli.big
        have HCL := Lib.hid hcl0; clear hcl0 hrow
        have HLI := Lib.hid hli; clear hli hL
        have HNB := Lib.hid hnb; clear hnb
        have HLK := Lib.hid hLk; clear hLk
        have HLN := Lib.hid hln; clear hln
        have HWHO := Lib.hid hwho; clear hwho hwi
        have i1 : (n : Int) < (s.ws.length : Int) := by omega
        have i2 : (who : Int) < (hn : Int) := by omega
        obtain ⟨go, hgo⟩ : ∃ go : Nat, gk = go + 1 := ⟨gk - 1, by have := HN.out; omega⟩
        have hrr1 := HRR.out
        rw [hgo] at hrr1
        have HRR1 := Lib.hid hrr1; clear hrr1 HRR
        have hn9 : n + 1 + go = 9 := by have := HN.out; omega
        have HGO := Lib.hid hgo; clear hgo
        have HN9 := Lib.hid hn9; clear hn9
        go_wp2_with fail
        clear cw
        go_loopg [10, 11, 12, 16, 17, 18] ln (fun g' s10 s11 s12 s16 s17 s18 wr => ∃ (j : Nat) (s1 : Way.St) (b1 c1 : Nat), j + g' = ln ∧ s16 = .int .i64 j ∧ s10 = .slice (some ⟨b1, 0, none⟩) s1.ws.length c1 ∧ s11 = v3 ∧ Way.scan hold all who (L.take j) s = (s1, none) ∧ Own wr w.heap.size (.slice (some ⟨b1, 0, none⟩) s1.ws.length c1) (nats s1.ws) ∧ Own wr w.heap.size v3 (cameL k s1.came) ∧ v3.ownBlock ≠ some b1 ∧ Below w.heap.size w wr ∧ Way.Inv (nbOf G) (hasAt has) f s1 ∧ Way.Grows s s1)
        case atStart => exact ⟨0, s, b1, c1, by omega, rfl, rfl, rfl, rfl, HO1'.out, HO2'.out, HNE'.out, HB2.out, HI.out, Way.Grows.refl _⟩
        case round =>
          clear HO1' HO2' HNE'
          obtain ⟨j, s1, b3, c3, hj, rfl, rfl, hv3, hsc, hO1, hO2, hne, hB, hI, hGr⟩ := hrel
          replace hv3 := hv3.symm
          subst hv3
          obtain ⟨w4, rfl⟩ : ∃ w4, w4 = wr := ⟨_, rfl⟩
          have HJ := Lib.hid hj; clear hj
          have HSC := Lib.hid hsc; clear hsc
          have hlen1 : s1.ws.length ≤ 9 := hI.length HH.out H8.out
          have hcl : w4.cell? ⟨bg, og + who, none⟩ = some (.slice la ln lc) := cell_step hB HCL.out
          have hli := HLI.out.below hB (Nat.le_refl _)
          have hmem : who ∈ s1.ws := List.mem_of_getElem? (hGr.at HWHO.out)
          have HO1 := Lib.hid hO1; clear hO1
          have HO2 := Lib.hid hO2; clear hO2
          have HNE := Lib.hid hne; clear hne
          have hbs4 := hB.size
          have HB4 := Lib.hid hB; clear hB
          have HI1 := Lib.hid hI; clear hI
          have HG1 := Lib.hid hGr; clear hGr
          have HME := Lib.hid hmem; clear hmem
          by_cases hlj : j < ln
          · obtain ⟨q, hq⟩ : ∃ q, L[j]? = some q := ⟨_, List.getElem?_eq_getElem (by rw [HLN.out]; exact hlj)⟩
            have hqk : q < k := HLK.out q (List.mem_of_getElem? hq)
            have hqn : q ∈ nbOf G who := by rw [HNB.out]; exact List.mem_of_getElem? hq
            have hsn := Way.scan_snoc HSC.out q
            have htk : L.take (j + 1) = L.take j ++ [q] := by rw [List.take_add_one, hq]; rfl
            rw [← htk] at hsn
            have hI2 := HI1.out.step HH.out HBO.out.zero all HME.out hqn
            have hG2 := HG1.out.trans (Way.Grows.step hold all who s1 q)
            obtain ⟨lb, lo, rfl⟩ := HLI.out.addr (by omega)
            have hck := hli.cell lb lo rfl j (q : Int) (by simp [nats, hq])
            obtain ⟨b2, c2, rfl, hb2lt⟩ : ∃ b2 c2, v3 = .slice (some ⟨b2, 0, none⟩) k c2 ∧ b2 < w4.heap.size := by
              rcases HO2.out.2 with ⟨_, e0⟩ | ⟨g2, cap, cur, e, hb, hh, hle, _⟩
              · rw [cameL_length] at e0; omega
              · rw [cameL_length] at e; exact ⟨g2, cap, e, (Array.getElem?_eq_some_iff.1 hh).1⟩
            have htab := Own.tab HO2.out
            have cc := Tab.cell htab.1 (k := q) (v := .int .i64 ((s1.came q : Int) - 1)) (by rw [List.getElem?_map, cameL_get _ hqk]; rfl)
            have hbase2 := htab.2
            have hfz := World.ownsRow.frozenAt (show w4.ownsRow w.heap.size 3 1 (.slice (some ⟨b2, 0, none⟩) (cameL k s1.came).length c2) (cameL k s1.came).length ((cameL k s1.came).map (Value.int .i64)) by rw [cameL_length]; have h := HO2.out; unfold Own at h; rw [cameL_length] at h; exact h) q
            clear htab
            have HSN := Lib.hid hsn; clear hsn
            have HTK := Lib.hid htk; clear htk
            have HI2 := Lib.hid hI2; clear hI2
            have HG2 := Lib.hid hG2; clear hG2
            have HQ := Lib.hid hq; clear hq
            have HQN := Lib.hid hqn; clear hqn
            clear hli
            have i4 : (j : Int) < (ln : Int) := by omega
            have i5 : (q : Int) < (k : Int) := by omega
            obtain ⟨cm, hcm⟩ : ∃ cm, cm = s1.came q := ⟨_, rfl⟩
            rw [← hcm] at cc
            have HCM := Lib.hid hcm; clear hcm
            by_cases h1 : 0 < cm
            · have hst1 : Way.step hold all who s1 q = (s1, none) := by unfold Way.step; rw [if_pos (by rw [← HCM.out]; exact h1)]
              have HST := Lib.hid hst1; clear hst1
              have e6 : ((cm : Int) - 1 != -1) = true := by simp; omega
              go_wp2_with fail
              go_roundg (gk - 1)
              case measure => have := HJ.out; omega
              case rel => exact ⟨j + 1, s1, b3, c3, by have := HJ.out; omega, by go_num, rfl, rfl, by rw [HSN.out, HST.out], HO1.out, HO2.out, HNE.out, HB4.out, HI1.out, HG1.out⟩
            · obtain rfl : cm = 0 := by omega
              have hbne : b2 ≠ b3 := fun e => HNE.out (by rw [e]; rfl)
              have ho2 : Own (w4.setCell ⟨b2, q, none⟩ (.int .i64 (who : Int))) w.heap.size (.slice (some ⟨b2, 0, none⟩) k c2) (cameL k (Way.mark s1.came q (who + 1))) := by
                have h := HO2.out
                unfold Own at h ⊢
                rw [← cameL_mark]
                rw [List.length_set, cameL_length] at *
                rw [List.map_set]
                exact (World.ownsRow.stored h q (.int .i64 (who : Int))).1
              have ho1 := HO1.out.apart (a := ⟨b2, q, none⟩) (fun e => hbne (Option.some.inj e).symm) (.int .i64 (who : Int))
              have hb5 : Below w.heap.size w (w4.setCell ⟨b2, q, none⟩ (.int .i64 (who : Int))) := HB4.out.setCell (p := ⟨b2, q, none⟩) hbase2 _
              obtain ⟨w5, hw5⟩ : ∃ w5, w5 = w4.setCell ⟨b2, q, none⟩ (.int .i64 (who : Int)) := ⟨_, rfl⟩
              rw [← hw5] at ho2 ho1 hb5
              have hz5 : w5.heap.size = w4.heap.size := by rw [hw5]; simp
              have HZ5 := Lib.hid hz5; clear hz5
              have HO25 := Lib.hid ho2; clear ho2
              have HO15 := Lib.hid ho1; clear ho1
              have HB5 := Lib.hid hb5; clear hb5
              have hw5' := hw5.symm
              clear hw5
              have e6 : ((((0 : Nat) : Int) - 1) != -1) = false := by decide
              have cc0 : w4.cell? ⟨b2, q, none⟩ = some (.int .i64 (-1)) := cc
              clear cc
              go_wp2_with fail
              try rw [hw5']
              clear hw5' cc0 hfz hck hcl
              refine (holder07_any ha hn hc has (q : Int) w5 (HHI.out.below HB5.out (Nat.le_refl _))).mono ?_
              rintro e w6 ⟨rv, rfl, hrv, rfl⟩
              have hrv' := holdR_is hrv HGL.out.2 HBO.out.bd HBO.out.mat.inj
              rw [← HHO.out] at hrv'
              obtain ⟨hd, hhd⟩ : ∃ hd, hd = hold q := ⟨_, rfl⟩
              rw [← hhd] at hrv'
              have HHD := Lib.hid hhd; clear hhd hrv
              have HRV := Lib.hid hrv'; clear hrv'
              by_cases h2 : 0 < hd
              · have hdl : hd ≤ hn := by
                  have h4 := (HH.out.hold q (hd - 1)).1 (by rw [← HHD.out]; omega)
                  have := HLT.out _ _ h4
                  omega
                have e7 : (rv != -1) = true := by have := HRV.out; simp; omega
                have hrb : 0 ≤ rv ∧ rv ≤ 8 := by have := HRV.out; omega
                obtain ⟨zs, hzs⟩ : ∃ zs, zs = nats s1.ws := ⟨_, rfl⟩
                have hzl : zs.length = s1.ws.length := by rw [hzs]; simp [nats]
                rw [← hzs] at HO15
                have HZ := Lib.hid hzs; clear hzs
                have HZL := Lib.hid hzl; clear hzl
                have hst1 : Way.step hold all who s1 q = (⟨s1.ws ++ [hold q - 1], Way.mark s1.came q (who + 1)⟩, none) := by unfold Way.step; rw [if_neg (by rw [← HCM.out]; omega), if_pos (by rw [← HHD.out]; exact h2)]
                have HST := Lib.hid hst1; clear hst1
                go_wp2_with (at_builtin; refine app1at _ rfl _ _ rfl w.heap.size (.slice (some ⟨b3, 0, none⟩) s1.ws.length c3) zs rfl (HO15.out.alloc _) w5.heap.size 0 1 rv rfl (by simp [go_sem]) (by rw [HZL.out]; omega) (by have := HZ5.out; simp; omega) ?_)
                intro g' cap' w6 hown' hgr' hb' hat'
                rw [HZL.out] at hown' ⊢
                have ho2' : Own w6 w.heap.size (.slice (some ⟨b2, 0, none⟩) k c2) (cameL k (Way.mark s1.came q (who + 1))) := World.ownsRow.kept (HO25.out.alloc _) hgr' (.inr (fun e => hbne (Option.some.inj e)))
                have hne' : (Value.slice (some ⟨b2, 0, none⟩) k c2).ownBlock ≠ some g' := fun e => by
                  have e' : b2 = g' := Option.some.inj e
                  rcases hat' with h | h
                  · exact hbne (e'.trans (Option.some.inj h).symm)
                  · have h5 := HZ5.out
                    have h6 : (w5.alloc (.cells #[.int .i64 rv] 3)).heap.size = w5.heap.size + 1 := by simp
                    omega
                have HO26 := Lib.hid ho2'; clear ho2'
                have HNE6 := Lib.hid hne'; clear hne' hat' hgr'
                have HOW := Lib.hid hown'; clear hown'
                have HB6 := Lib.hid ((HB5.out.alloc HB5.out.size (.cells #[.int .i64 rv] 3)).trans hb'); clear hb'
                go_wp2_with fail
                go_roundg (gk - 1)
                case measure => have := HJ.out; omega
                case rel =>
                  have e1 : (Way.step hold all who s1 q).1 = ⟨s1.ws ++ [hold q - 1], Way.mark s1.came q (who + 1)⟩ := by rw [HST.out]
                  have e2 : nats (s1.ws ++ [hold q - 1]) = zs ++ [rv] := by
                    rw [HZ.out, HRV.out, HHD.out]
                    have : 0 < hold q := by rw [← HHD.out]; exact h2
                    simp [nats]; omega
                  have e3 : (s1.ws ++ [hold q - 1]).length = s1.ws.length + 1 := by simp
                  exact ⟨j + 1, ⟨s1.ws ++ [hold q - 1], Way.mark s1.came q (who + 1)⟩, g', cap', by have := HJ.out; omega, by go_num, by rw [e3], rfl, by rw [HSN.out, HST.out], by rw [e2, e3]; exact HOW.out, HO26.out, HNE6.out, HB6.out, by rw [← e1]; exact HI2.out, by rw [← e1]; exact HG2.out⟩
              · obtain rfl : hd = 0 := by omega
                obtain rfl : rv = -1 := by have := HRV.out; omega
                cases all with
                | true =>
                  have hst1 : Way.step hold true who s1 q = (⟨s1.ws, Way.mark s1.came q (who + 1)⟩, none) := by unfold Way.step; rw [if_neg (by rw [← HCM.out]; omega), if_neg (by rw [← HHD.out]; omega)]; rfl
                  have HST := Lib.hid hst1; clear hst1
                  go_wp2_with fail
                  go_roundg (gk - 1)
                  case measure => have := HJ.out; omega
                  case rel =>
                    have e1 : (Way.step hold true who s1 q).1 = ⟨s1.ws, Way.mark s1.came q (who + 1)⟩ := by rw [HST.out]
                    exact ⟨j + 1, ⟨s1.ws, Way.mark s1.came q (who + 1)⟩, b3, c3, by have := HJ.out; omega, by go_num, rfl, rfl, by rw [HSN.out, HST.out], HO15.out, HO25.out, HNE.out, HB5.out, by rw [← e1]; exact HI2.out, by rw [← e1]; exact HG2.out⟩
                | false =>
                  have hst1 : Way.step hold false who s1 q = (⟨s1.ws, Way.mark s1.came q (who + 1)⟩, some q) := by unfold Way.step; rw [if_neg (by rw [← HCM.out]; omega), if_neg (by rw [← HHD.out]; omega)]; rfl
                  have hre : R = (⟨s1.ws, Way.mark s1.came q (who + 1)⟩, some q) := by
                    have := HRR1.out
                    rw [Way.goes_at HWHO.out, HNB.out] at this
                    have h2 := HSN.out
                    rw [hst1] at h2
                    have h3 := Way.scan_append hold false who (L.take (j + 1)) (L.drop (j + 1)) s
                    rw [List.take_append_drop, h2] at h3
                    rw [h3] at this
                    exact this
                  have HRE := Lib.hid hre; clear hre hst1
                  go_wp2_with fail
                  go_ret3
                  rw [HRE.out]
                  exact ⟨_, _, rfl, HO15.out, HO25.out, HB5.out⟩
          · obtain rfl : j = ln := by have := HJ.out; omega
            have hrr : R = Way.goes (nbOf G) hold all go (n + 1) s1 := by
              have := HRR1.out
              rw [Way.goes_at HWHO.out, HNB.out] at this
              have h2 := HSC.out
              rw [List.take_of_length_le (by rw [HLN.out]; exact Nat.le_refl _)] at h2
              rw [h2] at this
              exact this
            have HRR2 := Lib.hid hrr; clear hrr
            clear hli
            go_wp2_with fail
            go_roundg go
            case measure => have := HGO.out; omega
            case rel => exact ⟨n + 1, s1, b3, c3, by have := HN9.out; omega, by go_num, rfl, rfl, HRR2.out, HO1.out, HO2.out, HNE.out, HB4.out, HI1.out⟩
      · have hre : R = (s, none) := by
          have := HRR.out
          rw [Way.goes_end (by omega)] at this
          exact this
        have HRE := Lib.hid hre; clear hre
        go_wp2_with fail
        go_ret3
        rw [HRE.out]
        exact ⟨_, _, rfl, HO1'.out, HO2'.out, HB2.out⟩
end Go.Proofs.YtkddkkcfpnndlaaGreatDoor

namespace Go.Proofs.YtkddkkcfpnndlaaGreatDoor
open Go.RowKit

set_option maxRecDepth 100000 in
theorem more07_no (ga ha : Option Addr) (gn gc hn hc : Nat) (g : List (List Int)) (items start : Int) (has : List Int) (w : World) (hg : Rows w ga gn gc g) (hh : Ints w ha hn hc has) (hok : bOk g items has start = false) :
    Calls Tryz.prog 20 #[.slice ga gn gc, .int .i64 items, .slice ha hn hc, .int .i64 start] w fun e w' => e = .returned (.tuple #[.slice none 0 0, .bool false, .int .i64 1]) ∧ Below w.heap.size w w' := by
  have HC := Lib.hid (may07_any ga ha gn gc hn hc g items has start w hg hh)
  rw [hok] at HC
  clear hg hh hok
  go_enter Tryz.func20, Tryz.ntmps20
  go_wp2_with fail
  refine HC.out.mono ?_
  rintro e w1 ⟨rfl, hb⟩
  have HB := Lib.hid hb; clear hb
  go_wp2_with fail
  go_ret3
  exact ⟨rfl, HB.out⟩

/-- what More tells -/
def More07 (n : Nat) (r : Option (List Int)) (w : World) (e : Ending) (w' : World) : Prop := match r with
  | none => e = .returned (.tuple #[.slice none 0 0, .bool false, .int .i64 0]) ∧ Below w.heap.size w w'
  | some l => ∃ a c, e = .returned (.tuple #[.slice a n c, .bool true, .int .i64 0]) ∧ Ints w' a n c l ∧ Below w.heap.size w w'

set_option maxRecDepth 100000 in
set_option maxHeartbeats 4000000 in
theorem more07_yes (ga ha : Option Addr) (gn gc hn hc f N : Nat) (G : List (List Nat)) (has : List Int) (w : World) (hg : Rows w ga gn gc (G.map nats)) (hh : Ints w ha hn hc has) (hok : bOk (G.map nats) (N : Int) has f = true) :
    Calls Tryz.prog 20 #[.slice ga gn gc, .int .i64 N, .slice ha hn hc, .int .i64 f] w (More07 hn (moreOf G has f) w) := by
  have hb := bOk_parts hok
  have HBO := Lib.hid hb; clear hb
  have hGN : ∀ l, l ∈ G → ∀ k, k ∈ l → k < N := fun l hl k hk => by
    have h := hok
    simp only [bOk, Bool.and_eq_true] at h
    have := risesFrom_bd ((gcheck_parts (fitsB_parts h.1.1.1).1).2.2.2 (nats l) (List.mem_map.2 ⟨l, hl, rfl⟩)) (k : Int) (mem_nats.2 hk)
    omega
  have HGN := Lib.hid hGN; clear hGN
  have HC := Lib.hid (may07_any ga ha gn gc hn hc (G.map nats) N has f w hg hh)
  rw [hok] at HC
  have HSR := Lib.hid (fun w1 (hb1 : Below w.heap.size w w1) => search07_any false ga ha gn gc hn hc f N G has w1 (hg.below hb1 (Nat.le_refl _)) (hh.below hb1 (Nat.le_refl _)) hok)
  have hhl := hh.len
  have hgl := hg.len
  rw [List.length_map] at hgl
  have HHL := Lib.hid hhl; clear hhl
  have HGL := Lib.hid hgl; clear hgl
  have HHI := Lib.hid hh; clear hh hg hok
  have HH := Lib.hid (show Way.Held (nbOf G) (hasAt has) (Way.holdTo (hasAt has) hn) from HBO.out.mat.held (by rw [HHL.out]; exact Nat.le_refl _))
  obtain ⟨R, hR⟩ : ∃ R, R = moreOf G has f := ⟨_, rfl⟩
  rw [← hR]
  unfold moreOf Way.more at hR
  rw [HHL.out] at hR
  rcases hgo : Way.goes (nbOf G) (Way.holdTo (hasAt has) hn) false 9 0 ⟨[f], fun _ => 0⟩ with ⟨s, o⟩
  rw [hgo] at hR
  have HSR2 := Lib.hid (fun w1 (hb1 : Below w.heap.size w w1) => by have h := HSR.out w1 hb1; rw [hgo] at h; exact h)
  have HGOES := Lib.hid hgo; clear hgo HSR
  have hpos : 0 < hn := by have := HBO.out.lt; have := HHL.out; omega
  go_enter Tryz.func20, Tryz.ntmps20
  cases o with
  | none =>
    have HR := Lib.hid hR; clear hR
    go_wp2_with fail
    refine HC.out.mono ?_
    rintro e w1 ⟨rfl, hb⟩
    have HB := Lib.hid hb; clear hb
    go_wp2_with fail
    refine (HSR2.out w1 HB.out).mono ?_
    rintro e w2 ⟨v1, v2, rfl, -, -, hb2⟩
    have HB2 := Lib.hid (HB.out.trans (hb2.mono HB.out.size)); clear hb2
    simp only [itm]
    go_wp2_with fail
    go_ret3
    rw [HR.out]
    exact ⟨rfl, HB2.out⟩
  | some k0 =>
    have h8 : ∀ w k, hasAt has w = some k → k < 8 := fun x k e => by
      have hk := HBO.out.mat.fits x k e
      unfold nbOf at hk
      cases hGx : G[x]? with
      | none => rw [hGx] at hk; cases hk
      | some l => rw [hGx] at hk; exact HBO.out.lists l (List.mem_of_getElem? hGx) k hk
    obtain ⟨_, hI, _, hc0⟩ := Way.aug_found HH.out HBO.out.zero h8 HGOES.out
    obtain ⟨i0, hi0⟩ : ∃ i, s.came k0 = i + 1 := ⟨s.came k0 - 1, by omega⟩
    obtain ⟨j0, hj0⟩ := List.mem_iff_getElem?.1 (hI.came k0 i0 hi0).2
    have hj9 : j0 < 9 := by
      have := hI.length HH.out h8
      have := (List.getElem?_eq_some_iff.1 hj0).1
      omega
    have hkN : ∀ k i, s.came k = i + 1 → k < N := fun k i hki => by
      have hkn := (hI.came k i hki).1
      unfold nbOf at hkn
      cases hGx : G[i]? with
      | none => rw [hGx] at hkn; cases hkn
      | some l => rw [hGx] at hkn; exact HGN.out l (List.mem_of_getElem? hGx) k hkn
    have hk0N := hkN k0 i0 hi0
    have HKN := Lib.hid hkN; clear hkN
    have HAT := Lib.hid (Way.At.mk (has := hasAt has) (H := hasAt has) hi0 hj0 (fun _ _ _ _ => rfl))
    have HI := Lib.hid hI; clear hI
    have hws : ∀ x, x ∈ s.ws → x < hn := fun x hx => by
      obtain ⟨j, hj⟩ := List.mem_iff_getElem?.1 hx
      cases j with
      | zero => have := HI.out.head; rw [this] at hj; cases hj; have := HBO.out.lt; have := HHL.out; omega
      | succ j => obtain ⟨k', i, j', e1, _⟩ := HI.out.rest j x hj; have := HBO.out.mat.lt x k' e1; have := HHL.out; omega
    have HWS := Lib.hid hws; clear hws
    clear hi0 hj0 hc0 h8
    have hn8 : hn ≤ 8 := by have := HBO.out.len; have := HBO.out.n8; have := HHL.out; omega
    have HR := Lib.hid hR; clear hR
    go_wp2_with fail
    refine HC.out.mono ?_
    rintro e w1 ⟨rfl, hb⟩
    have HB := Lib.hid hb; clear hb
    go_wp2_with fail
    refine (HSR2.out w1 HB.out).mono ?_
    rintro e w2 ⟨v1, v2, rfl, -, hO2, hb2⟩
    have HB2 := Lib.hid (HB.out.trans (hb2.mono HB.out.size)); clear hb2
    obtain ⟨b2, c2, rfl, hb2lt⟩ : ∃ b2 c2, v2 = .slice (some ⟨b2, 0, none⟩) N c2 ∧ b2 < w2.heap.size := by
      rcases hO2.2 with ⟨_, e0⟩ | ⟨g2, cap, cur, e, hb, hh, hle, _⟩
      · rw [cameL_length] at e0; omega
      · rw [cameL_length] at e; exact ⟨g2, cap, e, (Array.getElem?_eq_some_iff.1 hh).1⟩
    have HCT := Lib.hid (Own.tab hO2).1; clear hO2
    have HHI2 := Lib.hid (HHI.out.below HB2.out (Nat.le_refl _))
    simp only [itm]
    have e1 : ((k0 : Int) == -1) = false := by first | (simp; done) | (simp; omega)
    clear HC HSR2
    go_wp2_with (at_builtin; refine appMany _ rfl _ _ rfl w2.heap.size (.slice none 0 0) [] rfl (by simp [Own, World.ownsRow]) ha hn hc has rfl HHI2.out hpos (by simp; omega) (Nat.le_refl _) ?_)
    intro va w3 hOa hgr hb3 hat0
    try rw [List.nil_append] at hOa
    obtain ⟨gb, ca, rfl, hgb⟩ : ∃ gb ca, va = .slice (some ⟨gb, 0, none⟩) hn ca ∧ w2.heap.size ≤ gb := by
      rcases hOa.2 with ⟨_, e0⟩ | ⟨g2, cap, cur, e, hb, hh, hle, _⟩
      · have := HHL.out; omega
      · rw [HHL.out] at e; exact ⟨g2, cap, e, hb⟩
    have hct3 : TabI w3 b2 (cameL N s.came) := Tab.below HCT.out hb3 hb2lt
    have HCT3 := Lib.hid hct3; clear hct3 HCT
    have HOA := Lib.hid hOa; clear hOa
    have HB3 := Lib.hid (HB2.out.trans (hb3.mono HB2.out.size)); clear hb3 hat0 hgr
    clear e1
    go_wp2_with fail
    go_loopg [13, 15] 9 (fun g' s13 s15 wr => ∃ hs : List Int, Own wr w2.heap.size (.slice (some ⟨gb, 0, none⟩) hn ca) hs ∧ hs.length = hn ∧ TabI wr b2 (cameL N s.came) ∧ Below w.heap.size w wr ∧ (∀ x, x ∈ hs → -1 ≤ x ∧ x < 8) ∧
      ((s13 = .int .i64 (-1) ∧ hasAt hs = Way.aug s.came 9 k0 (hasAt has)) ∨ ∃ k i j : Nat, s13 = .int .i64 k ∧ Way.At (hasAt has) s k i j (hasAt hs) ∧ j < g' ∧ Way.aug s.came 9 k0 (hasAt has) = Way.aug s.came g' k (hasAt hs)))
    case atStart => exact ⟨has, HOA.out, HHL.out, HCT3.out, HB3.out, HBO.out.bd, .inr ⟨k0, i0, j0, rfl, HAT.out, hj9, rfl⟩⟩
    case round =>
      obtain ⟨hs, hO, hsl, hT, hB, hbd, hcase⟩ := hrel
      obtain ⟨w4, rfl⟩ : ∃ w4, w4 = wr := ⟨_, rfl⟩
      have HO := Lib.hid hO; clear hO
      have HT := Lib.hid hT; clear hT
      have HB4 := Lib.hid hB; clear hB
      have HSL := Lib.hid hsl; clear hsl
      rcases hcase with ⟨rfl, hfin⟩ | ⟨k, i, j, rfl, hat, hj, hfin⟩
      · have hi := (Own.tab HO.out).1.ints (c := ca) (by
          rcases HO.out.2 with ⟨e, _⟩ | ⟨g2, cap, cur, e, hb, hh, hle, _⟩
          · cases e
          · cases e; exact hle) (by have := HSL.out; omega) (fun x hx => by have := hbd x hx; omega)
        rw [HSL.out] at hi
        have hls := listOf_hasAt HSL.out (fun x hx => (hbd x hx).1)
        rw [hfin] at hls
        have hre : R = some hs := by rw [HR.out, Option.map_some, ← hls]
        have HRE := Lib.hid hre
        have HIN := Lib.hid hi
        clear hfin hbd hls hi hre
        go_wp2_with fail
        go_ret3
        rw [HRE.out]
        exact ⟨_, _, rfl, HIN.out, HB4.out⟩
      · have hin : i < hn := HWS.out i (List.mem_of_getElem? hat.idx)
        have hkN2 := HKN.out k i hat.came
        obtain ⟨hHi, hstep⟩ := hat.step HI.out HBO.out.zero
        obtain ⟨x, hx⟩ : ∃ x, hs[i]? = some x := ⟨_, List.getElem?_eq_getElem (by rw [HSL.out]; exact hin)⟩
        have hxb := hbd x (List.mem_of_getElem? hx)
        have cc := Tab.cell HT.out (k := k) (v := .int .i64 (i : Int)) (by rw [List.getElem?_map, cameL_get _ hkN2, hat.came]; simp)
        have ci := Tab.cell (Own.tab HO.out).1 (k := i) (v := .int .i64 x) (by rw [List.getElem?_map, hx]; rfl)
        have hown := HO.out
        unfold Own at hown
        rw [HSL.out] at hown
        have cf := World.ownsRow.frozenAt hown i
        have hst := (World.ownsRow.stored hown i (.int .i64 (k : Int))).1
        have hval := hasAt_set (hs := hs) (k := k) (by rw [HSL.out]; exact hin)
        have hO5 : Own (w4.setCell ⟨gb, i, none⟩ (.int .i64 (k : Int))) w2.heap.size (.slice (some ⟨gb, 0, none⟩) hn ca) (hs.set i (k : Int)) := by
          unfold Own
          rw [List.length_set, HSL.out, List.map_set]
          exact hst
        have hT5 : TabI (w4.setCell ⟨gb, i, none⟩ (.int .i64 (k : Int))) b2 (cameL N s.came) := Tab.other HT.out (by simp; omega) _
        have hB5 : Below w.heap.size w (w4.setCell ⟨gb, i, none⟩ (.int .i64 (k : Int))) := HB4.out.setCell (p := ⟨gb, i, none⟩) (by have := HB2.out.size; simp; omega) _
        have HO5 := Lib.hid hO5; clear hO5 hst hown
        have HT5 := Lib.hid hT5; clear hT5
        have HB5 := Lib.hid hB5; clear hB5
        have HVAL := Lib.hid hval; clear hval
        have HX := Lib.hid hx; clear hx
        have HFIN := Lib.hid hfin; clear hfin
        have HBD := Lib.hid hbd; clear hbd
        have HAT3 := Lib.hid hat; clear hat
        have HHI3 := Lib.hid hHi; clear hHi
        have HST := Lib.hid hstep; clear hstep
        have i1 : (i : Int) < (hn : Int) := by omega
        have i2 : (k : Int) < (N : Int) := by omega
        have e1 : ((k : Int) != -1) = true := by first | (simp; done) | (simp; omega)
        go_wp2_with fail
        go_roundg (gk - 1)
        case measure => omega
        case rel =>
          obtain ⟨g0, rfl⟩ : ∃ g0, gk = g0 + 1 := ⟨gk - 1, by omega⟩
          rw [Nat.add_sub_cancel]
          refine ⟨hs.set i (k : Int), HO5.out, by rw [List.length_set]; exact HSL.out, HT5.out, HB5.out, fun y hy => ?_, ?_⟩
          · rcases List.mem_or_eq_of_mem_set hy with h | h
            · exact HBD.out y h
            · have h8 := HAT3.out.came
              have hkn := (HI.out.came k i h8).1
              unfold nbOf at hkn
              cases hGx : G[i]? with
              | none => rw [hGx] at hkn; cases hkn
              | some l => rw [hGx] at hkn; have := HBO.out.lists l (List.mem_of_getElem? hGx) k hkn; omega
          · have hat := HAT3.out
            have hfin := HFIN.out
            have hci : s.came k - 1 = i := by have := hat.came; omega
            rcases HST.out with hnone | ⟨k2, i2, j2, hsome, hj2, hat2⟩
            · left
              rw [← HHI3.out] at hnone
              rw [hasAt_of HX.out] at hnone
              have hx1 : x = -1 := by
                apply Classical.byContradiction
                intro hne
                rw [if_neg hne] at hnone; cases hnone
              refine ⟨by rw [hx1], ?_⟩
              rw [hfin, HVAL.out]
              simp only [Way.aug, hci, hasAt_of HX.out, if_pos hx1]
            · right
              rw [← HHI3.out] at hsome
              have hsome2 := hsome
              rw [hasAt_of HX.out] at hsome2
              have hx1 : x = (k2 : Int) := by
                split at hsome2
                · cases hsome2
                · have := Option.some.inj hsome2; omega
              refine ⟨k2, i2, j2, by rw [hx1], by rw [HVAL.out]; exact hat2, by omega, ?_⟩
              rw [hfin, HVAL.out]
              simp only [Way.aug, hci, hsome]
end Go.Proofs.YtkddkkcfpnndlaaGreatDoor
