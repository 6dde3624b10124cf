/- Walks: the law PathsNone. -/
import Derived.Test.YtbnjeegicbffeaaPl2
import Derived.Test.YtbnjeegicbffeaaPp7
namespace Go.Proofs.Ytbnjeegicbffeaa
open Go.RowKit

theorem More_any (ga ha : Option Addr) (gn gc hn hc f : Nat) (G : List (List Nat)) (items : Int) (has : List Int) (w : World) (hg : Rows w ga gn gc (G.map nats)) (hh : Ints w ha hn hc has) (hok : bOk (G.map nats) items has f = true) :
    Calls Try.prog 32 #[.slice ga gn gc, .int .i64 items, .slice ha hn hc, .int .i64 f] w fun e w' => ∃ a n c, e = .returned (.tuple #[.slice a n c, .bool (moreOf G has f).isSome, .int .i64 0]) ∧ Below w.heap.size w w' := by
  refine (More_res ga ha gn gc hn hc f G items has w hg hh hok).mono ?_
  intro e w' h
  cases hm : moreOf G has f with
  | none => rw [hm] at h; obtain ⟨rfl, hb⟩ := h; exact ⟨none, 0, 0, rfl, hb⟩
  | some l => rw [hm] at h; obtain ⟨a, rfl, _, hb⟩ := h; exact ⟨a, hn, hn, rfl, hb⟩

theorem freeOf_succ {m W : List Int} {k : Nat} {x : Int} (h : W[k]? = some x) : freeOf m (W.take (k + 1)) = freeOf m (W.take k) + if m.contains x then 0 else 1 := by
  unfold freeOf
  rw [List.take_add_one, h, List.filter_append]
  simp only [Option.toList, List.filter_cons, List.filter_nil]
  cases m.contains x <;> simp

set_option maxRecDepth 100000 in
set_option maxHeartbeats 2000000 in
theorem pathsNone_any (ga ma : Option Addr) (gn gc mn mc : Nat) (g : List (List Int)) (items : Int) (m : List Int) (start : Int) (w : World) (hg : Rows w ga gn gc g) (hm : Ints w ma mn mc m) :
    Calls Try.prog 16 #[.agg #[.slice ga gn gc, .int .i64 items], .slice ma mn mc, .int .i64 start] w fun e w' => e = .returned (.bool true) ∧ Below w.heap.size w w' := by
  have HG := Lib.hid hg; clear hg
  have HM := Lib.hid hm; clear hm
  have HB0 := Lib.hid (pw_start w ga gn gc items)
  have hgr := HG.out.below (pw_kept HB0.out).2.2.2 (Nat.le_refl _)
  have hmr := HM.out.below (pw_kept HB0.out).2.2.2 (Nat.le_refl _)
  rcases bCase g items m start with hok | ⟨G, f, rfl, rfl, hok⟩
  · have HC := Lib.hid (More_no ga ma gn gc mn mc g items start m (pw w ga gn gc items) hgr hmr hok)
    clear hgr hmr
    have HOK := Lib.hid hok; clear hok
    go_enter Try.func16, Try.ntmps16
    go_wp2_with fail
    refine HC.out.mono ?_
    rintro e w1 ⟨rfl, hb1⟩
    have HB1 := Lib.hid (pw_below HB0.out hb1); clear hb1 HC
    obtain ⟨c0, c1, hs1, hB1⟩ := pw_kept HB1.out
    have HC := Lib.hid (Reach_no ga ma gn gc mn mc g items start m w1 (HG.out.below hB1 (Nat.le_refl _)) (HM.out.below hB1 (Nat.le_refl _)) HOK.out)
    clear hB1
    go_wp2_with fail
    refine HC.out.mono ?_
    rintro e w2 ⟨rfl, hb2⟩
    have HB2 := Lib.hid (pw_below HB1.out hb2); clear hb2 HC c0 c1 hs1
    go_wp2_with fail
    refine (alive7_any w2).mono ?_
    rintro e w3 ⟨rfl, hb⟩
    have HB3 := Lib.hid (pw_below HB2.out hb); clear hb
    go_wp2_with fail
    go_ret
    exact ⟨rfl, (pw_kept HB3.out).2.2.2⟩
  · have HC := Lib.hid (More_any ga ma gn gc mn mc f G items m (pw w ga gn gc items) hgr hmr hok)
    have hbo := bOk_parts hok
    have HBO := Lib.hid hbo; clear hbo
    have HOK := Lib.hid hok
    have hfm : f < mn := by have := HBO.out.lt; have := HM.out.len; omega
    have hmn8 : mn ≤ 8 := by have := HBO.out.n8; have := HBO.out.len; have := HM.out.len; omega
    clear hgr hmr hok
    obtain ⟨s, hs⟩ : ∃ s, s = reachOf G m f := ⟨_, rfl⟩
    have HS := Lib.hid hs; clear hs
    have hcnt := none_counts HBO.out
    rw [← HS.out] at hcnt
    obtain ⟨fd, hfd⟩ : ∃ fd : Bool, fd = (moreOf G m f).isSome := ⟨_, rfl⟩
    rw [← hfd] at HC hcnt
    clear hfd
    obtain ⟨W, hW⟩ : ∃ W, W = whatOf s.came 8 := ⟨_, rfl⟩
    rw [← hW] at hcnt
    have hW8 : W.length ≤ 8 := by rw [hW]; exact whatOf_length _ _
    have HW := Lib.hid hW; clear hW
    have HCN := Lib.hid hcnt; clear hcnt
    obtain ⟨bm, om, rfl⟩ := HM.out.addr (by omega)
    go_enter Try.func16, Try.ntmps16
    go_wp2_with fail
    refine HC.out.mono ?_
    rintro e w1 ⟨a0, n0, c0', rfl, hb1⟩
    have HB1 := Lib.hid (pw_below HB0.out hb1); clear hb1 HC
    obtain ⟨c0, c1, hs1, hB1⟩ := pw_kept HB1.out
    have hC := Reach_yes ga _ gn gc mn mc f G items m w1 (HG.out.below hB1 (Nat.le_refl _)) (HM.out.below hB1 (Nat.le_refl _)) HOK.out
    rw [← HM.out.len] at hC
    rw [show Way.full (nbOf G) (Way.holdTo (hasAt m) m.length) f = reachOf G m f from rfl, HM.out.len, ← HS.out] at hC
    have HC := Lib.hid hC; clear hC hB1
    go_wp2_with fail
    refine HC.out.mono ?_
    rintro e w2 ⟨a1, n1, a2, n2, rfl, hi1, hi2, hb2⟩
    have HB2 := Lib.hid (pw_below HB1.out hb2); clear hb2 HC c0 c1 hs1
    rw [← whoN_nats] at hi1
    have HI1 := Lib.hid hi1; clear hi1
    rw [← HW.out] at hi2
    have HI2 := Lib.hid hi2; clear hi2
    obtain ⟨c0, c1, hs2, hB2⟩ := pw_kept HB2.out
    have HBW2 := Lib.hid hB2; clear hB2
    have hI : Way.Inv (nbOf G) (hasAt m) f s := by rw [HS.out]; exact Way.full_inv HBO.out.held HBO.out.zero
    have hwl : ∀ x, x ∈ s.ws → x < G.length := fun x hx => by
      rw [HS.out] at hx
      have := reach_lt HBO.out ((reach_who HBO.out x).1 hx)
      have := HBO.out.len
      omega
    have hnok : nearOk (G.map nats) items (nats (whoN s.ws)) = true := by
      simp only [nearOk, Bool.and_eq_true]
      refine ⟨bOk_gcheck HOK.out, ?_⟩
      rw [List.length_map]
      exact whoN_rises hI.nodup hwl
    have hN := Near_yes ga a1 gn gc n1 n1 G items (whoN s.ws) w2 (HG.out.below HBW2.out (Nat.le_refl _)) HI1.out hnok
    rw [show whatOf (nearOf G (whoN s.ws)) 8 = W by rw [HW.out, HS.out]; exact near_reach HBO.out] at hN
    have HN := Lib.hid hN; clear hN hnok hwl
    have HINV := Lib.hid hI; clear hI
    go_wp2_with fail
    refine HN.out.mono ?_
    rintro e w3 ⟨a3, n3, c3, rfl, hi3, hb3⟩
    have HB3 := Lib.hid (pw_below HB2.out hb3)
    have HI13 := Lib.hid (HI1.out.below hb3 (Nat.le_refl _))
    have HI23 := Lib.hid (HI2.out.below hb3 (Nat.le_refl _))
    have HI3 := Lib.hid hi3; clear hb3 hi3 HN c0 c1 hs2
    go_wp2_with fail
    refine (same_any a3 a2 n3 c3 n2 n2 _ _ w3 HI3.out HI23.out).mono ?_
    rw [decide_eq_true rfl]
    rintro e w4 ⟨rfl, hb4⟩
    have HB4 := Lib.hid (pw_below HB3.out hb4)
    have HI14 := Lib.hid (HI13.out.below hb4 (Nat.le_refl _))
    have HI24 := Lib.hid (HI23.out.below hb4 (Nat.le_refl _)); clear hb4
    have hfw : decide ((f : Int) ∈ nats (whoN s.ws)) = true := by
      rw [decide_eq_true_eq, mem_nats, mem_whoN]
      exact List.mem_of_getElem? HINV.out.head
    have HFW := Lib.hid hfw; clear hfw
    go_wp2_with fail
    refine (lhas_any a1 n1 n1 _ (f : Int) w4 HI14.out).mono ?_
    rw [HFW.out]
    rintro e w5 ⟨rfl, rfl⟩
    obtain ⟨c0, c1, hs4, hB4⟩ := pw_kept HB4.out
    have HM4 := Lib.hid (HM.out.below hB4 (Nat.le_refl _))
    clear c0 c1 hs4 hB4
    have hn1 : n1 = s.ws.length := by have := HI14.out.len; rw [whoN_nats, sorted_length] at this; simpa [nats] using this.symm
    have hn2 : n2 = W.length := by have := HI24.out.len; simpa [nats] using this.symm
    have hn1b := HI1.out.big
    have HN1 := Lib.hid hn1; clear hn1
    have HN2 := Lib.hid hn2; clear hn2
    have hn28 : n2 ≤ 8 := by rw [HN2.out]; exact hW8
    go_wp2_with fail
    go_loopg [15, 16] n2 (fun g' s15 s16 wr => ∃ (i : Nat), i + g' = n2 ∧ s16 = .int .i64 i ∧ s15 = .int .i64 (freeOf m ((nats W).take i) : Nat) ∧ freeOf m ((nats W).take i) ≤ i ∧ wr = w4)
    case atStart => exact ⟨0, by omega, rfl, rfl, by simp [freeOf], rfl⟩
    case round =>
      obtain ⟨i, hi, rfl, rfl, hfb, rfl⟩ := hrel
      have HI := Lib.hid hi; clear hi
      by_cases hlt : i < n2
      · obtain ⟨x, hx, _⟩ := HI24.out.get hlt
        obtain ⟨b2, o2, rfl⟩ := HI24.out.addr (by omega)
        have cx := HI24.out.cell b2 o2 rfl i x hx
        have hsu := freeOf_succ (m := m) hx
        obtain ⟨fi, hfi⟩ : ∃ fi, fi = freeOf m ((nats W).take i) := ⟨_, rfl⟩
        rw [← hfi] at hsu hfb ⊢
        have HSU := Lib.hid hsu; clear hsu
        have HFI := Lib.hid hfi; clear hfi
        have HX := Lib.hid hx; clear hx
        have i1 : (i : Int) < (n2 : Int) := by omega
        have i2 : fi ≤ 8 := by omega
        go_wp2_with fail
        refine (lhas_any _ mn mc m x wr HM4.out).mono ?_
        cases hc : m.contains x with
        | true =>
          have hd : decide (x ∈ m) = true := by simpa using hc
          rw [hd]
          rintro e w6 ⟨rfl, rfl⟩
          have HC := Lib.hid hc; clear hc hd
          go_wp2_with fail
          go_roundg (gk - 1)
          case measure => have := HI.out; omega
          case rel => exact ⟨i + 1, by have := HI.out; omega, by go_num, by rw [HSU.out, HC.out, if_pos rfl, Nat.add_zero], by rw [HSU.out, HC.out, if_pos rfl]; omega, rfl⟩
        | false =>
          have hd : decide (x ∈ m) = false := by simpa using hc
          rw [hd]
          rintro e w6 ⟨rfl, rfl⟩
          have HC := Lib.hid hc; clear hc hd
          go_wp2_with fail
          go_roundg (gk - 1)
          case measure => have := HI.out; omega
          case rel => exact ⟨i + 1, by have := HI.out; omega, by go_num, by rw [HSU.out, HC.out, if_neg (by decide)]; go_num, by rw [HSU.out, HC.out, if_neg (by decide)]; omega, rfl⟩
      · obtain rfl : i = n2 := by have := HI.out; omega
        rw [List.take_of_length_le (by rw [HI24.out.len]; exact Nat.le_refl _)] at hfb ⊢
        obtain ⟨hc1, hc2⟩ := HCN.out
        obtain ⟨fi, hfi⟩ : ∃ fi, fi = freeOf m (nats W) := ⟨_, rfl⟩
        rw [← hfi] at hfb hc1 hc2 ⊢
        clear hfi
        rw [← HN1.out, ← HN2.out] at hc2
        have e1 : (fd == decide (0 < (fi : Int))) = true := by
          rw [hc1, beq_iff_eq]; simp
        have e2 : ((n1 : Int) == (i : Int) - (fi : Int) + 1) = true := by
          rw [beq_iff_eq]; omega
        have HC1 := Lib.hid hc1; clear hc1
        clear hc2
        go_wp2_with fail
        refine (alive7_any wr).mono ?_
        rintro e w6 ⟨rfl, hb⟩
        have HB6 := Lib.hid (pw_below HB4.out hb); clear hb
        go_wp2_with fail
        go_ret
        exact ⟨rfl, (pw_kept HB6.out).2.2.2⟩
end Go.Proofs.Ytbnjeegicbffeaa
