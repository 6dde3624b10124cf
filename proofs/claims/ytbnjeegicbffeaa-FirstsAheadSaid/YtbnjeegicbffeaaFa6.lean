/- Walks: the law FirstsAhead. -/
import Derived.Test.YtbnjeegicbffeaaFa1
import Derived.Test.YtbnjeegicbffeaaFp5
import Derived.Test.YtbnjeegicbffeaaGrid
import Derived.Test.YtbnjeegicbffeaaPs1
namespace Go.Proofs.Ytbnjeegicbffeaa
open Go.RowKit Sale

theorem Ints.tail {w : World} {b o n c : Nat} {x : Int} {xs : List Int} (h : Ints w (some ⟨b, o, none⟩) (n + 1) (c + 1) (x :: xs)) : Ints w (some ⟨b, o + 1, none⟩) n c xs :=
  ⟨by have := h.len; simpa using this, by have := h.cap; omega, by have := h.big; omega, fun _ => ⟨_, _, rfl⟩, fun b' o' e k y hy => by
    cases e
    have := h.cell b o rfl (k + 1) y (by simpa using hy)
    rw [Nat.add_assoc, Nat.add_comm 1 k]; exact this, fun y hy => h.bd y (List.mem_cons_of_mem _ hy), fun e => by cases e⟩

theorem left_check {gains : List (List Int)} {n gn who : Nat} {x : Int} {F : Nat → Nat → Int} (h : wcheck gains n = true) (hl : gains.length = gn) (hF : ∀ i, i < gn → ∀ k, F i k = if k < n ∧ (i = who ∨ x = (k : Int)) then -1 else gi gains i k) :
    (∀ i, i < gn → ∀ k, -1000000 ≤ F i k ∧ F i k ≤ 1000000) ∧ wcheck (rowsF gn n F) n = true := by
  obtain ⟨p1, p2, p3, p4, p5⟩ := wcheck_parts h
  have hb : ∀ i, i < gn → ∀ k, -1000000 ≤ F i k ∧ F i k ≤ 1000000 := fun i hi k => by
    rw [hF i hi k]
    split
    · omega
    · exact gi_bd p5 i k
  refine ⟨hb, wcheck_of (by omega) (by omega) (by rw [rowsF_length]; omega) (fun l hlm => ?_) (fun l hlm y hy => ?_)⟩
  · obtain ⟨i, _, rfl⟩ := List.mem_map.1 hlm
    simp
  · obtain ⟨i, hi, rfl⟩ := List.mem_map.1 hlm
    obtain ⟨k, _, rfl⟩ := List.mem_map.1 hy
    exact hb i (List.mem_range.1 hi) k

set_option maxRecDepth 100000 in
set_option maxHeartbeats 2000000 in
theorem firstsAhead_any (ga oa : Option Addr) (gn gc o_n oc : Nat) (gains : List (List Int)) (items : Int) (order : List Int) (w : World) (hg : Rows w ga gn gc gains) (ho : Ints w oa o_n oc order) (hsz : o_n * 8 ≤ reachBytes) :
    Calls Try.prog 8 #[.agg #[.slice ga gn gc, .int .i64 items], .slice oa o_n oc] w fun e w' => e = .returned (.bool true) ∧ Below w.heap.size w w' := by
  have HG := Lib.hid hg; clear hg
  have HO := Lib.hid ho; clear ho
  have HB0 := Lib.hid (gw_start w ga gn gc items)
  have HF := Lib.hid (First_all ga oa gn gc o_n oc gains items order (gw w ga gn gc items) (HG.out.below (gw_kept HB0.out).2.2.2 (Nat.le_refl _)) (HO.out.below (gw_kept HB0.out).2.2.2 (Nat.le_refl _)) hsz)
  have HL := Lib.hid HG.out.len
  go_enter Try.func8, Try.ntmps8
  rcases HF.out with ⟨hok, hc⟩ | ⟨n, on, rfl, rfl, h1, h2, hc⟩
  · have HC := Lib.hid hc; clear hc
    clear HF hok
    go_wp2_with fail
    refine HC.out.mono ?_
    rintro e w1 ⟨a1, n1, c1, rfl, hi1, hb1⟩
    have HB1 := Lib.hid (gw_below HB0.out hb1); clear hb1
    clear HC hi1
    obtain ⟨hc0, hc1, hs1, _⟩ := gw_kept HB1.out
    go_wp2_with fail
    refine (alive_any w1).mono ?_
    rintro e w3 ⟨rfl, hb⟩
    have HB3 := Lib.hid (gw_below HB1.out hb); clear hb
    go_wp2_with fail
    go_ret
    exact ⟨rfl, (gw_kept HB3.out).2.2.2⟩
  · have HC := Lib.hid hc; clear hc
    have H1 := Lib.hid h1; clear h1
    have H2 := Lib.hid h2; clear h2
    obtain ⟨p1, p2, p3, p4, p5⟩ := wcheck_parts H1.out
    have P4 := Lib.hid p4; clear p4
    have P5 := Lib.hid p5; clear p5
    have hord := isOrd_parts H2.out
    clear HF
    cases on with
    | nil =>
      obtain rfl : o_n = 0 := by have := HO.out.len; simpa using this.symm
      clear hord
      go_wp2_with fail
      refine HC.out.mono ?_
      rintro e w1 ⟨a1, n1, c1, rfl, hi1, hb1⟩
      have HB1 := Lib.hid (gw_below HB0.out hb1); clear hb1
      clear HC hi1
      obtain ⟨hc0, hc1, hs1, _⟩ := gw_kept HB1.out
      go_wp2_with fail
      refine (alive_any w1).mono ?_
      rintro e w3 ⟨rfl, hb⟩
      have HB3 := Lib.hid (gw_below HB1.out hb); clear hb
      go_wp2_with fail
      go_ret
      exact ⟨rfl, (gw_kept HB3.out).2.2.2⟩
    | cons who rest =>
      obtain ⟨o1, rfl⟩ : ∃ o1, o_n = o1 + 1 := ⟨rest.length, by have := HO.out.len; simpa using this.symm⟩
      obtain ⟨oc1, rfl⟩ : ∃ k, oc = k + 1 := ⟨oc - 1, by have := HO.out.cap; omega⟩
      obtain ⟨bo, oo, rfl⟩ := HO.out.addr (by omega)
      have hgn8 : gn ≤ 8 := by have := HL.out; omega
      have hwho : who < gn := by
        have := List.mem_range.1 (hord.mem_iff.1 List.mem_cons_self)
        have := HL.out; omega
      have HP := Lib.hid hord; clear hord
      go_wp2_with fail
      refine HC.out.mono ?_
      rintro e w1 ⟨a1, n1, c1, rfl, hi1, hb1⟩
      have HB1 := Lib.hid (gw_below HB0.out hb1); clear hb1
      have HI1 := Lib.hid hi1; clear hi1
      clear HC
      have hn1 : n1 = gn := by rw [← HI1.out.len, firstOf_length, HL.out]
      subst hn1
      obtain ⟨c0, c1', hs0, hB1⟩ := gw_kept HB1.out
      have co := (HO.out.below hB1 (Nat.le_refl _)).cell bo oo rfl 0 (who : Int) rfl
      rw [Nat.add_zero] at co
      obtain ⟨bg, og, rfl⟩ := HG.out.addr (by omega)
      obtain ⟨lw, hlw⟩ := HG.out.get hwho
      obtain ⟨aw, nw, cw, cgw, hiw⟩ := (HG.out.below hB1 (Nat.le_refl _)).cell bg og rfl who lw hlw
      obtain rfl : nw = n := by
        have h1 := hiw.len
        have h2 := P4.out lw (List.mem_of_getElem? hlw)
        omega
      obtain ⟨xw, hxw, _⟩ := HI1.out.get hwho
      have HXW := Lib.hid hxw; clear hxw hlw hiw
      have HBW1 := Lib.hid hB1; clear hB1
      have e1 : ((n1 : Int) != (n1 : Int)) = false := by simp
      have e2 : decide ((who : Int) < 0) = false := by simp
      have e3 : decide ((n1 : Int) ≤ (who : Int)) = false := by simp; omega
      have e4 : ((nw : Int) != (nw : Int)) = false := by simp
      have i1 : (who : Int) < (n1 : Int) := by omega
      have e5 : ¬ (n1 ≤ who) := by omega
      go_wp2_with fail
      go_quiet (fail)
      clear co cgw e2 e3 e4
      have HBQ := Lib.hid (below_drewN (Below.refl w1.heap.size w1) nq)
      have HBW2 := Lib.hid (HBW1.out.trans (HBQ.out.mono HBW1.out.size))
      have HI2 := Lib.hid (HI1.out.below HBQ.out (Nat.le_refl _))
      obtain ⟨bh, oh, rfl⟩ := HI1.out.addr (by omega)
      obtain ⟨w2, hw2⟩ : ∃ w2 : World, w2 = w1.drewN nq := ⟨_, rfl⟩
      have hs2 : w.heap.size < w2.heap.size := by rw [hw2]; simpa using hs0
      have d0 : w2.cell? ⟨w.heap.size, 0, none⟩ = some (.slice (some ⟨bg, og, none⟩) n1 gc) := by rw [hw2]; exact c0
      have d1 : w2.cell? ⟨w.heap.size, 1, none⟩ = some (.int .i64 (nw : Int)) := by rw [hw2]; exact c1'
      rw [← hw2] at HBW2 HI2 ⊢
      clear c0 c1' hs0 HBQ hw2
      have HT := Lib.hid (twinLists_any (some ⟨bg, og, none⟩) n1 gc gains w2 (HG.out.below HBW2.out (Nat.le_refl _)) (by omega) (fun xs hx => by have := P4.out xs hx; omega))
      go_wp2_with fail
      refine HT.out.mono ?_
      rintro e w3 ⟨B, bc, vals, gs, rfl, hbc, hT, hvl, hBB, hTw, hb3⟩
      clear HT
      have hgr : Grid w3 w2.heap.size B n1 nw vals gs (gi gains) := ⟨hT, hvl, by rw [← HL.out, rowsF_of P4.out]; exact hTw⟩
      have HGR := Lib.hid hgr; clear hgr hT hTw hvl
      have HB3 := Lib.hid hb3; clear hb3
      clear d0
      go_wp2_with fail
      go_loopg [9] nw (fun g' s9 wr => ∃ (k : Nat) (F : Nat → Nat → Int), k + g' = nw ∧ s9 = .int .i64 k ∧ Grid wr w2.heap.size B n1 nw vals gs F ∧ Below w2.heap.size w2 wr ∧ ∀ i', i' < n1 → ∀ k', F i' k' = if k' < k ∧ (i' = who ∨ xw = (k' : Int)) then -1 else gi gains i' k')
      case atStart => exact ⟨0, gi gains, by omega, rfl, HGR.out, HB3.out, fun i' _ k' => by simp⟩
      case round =>
        obtain ⟨k, F, hk, rfl, hG, hB, hF⟩ := hrel
        have hbc1 := (bcell hB).1 w.heap.size 1 hs2
        rw [d1] at hbc1
        have HK := Lib.hid hk; clear hk
        by_cases hlt : k < nw
        · obtain ⟨gw', cw', hgw, cgw, hcw, hcell⟩ := hG.at' hwho
          obtain ⟨cv, cf⟩ := hcell k hlt
          clear hcell
          have hBw : w2.heap.size ≤ gw' := (hG.rows.at' gw' (List.mem_of_getElem? hgw)).1
          have hG2 := hG.poke (k := k) hwho hgw (-1)
          have hB2 : Below w2.heap.size w2 (wr.setCell ⟨gw', k, none⟩ (.int .i64 (-1))) := hB.setCell (by simp; omega) _
          have HG2 := Lib.hid hG2; clear hG2 hgw
          have HB2 := Lib.hid hB2; clear hB2
          have HF := Lib.hid hF; clear hF hG
          have HB := Lib.hid hB; clear hB
          have i2 : (k : Int) < (nw : Int) := by omega
          go_wp2_with fail
          clear cv cf cgw hbc1
          obtain ⟨wo, rfl⟩ : ∃ wo : World, wo = wr := ⟨_, rfl⟩
          obtain ⟨go, rfl⟩ : ∃ go : Nat, go = gk := ⟨_, rfl⟩
          have hst : ∀ i', i' < n1 → ∀ k', upd2 F who k (-1) i' k' = if (k' < k ∧ (i' = who ∨ xw = (k' : Int))) ∨ (k' = k ∧ (i' = who ∨ (xw = (k : Int) ∧ i' < 0))) then -1 else gi gains i' k' := fun i' hi' k' => by
            unfold upd2
            by_cases e : i' = who ∧ k' = k
            · rw [if_pos e, if_pos (.inr ⟨e.2, .inl e.1⟩)]
            · rw [if_neg e, HF.out i' hi' k']
              have hiff : (k' < k ∧ (i' = who ∨ xw = (k' : Int))) ↔ ((k' < k ∧ (i' = who ∨ xw = (k' : Int))) ∨ (k' = k ∧ (i' = who ∨ (xw = (k : Int) ∧ i' < 0)))) := by
                constructor
                · exact .inl
                · rintro (h | ⟨h1, h2 | h2⟩)
                  · exact h
                  · exact absurd ⟨h2, h1⟩ e
                  · omega
              simp only [← hiff]
          have HST := Lib.hid hst; clear hst
          go_loopg [10] n1 (fun g' s10 wr => ∃ (i : Nat) (F : Nat → Nat → Int), i + g' = n1 ∧ s10 = .int .i64 i ∧ Grid wr w2.heap.size B n1 nw vals gs F ∧ Below w2.heap.size w2 wr ∧ ∀ i', i' < n1 → ∀ k', F i' k' = if (k' < k ∧ (i' = who ∨ xw = (k' : Int))) ∨ (k' = k ∧ (i' = who ∨ (xw = (k : Int) ∧ i' < i))) then -1 else gi gains i' k')
          case atStart => exact ⟨0, _, by omega, rfl, HG2.out, HB2.out, HST.out⟩
          case round =>
            obtain ⟨i, F, hi, rfl, hG, hB, hF⟩ := hrel
            have HI := Lib.hid hi; clear hi
            by_cases hli : i < n1
            · have ch := (HI2.out.below hB (Nat.le_refl _)).cell bh oh rfl who xw HXW.out
              by_cases hxk : xw = (k : Int)
              · have e6 : (xw == (k : Int)) = true := by simp [hxk]
                obtain ⟨gi', ci', hgi, cgi, hci, hcell⟩ := hG.at' hli
                obtain ⟨cv, cf⟩ := hcell k hlt
                clear hcell
                have hBi : w2.heap.size ≤ gi' := (hG.rows.at' gi' (List.mem_of_getElem? hgi)).1
                have hG3 := hG.poke (k := k) hli hgi (-1)
                have hB3 : Below w2.heap.size w2 (wr.setCell ⟨gi', k, none⟩ (.int .i64 (-1))) := hB.setCell (by simp; omega) _
                have HG3 := Lib.hid hG3; clear hG3 hgi
                have HB3' := Lib.hid hB3; clear hB3
                have HF3 := Lib.hid hF; clear hF hG
                have HB4 := Lib.hid hB; clear hB
                have HXK := Lib.hid hxk; clear hxk
                have i3 : (i : Int) < (n1 : Int) := by omega
                go_wp2_with fail
                go_roundg (gk - 1)
                case measure => have := HI.out; omega
                case rel =>
                  refine ⟨i + 1, _, by have := HI.out; omega, by go_num, HG3.out, HB3'.out, fun i' hi' k' => ?_⟩
                  unfold upd2
                  have hx := HXK.out
                  by_cases e : i' = i ∧ k' = k
                  · rw [if_pos e, if_pos (.inr ⟨e.2, .inr ⟨hx, by omega⟩⟩)]
                  · rw [if_neg e, HF3.out i' hi' k']
                    have hiff : ((k' < k ∧ (i' = who ∨ xw = (k' : Int))) ∨ (k' = k ∧ (i' = who ∨ (xw = (k : Int) ∧ i' < i)))) ↔ ((k' < k ∧ (i' = who ∨ xw = (k' : Int))) ∨ (k' = k ∧ (i' = who ∨ (xw = (k : Int) ∧ i' < i + 1)))) := by omega
                    simp only [hiff]
              · have e6 : (xw == (k : Int)) = false := by simp [hxk]
                have HXK := Lib.hid hxk; clear hxk
                have HG3 := Lib.hid hG; clear hG
                have HB4 := Lib.hid hB; clear hB
                have HF3 := Lib.hid hF; clear hF
                have i3 : (i : Int) < (n1 : Int) := by omega
                go_wp2_with fail
                go_roundg (go - 1)
                case measure => have := HK.out; omega
                case rel =>
                  refine ⟨k + 1, F, by have := HK.out; omega, by go_num, HG3.out, HB4.out, fun i' hi' k' => ?_⟩
                  rw [HF3.out i' hi' k']
                  have hx := HXK.out
                  have hiff : ((k' < k ∧ (i' = who ∨ xw = (k' : Int))) ∨ (k' = k ∧ (i' = who ∨ (xw = (k : Int) ∧ i' < i)))) ↔ (k' < k + 1 ∧ (i' = who ∨ xw = (k' : Int))) := by omega
                  simp only [hiff]
            · obtain rfl : i = n1 := by have := HI.out; omega
              have HG3 := Lib.hid hG; clear hG
              have HB4 := Lib.hid hB; clear hB
              have HF3 := Lib.hid hF; clear hF
              go_wp2_with fail
              go_roundg (go - 1)
              case measure => have := HK.out; omega
              case rel =>
                refine ⟨k + 1, F, by have := HK.out; omega, by go_num, HG3.out, HB4.out, fun i' hi' k' => ?_⟩
                rw [HF3.out i' hi' k']
                have hiff : ((k' < k ∧ (i' = who ∨ xw = (k' : Int))) ∨ (k' = k ∧ (i' = who ∨ (xw = (k : Int) ∧ i' < i)))) ↔ (k' < k + 1 ∧ (i' = who ∨ xw = (k' : Int))) := by omega
                simp only [hiff]
        · obtain rfl : k = nw := by have := HK.out; omega
          have HF := Lib.hid hF; clear hF
          have HG4 := Lib.hid hG; clear hG
          have HB4 := Lib.hid hB; clear hB
          have hrl : rest.length = o1 := by have := HO.out.len; simpa using this
          have HRL := Lib.hid hrl; clear hrl
          have hol : o1 < 1000 := by
            have h1 := HP.out.length_eq
            simp at h1
            have := HRL.out
            omega
          have hlc := left_check H1.out HL.out HF.out
          have HLC := Lib.hid hlc; clear hlc
          have hpl : (rest ++ [who]).Perm (List.range n1) := by
            rw [← HL.out]; exact (List.perm_append_singleton who rest).trans HP.out
          have HPL := Lib.hid hpl; clear hpl
          have hfl := first_left (gains' := rowsF n1 k F) (by rw [rowsF_length, HL.out]) HP.out HXW.out (fun i hi k' hk' => by
            have hi' : i < n1 := by rw [← HL.out]; exact hi
            rw [gi_rowsF F hi' hk', HF.out i hi' k']
            have hiff : (k' < k ∧ (i = who ∨ xw = (k' : Int))) ↔ (i = who ∨ xw = (k' : Int)) := by omega
            simp only [hiff])
          have HFL := Lib.hid hfl; clear hfl
          have HO4 := Lib.hid (HO.out.below (HBW2.out.trans (HB4.out.mono HBW2.out.size)) (Nat.le_refl _))
          by_cases hz : oc1 = 0
          · have htl : Ints wr (some ⟨bo, oo, none⟩) o1 0 (rest.map fun k : Nat => (k : Int)) := by
              have := HO.out.cap
              obtain rfl : o1 = 0 := by omega
              rw [List.eq_nil_of_length_eq_zero HRL.out]; exact Ints.empty _ _ _
            have HTL := Lib.hid htl; clear htl
            go_wp2_with (at_builtin; refine appAny _ rfl _ _ rfl wr.heap.size _ [] rfl (Own.nil _ _) (some ⟨bo, oo, none⟩) o1 0 (rest.map fun k : Nat => (k : Int)) rfl HTL.out (by simp; omega) (by simp) ?_)
            intro v5 w5 hown5 _ hb5 _
            have HO5 := Lib.hid hown5; clear hown5
            have HB5 := Lib.hid hb5; clear hb5
            go_wp2_with (at_builtin; refine app1 _ rfl _ _ rfl wr.heap.size _ (rest.map fun k : Nat => (k : Int)) rfl (HO5.out.alloc _) w5.heap.size 0 1 (who : Int) rfl (by simp [go_sem]) (by rw [List.length_map, HRL.out]; omega) (by have := HB5.out.size; simp; omega) ?_)
            intro g6 c6 w6 hown6 _ hb6
            rw [HRL.out] at hown6 ⊢
            have hoi := hown6.ints (by rw [List.length_append, List.length_map, HRL.out]; simp; omega) (fun x hx => by
              rw [List.mem_append, List.mem_map] at hx
              rcases hx with ⟨y, hy, rfl⟩ | hx
              · have := List.mem_range.1 (HP.out.mem_iff.1 (List.mem_cons_of_mem _ hy)); omega
              · simp at hx; omega)
            obtain ⟨a7, c7, e7, hoi⟩ := hoi
            rw [List.length_append, List.length_map, HRL.out] at hoi e7
            cases e7
            have hb7 := HB5.out.trans (((Below.refl _ w5).alloc HB5.out.size (.cells #[.int .i64 (who : Int)] 3)).trans hb6)
            have hbw := HB4.out.trans (hb7.mono HB4.out.size)
            have hbc7 := (bcell hbw).1 w.heap.size 1 hs2
            rw [d1] at hbc7
            rw [show (rest.map fun k : Nat => (k : Int)) ++ [(who : Int)] = (rest ++ [who]).map fun k : Nat => (k : Int) by simp] at hoi
            have HCC := Lib.hid (First_yes (some ⟨B, 0, none⟩) (some ⟨g6, 0, none⟩) n1 bc (o1 + 1) c6 (rowsF n1 k F) k (rest ++ [who]) w6 ((HG4.out.toRows hbc (by omega) (by omega) (fun i hi k' => by have := HLC.out.1 i hi k'; omega)).below hb7 (Nat.le_refl _)) hoi HLC.out.2 (by rw [rowsF_length]; exact isOrd_of_perm HPL.out))
            have HB7 := Lib.hid hbw; clear hbw hb7 hb6 hown6 hoi HO5 HB5
            go_wp2_with fail
            refine HCC.out.mono ?_
            rintro e w8 ⟨a8, n8, c8, rfl, hi8, hb8⟩
            clear HCC
            obtain rfl : n8 = n1 := by rw [← hi8.len, firstOf_length, rowsF_length]
            obtain ⟨b8, o8, rfl⟩ := hi8.addr (by omega)
            have cw8 := hi8.cell b8 o8 rfl who (-1) HFL.out.1
            have HI8 := Lib.hid hi8; clear hi8
            have HB8 := Lib.hid (HB7.out.trans (hb8.mono HB7.out.size)); clear hb8
            have HI9 := Lib.hid (HI2.out.below HB8.out (Nat.le_refl _))
            go_wp2_with fail
            clear cw8 hbc7
            go_loopg [14] n8 (fun g' s14 wr => ∃ j : Nat, j + g' = n8 ∧ s14 = .int .i64 j ∧ Below w8.heap.size w8 wr)
            case atStart => exact ⟨0, by omega, rfl, Below.refl _ _⟩
            case round =>
              obtain ⟨j, hj, rfl, hB⟩ := hrel
              have HJ := Lib.hid hj; clear hj
              by_cases hlj : j < n8
              · obtain ⟨y, hy, _⟩ := HI9.out.get hlj
                have cy := (HI9.out.below hB (Nat.le_refl _)).cell bh oh rfl j y hy
                have i4 : (j : Int) < (n8 : Int) := by omega
                by_cases hjw : j = who
                · have e8 : ((j : Int) != (who : Int)) = false := by simp [hjw]
                  obtain ⟨z, hz, _⟩ := HI8.out.get hlj
                  have cz := (HI8.out.below hB (Nat.le_refl _)).cell b8 o8 rfl j z hz
                  have HBJ := Lib.hid hB; clear hB
                  have HJW := Lib.hid hjw; clear hjw hy hz
                  go_wp2_with fail
                  go_quiet (fail)
                  go_wp2_with fail
                  go_roundg (gk - 1)
                  case measure => have := HJ.out; omega
                  case rel => exact ⟨j + 1, by have := HJ.out; omega, by go_num, below_drewN HBJ.out nq⟩
                · have e8 : ((j : Int) != (who : Int)) = true := by simp; omega
                  have hz := HFL.out.2 j y hjw hy
                  have cz := (HI8.out.below hB (Nat.le_refl _)).cell b8 o8 rfl j y hz
                  have e9 : (y != y) = false := by simp
                  have HBJ := Lib.hid hB; clear hB
                  have HJW := Lib.hid hjw; clear hjw hy hz
                  go_wp2_with fail
                  go_quiet (fail)
                  go_wp2_with fail
                  go_roundg (gk - 1)
                  case measure => have := HJ.out; omega
                  case rel => exact ⟨j + 1, by have := HJ.out; omega, by go_num, below_drewN HBJ.out nq⟩
              · have HBJ := Lib.hid (HB8.out.trans (hB.mono HB8.out.size)); clear hB
                go_wp2_with fail
                refine (alive_any wr).mono ?_
                rintro e w9 ⟨rfl, hb⟩
                go_wp2_with fail
                go_ret
                exact ⟨rfl, HBW2.out.trans ((HBJ.out.trans (hb.mono HBJ.out.size)).mono HBW2.out.size)⟩
          · have HTL := Lib.hid HO4.out.tail
            go_wp2_with (at_builtin; refine appAny _ rfl _ _ rfl wr.heap.size _ [] rfl (Own.nil _ _) (some ⟨bo, oo + 1, none⟩) o1 oc1 (rest.map fun k : Nat => (k : Int)) rfl HTL.out (by simp; omega) (by simp) ?_)
            intro v5 w5 hown5 _ hb5 _
            have HO5 := Lib.hid hown5; clear hown5
            have HB5 := Lib.hid hb5; clear hb5
            go_wp2_with (at_builtin; refine app1 _ rfl _ _ rfl wr.heap.size _ (rest.map fun k : Nat => (k : Int)) rfl (HO5.out.alloc _) w5.heap.size 0 1 (who : Int) rfl (by simp [go_sem]) (by rw [List.length_map, HRL.out]; omega) (by have := HB5.out.size; simp; omega) ?_)
            intro g6 c6 w6 hown6 _ hb6
            rw [HRL.out] at hown6 ⊢
            have hoi := hown6.ints (by rw [List.length_append, List.length_map, HRL.out]; simp; omega) (fun x hx => by
              rw [List.mem_append, List.mem_map] at hx
              rcases hx with ⟨y, hy, rfl⟩ | hx
              · have := List.mem_range.1 (HP.out.mem_iff.1 (List.mem_cons_of_mem _ hy)); omega
              · simp at hx; omega)
            obtain ⟨a7, c7, e7, hoi⟩ := hoi
            rw [List.length_append, List.length_map, HRL.out] at hoi e7
            cases e7
            have hb7 := HB5.out.trans (((Below.refl _ w5).alloc HB5.out.size (.cells #[.int .i64 (who : Int)] 3)).trans hb6)
            have hbw := HB4.out.trans (hb7.mono HB4.out.size)
            have hbc7 := (bcell hbw).1 w.heap.size 1 hs2
            rw [d1] at hbc7
            rw [show (rest.map fun k : Nat => (k : Int)) ++ [(who : Int)] = (rest ++ [who]).map fun k : Nat => (k : Int) by simp] at hoi
            have HCC := Lib.hid (First_yes (some ⟨B, 0, none⟩) (some ⟨g6, 0, none⟩) n1 bc (o1 + 1) c6 (rowsF n1 k F) k (rest ++ [who]) w6 ((HG4.out.toRows hbc (by omega) (by omega) (fun i hi k' => by have := HLC.out.1 i hi k'; omega)).below hb7 (Nat.le_refl _)) hoi HLC.out.2 (by rw [rowsF_length]; exact isOrd_of_perm HPL.out))
            have HB7 := Lib.hid hbw; clear hbw hb7 hb6 hown6 hoi HO5 HB5
            go_wp2_with fail
            refine HCC.out.mono ?_
            rintro e w8 ⟨a8, n8, c8, rfl, hi8, hb8⟩
            clear HCC
            obtain rfl : n8 = n1 := by rw [← hi8.len, firstOf_length, rowsF_length]
            obtain ⟨b8, o8, rfl⟩ := hi8.addr (by omega)
            have cw8 := hi8.cell b8 o8 rfl who (-1) HFL.out.1
            have HI8 := Lib.hid hi8; clear hi8
            have HB8 := Lib.hid (HB7.out.trans (hb8.mono HB7.out.size)); clear hb8
            have HI9 := Lib.hid (HI2.out.below HB8.out (Nat.le_refl _))
            go_wp2_with fail
            clear cw8 hbc7
            go_loopg [14] n8 (fun g' s14 wr => ∃ j : Nat, j + g' = n8 ∧ s14 = .int .i64 j ∧ Below w8.heap.size w8 wr)
            case atStart => exact ⟨0, by omega, rfl, Below.refl _ _⟩
            case round =>
              obtain ⟨j, hj, rfl, hB⟩ := hrel
              have HJ := Lib.hid hj; clear hj
              by_cases hlj : j < n8
              · obtain ⟨y, hy, _⟩ := HI9.out.get hlj
                have cy := (HI9.out.below hB (Nat.le_refl _)).cell bh oh rfl j y hy
                have i4 : (j : Int) < (n8 : Int) := by omega
                by_cases hjw : j = who
                · have e8 : ((j : Int) != (who : Int)) = false := by simp [hjw]
                  obtain ⟨z, hz, _⟩ := HI8.out.get hlj
                  have cz := (HI8.out.below hB (Nat.le_refl _)).cell b8 o8 rfl j z hz
                  have HBJ := Lib.hid hB; clear hB
                  have HJW := Lib.hid hjw; clear hjw hy hz
                  go_wp2_with fail
                  go_quiet (fail)
                  go_wp2_with fail
                  go_roundg (gk - 1)
                  case measure => have := HJ.out; omega
                  case rel => exact ⟨j + 1, by have := HJ.out; omega, by go_num, below_drewN HBJ.out nq⟩
                · have e8 : ((j : Int) != (who : Int)) = true := by simp; omega
                  have hz := HFL.out.2 j y hjw hy
                  have cz := (HI8.out.below hB (Nat.le_refl _)).cell b8 o8 rfl j y hz
                  have e9 : (y != y) = false := by simp
                  have HBJ := Lib.hid hB; clear hB
                  have HJW := Lib.hid hjw; clear hjw hy hz
                  go_wp2_with fail
                  go_quiet (fail)
                  go_wp2_with fail
                  go_roundg (gk - 1)
                  case measure => have := HJ.out; omega
                  case rel => exact ⟨j + 1, by have := HJ.out; omega, by go_num, below_drewN HBJ.out nq⟩
              · have HBJ := Lib.hid (HB8.out.trans (hB.mono HB8.out.size)); clear hB
                go_wp2_with fail
                refine (alive_any wr).mono ?_
                rintro e w9 ⟨rfl, hb⟩
                go_wp2_with fail
                go_ret
                exact ⟨rfl, HBW2.out.trans ((HBJ.out.trans (hb.mono HBJ.out.size)).mono HBW2.out.size)⟩
end Go.Proofs.Ytbnjeegicbffeaa
