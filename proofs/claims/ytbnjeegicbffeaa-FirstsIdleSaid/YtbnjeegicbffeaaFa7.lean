/- Walks: the law FirstsIdle. -/
import Derived.Test.YtbnjeegicbffeaaFa1
import Derived.Test.YtbnjeegicbffeaaFp6
import Derived.Test.YtbnjeegicbffeaaOwn2
import Derived.Test.YtbnjeegicbffeaaPs4
import Derived.Test.YtbnjeegicbffeaaFi1
import Derived.Deep.RegionHeld3
import Derived.Deep.DeepCutAuto
namespace Go.Proofs.Ytbnjeegicbffeaa
open Go.RowKit Sale

set_option maxRecDepth 100000 in
set_option maxHeartbeats 2000000 in
theorem firstsIdle_any (ga oa : Option Addr) (gn gc o_n oc : Nat) (gains : List (List Int)) (items : Int) (order : List Int) (at' : Nat) (w : World) (hg : Rows w ga gn gc gains) (ho : Ints w oa o_n oc order) (hsz : o_n * 8 ≤ reachBytes) (hat : at' < 256) :
    Calls Try.prog 10 #[.agg #[.slice ga gn gc, .int .i64 items], .slice oa o_n oc, .int .u8 (at' : Int)] w fun e w' => e = .returned (.bool true) ∧ Below w.heap.size w w' := by
  have HG := Lib.hid hg; clear hg
  have HO := Lib.hid ho; clear ho
  have HB0 := Lib.hid (gw_start w ga gn gc items)
  have HF := Lib.hid (First_all ga oa gn gc o_n oc gains items order (gw w ga gn gc items) (HG.out.below (gw_kept HB0.out).2.2.2 (Nat.le_refl _)) (HO.out.below (gw_kept HB0.out).2.2.2 (Nat.le_refl _)) hsz)
  have HL := Lib.hid HG.out.len
  go_enter Try.func10, Try.ntmps10
  rcases HF.out with ⟨hok, hc⟩ | ⟨n, on, rfl, rfl, h1, h2, hc⟩
  · have HC := Lib.hid hc; clear hc
    clear HF hok
    go_wp2_with fail
    refine HC.out.mono ?_
    rintro e w1 ⟨a1, n1, c1, rfl, hi1, hb1⟩
    have HB1 := Lib.hid (gw_below HB0.out hb1); clear hb1
    clear HC hi1
    obtain ⟨hc0, hc1, hs1, _⟩ := gw_kept HB1.out
    go_wp2_with fail
    refine (alive_any w1).mono ?_
    rintro e w3 ⟨rfl, hb⟩
    have HB3 := Lib.hid (gw_below HB1.out hb); clear hb
    go_wp2_with fail
    go_ret
    exact ⟨rfl, (gw_kept HB3.out).2.2.2⟩
  · have HC := Lib.hid hc; clear hc
    have H1 := Lib.hid h1; clear h1
    have H2 := Lib.hid h2; clear h2
    obtain ⟨p1, p2, p3, p4, p5⟩ := wcheck_parts H1.out
    have P4 := Lib.hid p4; clear p4
    have P5 := Lib.hid p5; clear p5
    have HP := Lib.hid (isOrd_parts H2.out)
    clear HF
    have hgn8 : gn ≤ 8 := by have := HL.out; omega
    have hon : o_n = gn := by
      have h1 := HP.out.length_eq
      have h2 := HO.out.len
      have h3 := HL.out
      simp at h1 h2
      omega
    subst hon
    by_cases hn7 : n ≤ 7
    · by_cases hg7 : o_n ≤ 7
      · have e1 : decide ((7 : Int) < (n : Int)) = false := by simp; omega
        have e2 : decide ((7 : Int) < (o_n : Int)) = false := by simp; omega
        go_wp2_with fail
        refine HC.out.mono ?_
        rintro e w1 ⟨a1, n1, c1, rfl, hi1, hb1⟩
        have HB1 := Lib.hid (gw_below HB0.out hb1); clear hb1
        have HI1 := Lib.hid hi1; clear hi1
        clear HC
        have hn1 : n1 = o_n := by rw [← HI1.out.len, firstOf_length, HL.out]
        subst hn1
        obtain ⟨c0, c1', hs0, hB1⟩ := gw_kept HB1.out
        have HBW1 := Lib.hid hB1; clear hB1
        go_wp2_with fail
        have hs1 := hs0
        go_loopg [9, 10] n1 (fun g' s9 s10 wr => ∃ k : Nat, k + g' = n1 ∧ s10 = .int .i64 k ∧ OwnRows wr w1.heap.size s9 ((gains.take k).map (· ++ [-1])) ∧ Below w1.heap.size w1 wr)
        case atStart => exact ⟨0, by omega, rfl, OwnRows.nil _ _, Below.refl _ _⟩
        case round =>
          obtain ⟨k, hk, rfl, hO, hB⟩ := hrel
          have hbc0 := (bcell hB).1 w.heap.size 0 hs0
          have hbc1 := (bcell hB).1 w.heap.size 1 hs0
          rw [c0] at hbc0
          rw [c1'] at hbc1
          obtain ⟨M, hM⟩ : ∃ M, M = (gains.take k).map (· ++ [-1]) := ⟨_, rfl⟩
          rw [← hM] at hO
          have hml : M.length = k := by rw [hM]; simp; have := HL.out; omega
          have HM := Lib.hid hM; clear hM
          have HML := Lib.hid hml; clear hml
          have HK := Lib.hid hk; clear hk
          have HOR := Lib.hid hO; clear hO
          by_cases hlt : k < n1
          · obtain ⟨l, hl⟩ := HG.out.get hlt
            obtain ⟨bg, og, rfl⟩ := HG.out.addr (by omega)
            obtain ⟨la, ln, lc, hcl, hli⟩ := (HG.out.below (HBW1.out.trans (hB.mono HBW1.out.size)) (Nat.le_refl _)).cell bg og rfl k l hl
            have hln : ln = n := by have h1 := P4.out l (List.mem_of_getElem? hl); have := hli.len; omega
            subst hln
            have hlb := P5.out l (List.mem_of_getElem? hl)
            have HLB := Lib.hid hlb; clear hlb
            have HLI := Lib.hid hli; clear hli
            have HLX := Lib.hid hl; clear hl
            have HB := Lib.hid hB; clear hB
            have i1 : (k : Int) < (n1 : Int) := by omega
            go_wp2_with (at_builtin; refine appAny _ rfl _ _ rfl wr.heap.size _ [] rfl (Own.nil _ _) la ln lc l rfl HLI.out (by simp; omega) (Nat.le_refl _) ?_)
            intro v5 w5 hown5 _ hb5 _
            have HO5 := Lib.hid hown5; clear hown5
            have HB5 := Lib.hid hb5; clear hb5
            go_wp2_with (at_builtin; refine app1 _ rfl _ _ rfl wr.heap.size _ l rfl (HO5.out.alloc _) w5.heap.size 0 1 (-1) rfl (by simp [go_sem]) (by have := HLI.out.len; omega) (by have := HB5.out.size; simp; omega) ?_)
            intro g6 c6 w6 hown6 _ hb6
            obtain ⟨a7, c7, e7, hoi⟩ := hown6.ints (by have := HLI.out.len; simp; omega) (fun x hx => by
              rcases List.mem_append.1 hx with hx | hx
              · have := HLB.out x hx; omega
              · simp at hx; omega)
            have hll := HLI.out.len
            have hbase := hown6.base
            rw [List.length_append, hll] at hoi e7
            rw [hll] at hbase ⊢
            cases e7
            have HBASE := Lib.hid hbase; clear hbase
            have HRI := Lib.hid hoi; clear hoi hown6 hll
            have hb7 := HB5.out.trans (((Below.refl _ w5).alloc HB5.out.size (.cells #[.int .i64 (-1)] 3)).trans hb6)
            have HB7 := Lib.hid hb7; clear hb7 hb6
            go_wp2_with (at_builtin; refine appRow _ rfl _ _ rfl w1.heap.size _ _ rfl (HOR.out.below (HB7.out.alloc HB7.out.size (.cells #[.slice (some ⟨g6, 0, none⟩) (ln + 1) c6] 22)) (Nat.le_refl _)) w6.heap.size 0 1 (some ⟨g6, 0, none⟩) (ln + 1) c6 _ rfl (by simp [go_sem]) (HRI.out.below ((Below.refl _ _).alloc (Nat.le_refl _) _) (Nat.le_refl _)) ?c1 (by rw [HML.out]; omega) (by have := HB.out.size; have := HB7.out.size; simp; omega) ?_)
            case c1 =>
              intro _ b o e hob
              have h1 := (HOR.out.lt b hob).2
              have h2 := HBASE.out b (by rw [e]; rfl)
              omega
            intro g' cap' w' hown' hb'
            rw [HML.out] at hown' ⊢
            have HO3 := Lib.hid hown'; clear hown'
            have HB3 := Lib.hid (((HB.out.trans (HB7.out.mono HB.out.size)).alloc (by have := HB.out.size; have := HB7.out.size; omega) (.cells #[.slice (some ⟨g6, 0, none⟩) (ln + 1) c6] 22)).trans hb'); clear hb'
            go_wp2_with fail
            go_roundg (gk - 1)
            case measure => have := HK.out; omega
            case rel =>
              refine ⟨k + 1, by have := HK.out; omega, by go_num, ?_, HB3.out⟩
              rw [List.take_add_one, HLX.out, List.map_append, ← HM.out]
              exact HO3.out
          · obtain rfl : k = n1 := by have := HK.out; omega
            have hMa : M = gains.map (· ++ [-1]) := by rw [HM.out, List.take_of_length_le (by have := HL.out; omega)]
            have HMA := Lib.hid hMa; clear hMa
            have HB := Lib.hid hB; clear hB
            go_wp2_with fail
            obtain ⟨w2, rfl⟩ : ∃ w2 : World, w2 = wr := ⟨_, rfl⟩
            have hs2 : w.heap.size < w2.heap.size := by have := HB.out.size; omega
            have HG2 := Lib.hid HOR.out
            go_loopg [11, 12] (n + 1) (fun g' s11 s12 wr => ∃ k' : Nat, k' + g' = n + 1 ∧ s12 = .int .i64 k' ∧ Own wr w2.heap.size s11 (List.replicate k' (-1)) ∧ Below w2.heap.size w2 wr)
            case atStart => exact ⟨0, by omega, rfl, Own.nil _ _, Below.refl _ _⟩
            case round =>
              obtain ⟨k', hk', rfl, hO', hB'⟩ := hrel
              have hbd0 := (bcell hB').1 w.heap.size 0 hs2
              have hbd1 := (bcell hB').1 w.heap.size 1 hs2
              rw [hbc0] at hbd0
              rw [hbc1] at hbd1
              have HK' := Lib.hid hk'; clear hk'
              have HO' := Lib.hid hO'; clear hO'
              have HB' := Lib.hid hB'; clear hB'
              by_cases hlt' : k' ≤ n
              · have i1 : (k' : Int) ≤ (n : Int) := by omega
                obtain ⟨zs, hzs⟩ : ∃ zs, zs = List.replicate k' (-1 : Int) := ⟨_, rfl⟩
                rw [← hzs] at HO'
                have hzl : zs.length = k' := by rw [hzs]; simp
                have HZ := Lib.hid hzs; clear hzs
                have HZL := Lib.hid hzl; clear hzl
                go_wp2_with (at_builtin; refine app1 _ rfl _ _ rfl w2.heap.size _ zs rfl (HO'.out.alloc _) wr.heap.size 0 1 (-1) rfl (by simp [go_sem]) (by rw [HZL.out]; omega) (by have := HB'.out.size; simp; omega) ?_)
                intro g6 c6 w6 hown6 _ hb6
                rw [HZL.out] at hown6 ⊢
                have HO3 := Lib.hid hown6; clear hown6
                have HB3 := Lib.hid ((HB'.out.alloc HB'.out.size (.cells #[.int .i64 (-1)] 3)).trans hb6); clear hb6
                go_wp2_with fail
                go_roundg (gk - 1)
                case measure => have := HK'.out; omega
                case rel => exact ⟨k' + 1, by have := HK'.out; omega, by go_num, by rw [List.replicate_succ', ← HZ.out]; exact HO3.out, HB3.out⟩
              · obtain rfl : k' = n + 1 := by have := HK'.out; omega
                have hcv : IntKind.i64.wrap (at' : Int) = (at' : Int) := IntWalk.i64_in _ (by omega)
                have HO2 := Lib.hid (HO.out.below (HBW1.out.trans ((HB.out.trans (HB'.out.mono HB.out.size)).mono HBW1.out.size)) (Nat.le_refl _))
                go_upto_region 15 with fail
                obtain ⟨kk, hie, hkk⟩ : ∃ kk : Nat, (at' : Int) % ((k : Int) + 1) = (kk : Int) ∧ kk ≤ k := ⟨at' % (k + 1), by push_cast; rfl, by have := Nat.mod_lt at' (show 0 < k + 1 by omega); omega⟩
                rw [hie]
                have HKK := Lib.hid hkk
                obtain ⟨w0, hw0⟩ : ∃ w0 : World, w0 = wr := ⟨_, rfl⟩
                rw [← hw0] at hbd0 hbd1 HO2 HO' HB' ⊢
                clear hw0
                obtain ⟨t1, ht1⟩ : ∃ t1, t1 = (on.map fun k : Nat => (k : Int)).take kk := ⟨_, rfl⟩
                obtain ⟨t2, ht2⟩ : ∃ t2, t2 = (on.map fun k : Nat => (k : Int)).drop kk := ⟨_, rfl⟩
                have hi1' := HO2.out.take' hkk
                rw [← ht1] at hi1'
                have hlen1 := hi1'.len
                have hd2 : 0 < k → ∀ b o, oa = some ⟨b, o, none⟩ → Ints w0 (some ⟨b, o + kk, none⟩) (k - kk) (oc - kk) t2 := fun _ b o e => by
                  subst e; rw [ht2]; exact HO2.out.drop hkk
                have hd0 : k - kk = 0 → t2 = [] := fun h0 => by rw [ht2]; apply List.drop_of_length_le; rw [HO2.out.len]; omega
                obtain ⟨t3, ht3⟩ : ∃ t3, t3 = t1 ++ [(k : Int)] := ⟨_, rfl⟩
                have hlen3 : t3.length = kk + 1 := by rw [ht3, List.length_append, hlen1]; rfl
                obtain ⟨t4, ht4⟩ : ∃ t4, t4 = t3 ++ t2 := ⟨_, rfl⟩
                have HT1 := Lib.hid hi1'; clear hi1'
                have HD2 := Lib.hid hd2; clear hd2
                have HD0 := Lib.hid hd0; clear hd0
                have HE1 := Lib.hid ht1; clear ht1
                have HE2 := Lib.hid ht2; clear ht2
                have HE3 := Lib.hid ht3; clear ht3
                have HE4 := Lib.hid ht4; clear ht4
                have HL1 := Lib.hid hlen1; clear hlen1
                have HL3 := Lib.hid hlen3; clear hlen3
                go_cut [14] (fun s14 wx => Own wx w0.heap.size s14 t4 ∧ Below w0.heap.size w0 wx)
                case first =>
                  refine wp_region_live' (by kernel_rfl) [73, 74, 75, 76, 77, 78, 79, 80, 81, 82, 83, 84, 85] (PF w0 w.heap.size oa ga k oc gc kk t1 t2 t3 t4) (fun i w w' => i ≠ 8 → i ≠ 12 → Below w.heap.size w w') deadF (fun w' => Below w0.heap.size w0 w') (fun _ => True) 0 (by simp) (by kernel_rfl) (by simp) (by decide) (by kernel_rfl) ?hmono (Below.refl _ _).drew trivial (fun _ _ _ _ _ _ => trivial) ?hstep ?hlast
                  case hmono => exact fun i j y w w' _ _ hd hR h => PF_mono i j y w w' hd hR h
                  case hlast =>
                    intro o v wx K ho hB hd hfree hK
                    simp only [List.length_cons, List.length_nil, Nat.reduceAdd, Nat.reduceSub, List.getElem?_cons_zero, List.getElem?_cons_succ, Option.some.injEq] at ho
                    subst ho
                    simp only [fold, Nat.zero_add, Nat.reduceAdd, List.setIfInBounds_toArray, List.set_cons_zero, List.set_cons_succ]
                    have h12 : PF w0 w.heap.size oa ga k oc gc kk t1 t2 t3 t4 12 (v 12) wx := hd ⟨12, .data⟩ (by simp) rfl
                    clear hd hfree
                    go_wp2_with fail
                    go_meet
                    exact ⟨h12, hB⟩
                  case hstep =>
                    intro i o v wx K hi ho hB _ hd hK
                    simp only [List.length_cons, List.length_nil] at hi
                    simp only [fold, Nat.zero_add, Nat.reduceAdd, List.setIfInBounds_toArray, List.set_cons_zero, List.set_cons_succ]
                    rcases (by omega : i = 0 ∨ i = 1 ∨ i = 2 ∨ i = 3 ∨ i = 4 ∨ i = 5 ∨ i = 6 ∨ i = 7 ∨ i = 8 ∨ i = 9 ∨ i = 10 ∨ i = 11 ∨ i = 12) with rfl | rfl | rfl | rfl | rfl | rfl | rfl | rfl | rfl | rfl | rfl | rfl | rfl
                    all_goals
                      simp only [List.getElem?_cons_zero, List.getElem?_cons_succ, Option.some.injEq] at ho
                      subst ho
                      simp only [fold, Nat.zero_add, Nat.reduceAdd, Act.put, List.setIfInBounds_toArray, List.set_cons_zero, List.set_cons_succ] at hK
                    · clear hd
                      go_wp2_with fail
                      exact hK _ _ hB (fun _ _ => Below.refl _ _) rfl
                    · clear hd
                      go_wp2_with fail
                      exact hK _ _ hB (fun _ _ => Below.refl _ _) rfl
                    · have d0 : v 0 = .slice oa k oc := hd ⟨0, .data⟩ (by simp) rfl
                      have d1 : v 1 = .int .i64 kk := hd ⟨1, .data⟩ (by simp) rfl
                      rw [d0, d1] at hK ⊢
                      clear hd
                      have hcap := HO2.out.cap
                      go_wp2_with fail
                      exact hK _ _ hB (fun _ _ => Below.refl _ _) ⟨_, _, rfl, HT1.out⟩
                    · obtain ⟨a2, c2, d2, hi2⟩ : PF w0 w.heap.size oa ga k oc gc kk t1 t2 t3 t4 2 (v 2) wx := hd ⟨2, .data⟩ (by simp) rfl
                      rw [d2] at hK ⊢
                      clear hd
                      go_wp2_with (at_builtin; refine appAny _ rfl _ _ rfl wx.heap.size _ [] rfl (Own.nil _ _) a2 kk c2 _ rfl (hi2.below hB (Nat.le_refl _)) (by simp; omega) (Nat.le_refl _) ?_)
                      intro v5 w5 hown5 _ hb5 _
                      go_wp2_with fail
                      exact hK _ _ (hB.trans (hb5.mono hB.size)) (fun _ _ => hb5) (hown5.lower hB.size)
                    · clear hd
                      go_wp2_with fail
                      exact hK _ _ hB (fun _ _ => Below.refl _ _) rfl
                    · have d4 : v 4 = .pointer (some ⟨w.heap.size, 0, none⟩) := hd ⟨4, .data⟩ (by simp) rfl
                      have hcc := cell_step hB hbd0
                      rw [d4] at hK ⊢
                      clear hd
                      go_wp2_with fail
                      exact hK _ _ hB (fun _ _ => Below.refl _ _) rfl
                    · have d5 : v 5 = .slice ga k gc := hd ⟨5, .data⟩ (by simp) rfl
                      rw [d5] at hK ⊢
                      clear hd
                      go_wp2_with fail
                      exact hK _ _ hB (fun _ _ => Below.refl _ _) rfl
                    · have d6 : v 6 = .int .i64 k := hd ⟨6, .data⟩ (by simp) rfl
                      rw [d6] at hK ⊢
                      clear hd
                      go_wp2_with fail
                      exact hK _ _ (hB.alloc hB.size _) (fun _ _ => (Below.refl _ _).alloc (Nat.le_refl _) _) ⟨_, rfl, by simp [go_sem]⟩
                    · have d3 : Own wx w0.heap.size (v 3) _ := hd ⟨3, .data⟩ (by simp) rfl
                      obtain ⟨g7, d7, h7⟩ : PF w0 w.heap.size oa ga k oc gc kk t1 t2 t3 t4 7 (v 7) wx := hd ⟨7, .data⟩ (by simp) rfl
                      rw [d7] at hK ⊢
                      clear hd
                      go_wp2_with (at_builtin; refine app1 _ rfl _ _ rfl w0.heap.size _ _ rfl d3 g7 0 1 (k : Int) rfl h7 (by rw [HL1.out]; omega) hB.size ?_)
                      intro g' cap' w' hown' _ hb'
                      rw [← HE3.out, HL1.out] at hown'
                      rw [HL1.out]
                      go_wp2_with fail
                      exact hK _ _ (hB.trans hb') (fun h _ => absurd rfl h) hown'
                    · clear hd
                      go_wp2_with fail
                      exact hK _ _ hB (fun _ _ => Below.refl _ _) rfl
                    · clear hd
                      go_wp2_with fail
                      exact hK _ _ hB (fun _ _ => Below.refl _ _) rfl
                    · have d9 : v 9 = .slice oa k oc := hd ⟨9, .data⟩ (by simp) rfl
                      have d10 : v 10 = .int .i64 kk := hd ⟨10, .data⟩ (by simp) rfl
                      rw [d9, d10] at hK ⊢
                      clear hd
                      have hcap := HO2.out.cap
                      by_cases hk0 : k - kk = 0
                      · have ht2 := HD0.out hk0
                        have HT2 := Lib.hid ht2; clear ht2
                        have HK0 := Lib.hid hk0; clear hk0
                        by_cases hoc : oc = kk
                        · obtain rfl : oc = k := by have := HK0.out; have := HKK.out; omega
                          obtain rfl : kk = oc := hoc.symm
                          go_wp2_with fail
                          refine hK (.slice oa 0 0) _ hB (fun _ _ => Below.refl _ _) ⟨oa, 0, by rw [Nat.sub_self], ?_⟩
                          rw [HT2.out, Nat.sub_self]
                          exact Ints.empty _ _ _ (fun _ => rfl)
                        · have hnil : oa ≠ none := fun e => by have := HO2.out.nil e; omega
                          obtain ⟨ad, rfl⟩ := Option.ne_none_iff_exists'.1 hnil
                          go_wp2_with fail
                          refine hK (.slice (some (ad.add kk)) (k - kk) (oc - kk)) _ hB (fun _ _ => Below.refl _ _) ⟨_, _, rfl, ?_⟩
                          rw [HT2.out, HK0.out]
                          exact Ints.empty _ _ _ (fun e => by cases e)
                      · obtain ⟨bo, oo, rfl⟩ := HO2.out.addr (by omega)
                        have hne : ¬ oc = kk := by omega
                        go_wp2_with fail
                        exact hK _ _ hB (fun _ _ => Below.refl _ _) ⟨_, _, rfl, HD2.out (by omega) bo oo rfl⟩
                    · have d8 : Own wx w0.heap.size (v 8) _ := hd ⟨8, .data⟩ (by simp) rfl
                      obtain ⟨a11, c11, d11, h11⟩ : PF w0 w.heap.size oa ga k oc gc kk t1 t2 t3 t4 11 (v 11) wx := hd ⟨11, .data⟩ (by simp) rfl
                      rw [d11] at hK ⊢
                      clear hd
                      go_wp2_with (at_builtin; refine appAny _ rfl _ _ rfl w0.heap.size _ _ rfl d8 a11 (k - kk) c11 _ rfl (h11.below hB (Nat.le_refl _)) (by rw [HL3.out]; omega) hB.size ?_)
                      intro v5 w5 hown5 _ hb5 _
                      rw [← HE4.out] at hown5
                      go_wp2_with fail
                      exact hK _ _ (hB.trans hb5) (fun _ h => absurd rfl h) hown5
                case rest =>
                obtain ⟨hO14, hB14⟩ := hcut
                -- what lies in memory ahead of the second region
                have hRW := (HG2.out.step HB'.out).step (hB14.mono (Nat.le_refl _))
                have hsz0 : w2.heap.size ≤ w0.heap.size := HB'.out.size
                have hap9 : ∀ b, u9.ownBlock = some b → b < w2.heap.size := fun b hb => (HG2.out.lt b hb).2
                obtain ⟨ai, ci, rfl, hii⟩ := HO'.out.ints (by simp; omega) (fun x hx => by have := (List.mem_replicate.1 hx).2; omega)
                rw [List.length_replicate] at hii ⊢
                have hbi := HO'.out.base
                rw [List.length_replicate] at hbi
                have ht4b : ∀ x, x ∈ t4 → -9223372036854775808 ≤ x ∧ x ≤ 9223372036854775807 := fun x hx => by
                  rw [HE4.out, HE3.out, HE1.out, HE2.out] at hx
                  have hk8 := hgn8
                  rcases List.mem_append.1 hx with hx | hx
                  · rcases List.mem_append.1 hx with hx | hx
                    · exact HO2.out.bd x (List.mem_of_mem_take hx)
                    · simp at hx; omega
                  · exact HO2.out.bd x (List.mem_of_mem_drop hx)
                have ht4l : t4.length = k + 1 := by
                  rw [HE4.out, List.length_append, HL3.out, HE2.out, List.length_drop, HO2.out.len]
                  have := HKK.out; omega
                obtain ⟨ao, co, rfl, hoi⟩ := hO14.ints (by rw [ht4l]; omega) ht4b
                rw [ht4l] at hoi ⊢
                have hbo := hO14.base
                rw [ht4l] at hbo
                have hsep : 0 < k + 1 → ∀ b o, ao = some ⟨b, o, none⟩ → u9.ownBlock ≠ some b := fun _ b o e hb => by
                  have h1 := hap9 b hb
                  have h2 := hbo b (by rw [e]; rfl)
                  omega
                have hsepi : 0 < n + 1 → ∀ b o, ai = some ⟨b, o, none⟩ → u9.ownBlock ≠ some b := fun _ b o e hb => by
                  have h1 := hap9 b hb
                  have h2 := hbi b (by rw [e]; rfl)
                  omega
                have hii2 := hii.step (hB14.mono (Nat.le_refl _))
                have hBw : Below w1.heap.size w1 wc := (HB.out.trans (HB'.out.mono HB.out.size)).trans (hB14.mono (by have := HB.out.size; omega))
                have HRW := Lib.hid hRW; clear hRW
                have HII := Lib.hid hii2; clear hii hii2 hbi
                have HOI := Lib.hid hoi; clear hoi hbo ht4b hO14
                have HSEP := Lib.hid hsep; clear hsep
                have HSEPI := Lib.hid hsepi; clear hsepi
                have HBW := Lib.hid hBw; clear hBw hB14 hap9 ht4l hsz0
                have HE := Lib.hid (show t4 = (on.map fun k : Nat => (k : Int)).take kk ++ [(k : Int)] ++ (on.map fun k : Nat => (k : Int)).drop kk by rw [HE4.out, HE3.out, HE1.out, HE2.out])
                clear HT1 HD2 HD0 HE1 HE2 HE3 HE4 HL1 HL3 hkk hie
                clear hbd0 hbd1 hbc0 hbc1 HO2 HO' HB' HG2 HOR
                have c1w : wc.cell? ⟨w.heap.size, 1, none⟩ = some (.int .i64 n) := cell_step HBW.out c1'
                go_upto_region 16 with fail
                go_cut [15, 16] (fun s15 s16 wx => (∃ a m c, s15 = .slice a m c ∧ Ints wx a m c (firstOf gains n on ++ [-1])) ∧ s16 = .int .i64 0 ∧ Below w1.heap.size w1 wx)
                case first =>
                  refine wp_region_live' (by kernel_rfl) [87, 88, 89, 90, 91, 92, 93, 94, 95, 86, 96, 97, 15] (PG w1.heap.size w.heap.size u9 ai ao n k ci co M (List.replicate (n + 1) (-1)) t4 (firstOf gains n on ++ [-1])) (fun i w w' => (i ≠ 3 → Below w.heap.size w w') ∧ (i = 3 → w.grownBy w' u9.ownBlock)) deadG (fun w' => Below w1.heap.size w1 w' ∧ Ints w' ai (n + 1) ci (List.replicate (n + 1) (-1)) ∧ Ints w' ao (k + 1) co t4) (fun w' => OwnRows w' w1.heap.size u9 M) 3 (by simp) (by kernel_rfl) (by simp) (by decide) (by kernel_rfl) ?hmono ⟨HBW.out.drew, HII.out.drew, HOI.out.drew⟩ (HRW.out.below (Below.refl wc.heap.size wc).drew (Nat.le_refl _)) (fun i w w' hi hR h => h.step (hR.1 hi)) ?hstep ?hlast
                  case hmono => exact fun i j y w w' _ _ hd hR h => PG_mono HSEP.out i j y w w' hd hR h
                  case hlast =>
                    intro o v wx K ho hS hd hfree hK
                    have hB := hS.1
                    simp only [List.length_cons, List.length_nil, Nat.reduceAdd, Nat.reduceSub, List.getElem?_cons_zero, List.getElem?_cons_succ, Option.some.injEq] at ho
                    subst ho
                    simp only [fold, Nat.zero_add, Nat.reduceAdd, List.setIfInBounds_toArray, List.set_cons_zero, List.set_cons_succ]
                    have d11 : v 11 = .int .i64 0 := hd ⟨11, .data⟩ (by simp) rfl
                    obtain ⟨a5, m5, c5, d12, h12⟩ : PG w1.heap.size w.heap.size u9 ai ao n k ci co M (List.replicate (n + 1) (-1)) t4 (firstOf gains n on ++ [-1]) 12 (v 12) wx := hfree 12 (by simp) (by kernel_rfl)
                    rw [d11, d12]
                    clear hd hfree
                    go_wp2_with fail
                    go_meet
                    exact ⟨⟨a5, m5, c5, rfl, h12⟩, rfl, hB⟩
                  case hstep =>
                    intro i o v wx K hi ho hS hpre hd hK
                    have hB := hS.1
                    have hSk : ∀ w', Below wx.heap.size wx w' → Below w1.heap.size w1 w' ∧ Ints w' ai (n + 1) ci (List.replicate (n + 1) (-1)) ∧ Ints w' ao (k + 1) co t4 := fun w' hb => ⟨hB.trans (hb.mono hB.size), hS.2.1.step hb, hS.2.2.step hb⟩
                    simp only [List.length_cons, List.length_nil] at hi
                    simp only [fold, Nat.zero_add, Nat.reduceAdd, List.setIfInBounds_toArray, List.set_cons_zero, List.set_cons_succ]
                    rcases (by omega : i = 0 ∨ i = 1 ∨ i = 2 ∨ i = 3 ∨ i = 4 ∨ i = 5 ∨ i = 6 ∨ i = 7 ∨ i = 8 ∨ i = 9 ∨ i = 10 ∨ i = 11 ∨ i = 12) with rfl | rfl | rfl | rfl | rfl | rfl | rfl | rfl | rfl | rfl | rfl | rfl | rfl
                    all_goals
                      simp only [List.getElem?_cons_zero, List.getElem?_cons_succ, Option.some.injEq] at ho
                      subst ho
                      simp only [fold, Nat.zero_add, Nat.reduceAdd, Act.put, List.setIfInBounds_toArray, List.set_cons_zero, List.set_cons_succ] at hK
                    · have h9 : OwnRows wx w1.heap.size u9 M := hpre (.inr (by kernel_rfl))
                      clear hd
                      go_wp2_with fail
                      exact hK _ _ hS ⟨fun _ => Below.refl _ _, fun h => absurd h (by decide)⟩ ⟨rfl, h9⟩
                    · clear hd
                      go_wp2_with fail
                      exact hK _ _ hS ⟨fun _ => Below.refl _ _, fun h => absurd h (by decide)⟩ ⟨rfl, hS.2.1⟩
                    · obtain ⟨d1, h1⟩ : PG w1.heap.size w.heap.size u9 ai ao n k ci co M (List.replicate (n + 1) (-1)) t4 (firstOf gains n on ++ [-1]) 1 (v 1) wx := hd ⟨1, .data⟩ (by simp) rfl
                      rw [d1] at hK ⊢
                      clear hd
                      go_wp2_with fail
                      exact hK _ _ (hSk _ ((Below.refl _ _).alloc (Nat.le_refl _) _)) ⟨fun _ => (Below.refl _ _).alloc (Nat.le_refl _) _, fun h => absurd h (by decide)⟩ ⟨_, rfl, by simp [go_sem], h1.step ((Below.refl _ _).alloc (Nat.le_refl _) _)⟩
                    · obtain ⟨d0, h0⟩ : PG w1.heap.size w.heap.size u9 ai ao n k ci co M (List.replicate (n + 1) (-1)) t4 (firstOf gains n on ++ [-1]) 0 (v 0) wx := hd ⟨0, .data⟩ (by simp) rfl
                      obtain ⟨g2, d2, h2, hi2⟩ : PG w1.heap.size w.heap.size u9 ai ao n k ci co M (List.replicate (n + 1) (-1)) t4 (firstOf gains n on ++ [-1]) 2 (v 2) wx := hd ⟨2, .data⟩ (by simp) rfl
                      rw [d0, d2] at hK ⊢
                      clear hd
                      go_wp2_with (at_builtin; refine appRowG _ rfl _ _ rfl w1.heap.size _ _ rfl h0 g2 0 1 ai (n + 1) ci _ rfl h2 hi2 HSEPI.out (by rw [HML.out]; omega) hB.size ?_)
                      intro g' cap' w' hown' hb' hgr
                      rw [HML.out] at hown' ⊢
                      go_wp2_with fail
                      exact hK _ _ ⟨hB.trans hb', hS.2.1.kept hgr HSEPI.out, hS.2.2.kept hgr HSEP.out⟩ ⟨fun h => absurd rfl h, fun _ => hgr⟩ hown'
                    · clear hd
                      go_wp2_with fail
                      exact hK _ _ hS ⟨fun _ => Below.refl _ _, fun h => absurd h (by decide)⟩ rfl
                    · have d4 : v 4 = .pointer (some ⟨w.heap.size, 1, none⟩) := hd ⟨4, .data⟩ (by simp) rfl
                      have hcc := cell_step hB c1'
                      rw [d4] at hK ⊢
                      clear hd
                      go_wp2_with fail
                      exact hK _ _ hS ⟨fun _ => Below.refl _ _, fun h => absurd h (by decide)⟩ rfl
                    · have d5 : v 5 = .int .i64 n := hd ⟨5, .data⟩ (by simp) rfl
                      rw [d5] at hK ⊢
                      clear hd
                      go_wp2_with fail
                      exact hK _ _ hS ⟨fun _ => Below.refl _ _, fun h => absurd h (by decide)⟩ rfl
                    · clear hd
                      go_wp2_with fail
                      exact hK _ _ hS ⟨fun _ => Below.refl _ _, fun h => absurd h (by decide)⟩ ⟨rfl, hS.2.2⟩
                    · have h3 : OwnRows wx w1.heap.size (v 3) (M ++ [List.replicate (n + 1) (-1)]) := hd ⟨3, .data⟩ (by simp) rfl
                      have d6 : v 6 = .int .i64 ((n : Int) + 1) := hd ⟨6, .data⟩ (by simp) rfl
                      obtain ⟨d7, h7⟩ : PG w1.heap.size w.heap.size u9 ai ao n k ci co M (List.replicate (n + 1) (-1)) t4 (firstOf gains n on ++ [-1]) 7 (v 7) wx := hd ⟨7, .data⟩ (by simp) rfl
                      have hml1 : (M ++ [List.replicate (n + 1) (-1)]).length = k + 1 := by rw [List.length_append, HML.out]; rfl
                      obtain ⟨a3, c3, d3, h3r⟩ := h3.rows (by rw [hml1]; omega)
                      rw [hml1] at d3 h3r
                      rw [HMA.out] at h3r
                      rw [d3, d6, d7] at hK ⊢
                      clear hd hml1 h3
                      go_wp2_with fail
                      refine (First_idle H1.out H2.out hn7 hg7 HL.out a3 ao c3 co wx t4 HE.out h3r h7).mono ?_
                      rintro e w' ⟨a4, m4, c4, rfl, hi4, hb4⟩
                      go_wp2_with fail
                      exact hK _ _ (hSk _ hb4) ⟨fun _ => hb4, fun h => absurd h (by decide)⟩ ⟨a4, m4, c4, rfl, hi4⟩
                    · obtain ⟨a4, m4, c4, d8, h8⟩ : PG w1.heap.size w.heap.size u9 ai ao n k ci co M (List.replicate (n + 1) (-1)) t4 (firstOf gains n on ++ [-1]) 8 (v 8) wx := hd ⟨8, .data⟩ (by simp) rfl
                      rw [d8] at hK ⊢
                      clear hd
                      go_wp2_with fail
                      exact hK _ _ hS ⟨fun _ => Below.refl _ _, fun h => absurd h (by decide)⟩ ⟨a4, m4, c4, rfl, h8⟩
                    · obtain ⟨a4, m4, c4, d9, h9⟩ : PG w1.heap.size w.heap.size u9 ai ao n k ci co M (List.replicate (n + 1) (-1)) t4 (firstOf gains n on ++ [-1]) 9 (v 9) wx := hd ⟨9, .data⟩ (by simp) rfl
                      rw [d9] at hK ⊢
                      clear hd
                      go_wp2_with fail
                      exact hK _ _ hS ⟨fun _ => Below.refl _ _, fun h => absurd h (by decide)⟩ ⟨a4, m4, c4, rfl, h9⟩
                    · obtain ⟨a4, m4, c4, d9, h9⟩ : PG w1.heap.size w.heap.size u9 ai ao n k ci co M (List.replicate (n + 1) (-1)) t4 (firstOf gains n on ++ [-1]) 9 (v 9) wx := hd ⟨9, .data⟩ (by simp) rfl
                      rw [d9] at hK ⊢
                      clear hd
                      go_wp2_with fail
                      exact hK _ _ hS ⟨fun _ => Below.refl _ _, fun h => absurd h (by decide)⟩ rfl
                    · obtain ⟨a4, m4, c4, d10, h10⟩ : PG w1.heap.size w.heap.size u9 ai ao n k ci co M (List.replicate (n + 1) (-1)) t4 (firstOf gains n on ++ [-1]) 10 (v 10) wx := hd ⟨10, .data⟩ (by simp) rfl
                      rw [d10] at hK ⊢
                      clear hd
                      go_wp2_with fail
                      exact hK _ _ hS ⟨fun _ => Below.refl _ _, fun h => absurd h (by decide)⟩ ⟨a4, m4, c4, rfl, h10⟩
                case rest =>
                obtain ⟨⟨a5, m5, c5, rfl, hi5⟩, rfl, hB5⟩ := hcut
                have HI5 := Lib.hid hi5; clear hi5
                have HI1b := Lib.hid (HI1.out.step hB5)
                have HB5 := Lib.hid hB5; clear hB5
                have hfl : (firstOf gains n on).length = k := HI1b.out.len
                have HFL := Lib.hid hfl; clear hfl
                have hfg := firstOf_ge gains n on
                have HFG := Lib.hid hfg; clear hfg
                have hsb := (HBW1.out.trans (HB5.out.mono HBW1.out.size))
                have HSB := Lib.hid hsb; clear hsb
                clear HRW HII HOI HSEP HSEPI c1w HBW c0 c1' hs0 hs1 hs2 HB HG HO HB0 HB1 HBW1 HI1 HB5
                go_wp2_with fail
                refine (alive_any wc).mono ?_
                rintro e w7 ⟨rfl, hb⟩
                have HI7 := Lib.hid (HI5.out.step hb)
                have HJ7 := Lib.hid (HI1b.out.step hb)
                have HSB7 := Lib.hid (HSB.out.trans (hb.mono HSB.out.size)); clear hb HI5 HI1b HSB
                go_wp2_with (at_builtin; refine appAnyGd _ rfl _ _ rfl w7.heap.size _ [] rfl (Own.nil _ _) a1 k c1 _ rfl HJ7.out (by simp; omega) (Nat.le_refl _) ?_)
                intro v8 w8 hown8 hb8
                have HO8 := Lib.hid hown8; clear hown8
                have HB8 := Lib.hid hb8; clear hb8
                go_wp2_with (at_builtin; refine app1Gd _ rfl _ _ rfl w7.heap.size _ (firstOf gains n on) rfl (HO8.out.alloc _) w8.heap.size (-1) rfl (by simp [go_sem]) k HFL.out (by omega) (by have := HB8.out.size; simp; omega) ?_)
                intro va9 vc9 w9 hown9 hb9
                have hb79 := (HB8.out.alloc HB8.out.size (.cells #[.int .i64 (-1)] 3)).trans hb9
                obtain ⟨a9, cc9, e9, hoi⟩ := hown9.ints (by rw [List.length_append, HFL.out]; simp; omega) (fun x hx => by
                  have hk8 := hgn8
                  rcases List.mem_append.1 hx with hx | hx
                  · exact HJ7.out.bd x hx
                  · simp at hx; omega)
                rw [List.length_append, HFL.out] at e9 hoi
                cases e9
                have HI9 := Lib.hid (HI7.out.step hb79)
                have HSB9 := Lib.hid (HSB7.out.trans (hb79.mono HSB7.out.size)); clear hb79 hb9 hown9
                have HOI := Lib.hid hoi; clear hoi
                go_wp2_with fail
                refine (same_any a5 _ m5 c5 _ _ _ _ w9 HI9.out HOI.out).mono ?_
                rw [decide_eq_true rfl]
                rintro e w10 ⟨rfl, hb⟩
                have HSB10 := Lib.hid (HSB9.out.trans (hb.mono HSB9.out.size)); clear hb
                go_wp2_with fail
                go_ret
                exact ⟨rfl, HSB10.out⟩
      · have e2 : decide ((7 : Int) < (o_n : Int)) = true := by simp; omega
        have e1 : decide ((7 : Int) < (n : Int)) = false := by simp; omega
        go_wp2_with fail
        refine HC.out.mono ?_
        rintro e w1 ⟨a1, n1, c1, rfl, hi1, hb1⟩
        have HB1 := Lib.hid (gw_below HB0.out hb1); clear hb1
        clear HC hi1
        obtain ⟨hc0, hc1, hs1, _⟩ := gw_kept HB1.out
        go_wp2_with fail
        refine (alive_any w1).mono ?_
        rintro e w3 ⟨rfl, hb⟩
        have HB3 := Lib.hid (gw_below HB1.out hb); clear hb
        go_wp2_with fail
        go_ret
        exact ⟨rfl, (gw_kept HB3.out).2.2.2⟩
    · have e1 : decide ((7 : Int) < (n : Int)) = true := by simp; omega
      go_wp2_with fail
      refine HC.out.mono ?_
      rintro e w1 ⟨a1, n1, c1, rfl, hi1, hb1⟩
      have HB1 := Lib.hid (gw_below HB0.out hb1); clear hb1
      clear HC hi1
      obtain ⟨hc0, hc1, hs1, _⟩ := gw_kept HB1.out
      go_wp2_with fail
      refine (alive_any w1).mono ?_
      rintro e w3 ⟨rfl, hb⟩
      have HB3 := Lib.hid (gw_below HB1.out hb); clear hb
      go_wp2_with fail
      go_ret
      exact ⟨rfl, (gw_kept HB3.out).2.2.2⟩
end Go.Proofs.Ytbnjeegicbffeaa
