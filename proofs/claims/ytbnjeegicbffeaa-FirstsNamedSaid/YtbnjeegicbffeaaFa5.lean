/- Walks: the law FirstsNamed. -/
import Derived.Test.YtbnjeegicbffeaaFa1
import Derived.Test.YtbnjeegicbffeaaFp4
import Derived.Test.YtbnjeegicbffeaaVRow
namespace Go.Proofs.Ytbnjeegicbffeaa
open Go.RowKit Sale

/-- the lists by the new names, of the first k -/
def gvals (V : Nat → Value) (by' n k : Nat) : List Value := (List.range n).map fun j => if bk by' n j < k then V (bk by' n j) else .slice none 0 0
theorem gvals_zero (V : Nat → Value) (by' n : Nat) : gvals V by' n 0 = List.replicate n (.slice none 0 0) := by
  simp [gvals, List.map_const']
theorem gvals_set {V : Nat → Value} {by' n k : Nat} (hb : by' < n) (hk : k < n) : (gvals V by' n k).set (mv by' n k) (V k) = gvals V by' n (k + 1) := by
  apply List.ext_getElem?
  intro j
  rw [List.getElem?_set]
  by_cases hj : j < n
  · by_cases e : mv by' n k = j
    · have e2 := (mv_eq hb hk hj).1 e
      simp [e, gvals, hj, e2]
    · have e2 : bk by' n j ≠ k := fun e' => e ((mv_eq hb hk hj).2 e')
      have e3 : (bk by' n j < k + 1) = (bk by' n j < k) := by rw [eq_iff_iff]; omega
      simp [e, gvals, hj, e3]
  · have hm := mv_lt (by' := by') (n := n) (by omega) k
    rw [if_neg (by omega), List.getElem?_eq_none (by simp [gvals]; omega), List.getElem?_eq_none (by simp [gvals]; omega)]

set_option maxRecDepth 100000 in
set_option maxHeartbeats 2000000 in
theorem firstsNamed_any (ga oa : Option Addr) (gn gc o_n oc : Nat) (gains : List (List Int)) (items : Int) (order : List Int) (far : Nat) (w : World) (hg : Rows w ga gn gc gains) (ho : Ints w oa o_n oc order) (hsz : o_n * 8 ≤ reachBytes) (hfar : far < 256) :
    Calls Try.prog 7 #[.agg #[.slice ga gn gc, .int .i64 items], .slice oa o_n oc, .int .u8 (far : Int)] w fun e w' => e = .returned (.bool true) ∧ Below w.heap.size w w' := by
  have HG := Lib.hid hg; clear hg
  have HO := Lib.hid ho; clear ho
  have HB0 := Lib.hid (gw_start w ga gn gc items)
  have HF := Lib.hid (First_all ga oa gn gc o_n oc gains items order (gw w ga gn gc items) (HG.out.below (gw_kept HB0.out).2.2.2 (Nat.le_refl _)) (HO.out.below (gw_kept HB0.out).2.2.2 (Nat.le_refl _)) hsz)
  have HL := Lib.hid HG.out.len
  go_enter Try.func7, Try.ntmps7
  rcases HF.out with ⟨hok, hc⟩ | ⟨n, on, rfl, rfl, h1, h2, hc⟩
  · have HC := Lib.hid hc; clear hc
    clear HF hok
    go_wp2_with fail
    refine HC.out.mono ?_
    rintro e w1 ⟨a1, n1, c1, rfl, hi1, hb1⟩
    have HB1 := Lib.hid (gw_below HB0.out hb1); clear hb1
    clear HC hi1
    obtain ⟨hc0, hc1, hs1, _⟩ := gw_kept HB1.out
    go_wp2_with fail
    refine (alive_any w1).mono ?_
    rintro e w3 ⟨rfl, hb⟩
    have HB3 := Lib.hid (gw_below HB1.out hb); clear hb
    go_wp2_with fail
    go_ret
    exact ⟨rfl, (gw_kept HB3.out).2.2.2⟩
  · have HC := Lib.hid hc; clear hc
    have H1 := Lib.hid h1; clear h1
    have H2 := Lib.hid h2; clear h2
    obtain ⟨p1, p2, p3, p4, p5⟩ := wcheck_parts H1.out
    have P4 := Lib.hid p4; clear p4
    have P5 := Lib.hid p5; clear p5
    clear HF
    go_wp2_with fail
    refine HC.out.mono ?_
    rintro e w1 ⟨a1, n1, c1, rfl, hi1, hb1⟩
    have HB1 := Lib.hid (gw_below HB0.out hb1); clear hb1
    have HI1 := Lib.hid hi1; clear hi1
    clear HC
    have hn1 : n1 = gn := by rw [← HI1.out.len, firstOf_length, HL.out]
    subst hn1
    obtain ⟨hc0, hc1, hs1, _⟩ := gw_kept HB1.out
    have hord := isOrd_parts H2.out
    have HP := Lib.hid hord; clear hord
    have HBW1 := Lib.hid (gw_kept HB1.out).2.2.2
    have hgb := HG.out.big
    have hob := HO.out.big
    have HC0 := Lib.hid (And.intro hc0 hc1)
    clear hc0 hc1 hs1
    have hs0 : w.heap.size < w1.heap.size := (gw_kept HB1.out).2.2.1
    have c0 := HC0.out.1
    have c1' := HC0.out.2
    have hgn8 : n1 ≤ 8 := by have := HL.out; omega
    have hon : o_n = n1 := by
      have h1 := HO.out.len
      have h2 := HP.out.length_eq
      have h3 := HL.out
      simp at h1 h2
      omega
    subst hon
    by_cases h0 : o_n = 0
    · subst h0
      go_wp2_with fail
      refine (alive_any w1).mono ?_
      rintro e w3 ⟨rfl, hb⟩
      have HB3 := Lib.hid (gw_below HB1.out hb); clear hb
      clear c0 c1'
      obtain ⟨c0, c1', _, _⟩ := gw_kept HB3.out
      go_wp2_with fail
      go_ret
      exact ⟨rfl, (gw_kept HB3.out).2.2.2⟩
    · have hpos : 0 < o_n := by omega
      have e0 : ((o_n : Int) == 0) = false := by simp; omega
      obtain ⟨q, hq⟩ : ∃ q : Nat, q = far % o_n := ⟨_, rfl⟩
      have hqn : q < o_n := by rw [hq]; exact Nat.mod_lt _ hpos
      have hmod : (far : Int) % (o_n : Int) = (q : Int) := by rw [hq]; push_cast; rfl
      clear h0
      have HQ := Lib.hid hq; clear hq
      have hmk := mkRows o_n (by omega)
      have e1 : ((o_n : Int) != (o_n : Int)) = false := by simp
      go_wp2_with fail
      rw [hmod]
      obtain ⟨bg, og, rfl⟩ := HG.out.addr hpos
      have hrow : ∀ i, i < o_n → ∃ v : Value, w.cell? ⟨bg, og + i, none⟩ = some v ∧ ∃ l a' n' c', gains[i]? = some l ∧ v = .slice a' n' c' ∧ Ints w a' n' c' l := fun i hi => by
        obtain ⟨l, hl⟩ := HG.out.get hi
        obtain ⟨a', n', c', h1, h2⟩ := HG.out.cell bg og rfl i l hl
        exact ⟨_, h1, l, a', n', c', hl, rfl, h2⟩
      obtain ⟨V, hV⟩ := Deep.choose_lt hrow
      have HV := Lib.hid hV; clear hV hrow
      have HR := Lib.hid (((Below.refl w1.heap.size w1).alloc (Nat.le_refl _) (.cells (List.replicate o_n (Value.slice none 0 0)).toArray 22)))
      go_loopg [12, 13] o_n (fun g s12 s13 wr => ∃ k : Nat, k + g = o_n ∧ s13 = .int .i64 k ∧ Own wr (w1.heap.size + 1) s12 ((on.take k).map fun x => ((mv q o_n x : Nat) : Int)) ∧ VRow wr w1.heap.size 22 (gvals V q o_n k) ∧ Below w1.heap.size w1 wr ∧ w1.heap.size < wr.heap.size)
      case atStart => exact ⟨0, by omega, rfl, Own.nil _ _, by rw [gvals_zero]; exact VRow.new _ _ _, HR.out, by simp⟩
      case round =>
        obtain ⟨k, hk, rfl, hO, hVR, hB, hsz2⟩ := hrel
        have hbc0 := (bcell hB).1 w.heap.size 0 hs0
        rw [c0] at hbc0
        have hBw : Below w.heap.size w wr := HBW1.out.trans (hB.mono HBW1.out.size)
        have HB2 := Lib.hid hB; clear hB
        have HBW := Lib.hid hBw; clear hBw
        by_cases hlt : k < o_n
        · obtain ⟨x, hx⟩ : ∃ x, on[k]? = some x := ⟨on[k]'(by have := HP.out.length_eq; have := HL.out; simp at *; omega), by simp⟩
          have hxl : x < o_n := by have := List.mem_range.1 (HP.out.mem_iff.1 (List.mem_of_getElem? hx)); have := HL.out; omega
          obtain ⟨bo, oo, rfl⟩ := HO.out.addr hpos
          have hcx := (HO.out.below HBW.out (Nat.le_refl _)).cell bo oo rfl k x (by simp [hx])
          have hbo : bo < w.heap.size := by
            have := HO.out.cell bo oo rfl k x (by simp [hx])
            exact block_lt_of_cell this
          have hbo2 : ¬ (w1.heap.size = bo) := by omega
          have hbo3 : ¬ (bo = w1.heap.size) := by omega
          obtain ⟨hv1, l, a', n', c', hl, hve, hli⟩ := HV.out k hlt
          have hcv : wr.cell? ⟨bg, og + k, none⟩ = some (.slice a' n' c') := by
            rw [HBW.out.cell (p := ⟨bg, og + k, none⟩) (block_lt_of_cell hv1), hv1, hve]
          obtain ⟨j, hj⟩ : ∃ j, j = mv q o_n k := ⟨_, rfl⟩
          obtain ⟨y, hy⟩ : ∃ y, y = mv q o_n x := ⟨_, rfl⟩
          have hjn : j < o_n := by rw [hj]; exact mv_lt hpos _
          have hyn : y < o_n := by rw [hy]; exact mv_lt hpos _
          have hm1 : ((k : Int) + (q : Int)) % (o_n : Int) = (j : Int) := by rw [hj]; unfold mv; push_cast; rfl
          have hm2 : ((x : Int) + (q : Int)) % (o_n : Int) = (y : Int) := by rw [hy]; unfold mv; push_cast; rfl
          have hm3 : ((k : Int) + (q : Int)).tmod (o_n : Int) = (j : Int) := by rw [Int.tmod_eq_emod_of_nonneg (by omega)]; exact hm1
          have hw1 : IntKind.i64.wrap ((k : Int) + (q : Int)) = (k : Int) + (q : Int) := IntWalk.i64_in _ (by omega)
          have hw2 : IntKind.i64.wrap (j : Int) = (j : Int) := IntWalk.i64_in _ (by omega)
          have hwf := hVR.frozen j
          obtain ⟨u, hu⟩ : ∃ u, (gvals V q o_n k)[j]? = some u := ⟨_, List.getElem?_eq_getElem (by simp [gvals]; exact hjn)⟩
          have hwc := hVR.cell hu
          have i1 : (k : Int) < (o_n : Int) := by omega
          have i2 : (j : Int) < (o_n : Int) := by omega
          have HJ := Lib.hid hj; clear hj
          have HY := Lib.hid hy; clear hy
          have HX := Lib.hid hx; clear hx
          have HU := Lib.hid hu; clear hu
          have HVR := Lib.hid hVR; clear hVR
          obtain ⟨zs, hzs⟩ : ∃ zs, zs = (on.take k).map fun x => ((mv q o_n x : Nat) : Int) := ⟨_, rfl⟩
          rw [← hzs] at hO
          have hzl : zs.length = k := by rw [hzs]; simp; have := HP.out.length_eq; have := HL.out; simp at *; omega
          have HZ := Lib.hid hzs; clear hzs
          have HZL := Lib.hid hzl; clear hzl
          have HO2 := Lib.hid hO; clear hO
          have HLL := Lib.hid hl; clear hl
          have HVE := Lib.hid hve; clear hve
          have HV1 := Lib.hid hv1; clear hv1
          have HLI := Lib.hid hli; clear hli
          have HK := Lib.hid hk; clear hk
          go_wp2_with fail
          go_region
          go_wp2_with (at_builtin; refine app1 _ rfl _ _ rfl (w1.heap.size + 1) _ zs rfl (((HO2.out.other (by simp) _).drew).alloc _) wr.heap.size 0 1 (y : Int) rfl (by simp [go_sem]) (by rw [HZL.out]; omega) (by simp; omega) ?_)
          intro g' cap' w' hown' hgr' hb'
          rw [HZL.out] at hown' ⊢
          have HO3 := Lib.hid hown'; clear hown'
          have HB3 := Lib.hid hb'; clear hb' hgr'
          go_wp2_with fail
          go_roundg (gk - 1)
          case measure => have := HK.out; omega
          case rel =>
            have hst : Below w1.heap.size w1 (((wr.setCell ⟨w1.heap.size, j, none⟩ (.slice a' n' c')).drew).alloc (.cells #[.int .i64 (y : Int)] 3)) := ((HB2.out.setCell (by simp) _).drew).alloc (by simp; omega) _
            refine ⟨k + 1, by have := HK.out; omega, by go_num, ?_, ?_, hst.trans (HB3.out.mono (by omega)), ?_⟩
            · rw [List.take_add_one, HX.out, List.map_append, ← HZ.out]
              simpa [← HY.out] using HO3.out
            · rw [← gvals_set hqn hlt, ← HJ.out, HVE.out]
              exact (((HVR.out.set j _).drew).alloc _).below HB3.out (by omega)
            · have := HB3.out.size; simp at this; omega
        · obtain rfl : k = o_n := by omega
          have hgl : gains.length = k := HL.out
          have hlen : on.length = k := by have := HP.out.length_eq; simp at this; omega
          have htk : (on.take k).map (fun x => ((mv q k x : Nat) : Int)) = (on.map (mv q k)).map fun z : Nat => (z : Int) := by
            rw [List.take_of_length_le (by omega), List.map_map]; rfl
          rw [htk] at hO
          obtain ⟨oa2, oc2, rfl, hoi⟩ := hO.ints (by simp; omega) (fun z hz => by
            obtain ⟨j, hj, rfl⟩ := List.mem_map.1 hz
            obtain ⟨x, _, rfl⟩ := List.mem_map.1 hj
            have := mv_lt (by' := q) hpos x
            omega)
          rw [show ((on.map (mv q k)).map fun z : Nat => (z : Int)).length = k by simp; exact hlen] at hoi ⊢
          have hrows := hVR.rows (xss := namedG q gains) (by simp [gvals, namedG_length, hgl]) (by rw [namedG_length]; omega) (fun i xs hi => by
            have hil : i < k := by have := (List.getElem?_eq_some_iff.1 hi).1; rw [namedG_length] at this; omega
            rw [namedG_get (by omega), hgl] at hi
            obtain ⟨hv1, l, a', n', c', hl, hve, hli⟩ := HV.out (bk q k i) (bk_lt hpos i)
            rw [hl] at hi
            cases hi
            refine ⟨a', n', c', ?_, hli.below HBW.out (Nat.le_refl _)⟩
            rw [← hve]
            simp [gvals, hil, bk_lt hpos i])
          rw [namedG_length, hgl] at hrows
          have HROWS := Lib.hid hrows; clear hrows
          have HOI := Lib.hid hoi; clear hoi
          clear hO hVR htk HV
          have hokw : wcheck (namedG q gains) n = true := wcheck_of (by omega) (by omega) (by rw [namedG_length]; omega) (fun l hl => P4.out l (namedG_mem hl)) (fun l hl => P5.out l (namedG_mem hl))
          have hoko : isOrd ((on.map (mv q k)).map fun z : Nat => (z : Int)) (namedG q gains).length = true := by
            rw [namedG_length]
            have := HP.out
            rw [hgl] at this ⊢
            exact isOrd_of_perm (perm_named hqn this)
          have HC2 := Lib.hid (First_yes (some ⟨w1.heap.size, 0, none⟩) oa2 k k k oc2 (namedG q gains) n (on.map (mv q k)) wr HROWS.out HOI.out hokw hoko)
          clear hokw hoko
          have hc1 := (bcell HB2.out).1 w.heap.size 1 hs0
          rw [c1'] at hc1
          have HGL := Lib.hid hgl; clear hgl
          have HLEN := Lib.hid hlen; clear hlen
          go_wp2_with fail
          refine HC2.out.mono ?_
          rintro e w4 ⟨a4, n4, c4, rfl, hi4, hb4⟩
          obtain rfl : n4 = k := by rw [← hi4.len, firstOf_length, namedG_length, HGL.out]
          clear HC2
          have HI4 := Lib.hid hi4; clear hi4
          have HB4 := Lib.hid (HB2.out.trans (hb4.mono HB2.out.size)); clear hb4
          have hne4 : ((n4 : Int) != (n4 : Int)) = false := by simp
          have HR4 := Lib.hid (Below.refl w4.heap.size w4)
          go_wp2_with fail
          go_loopg [16] n4 (fun g s16 wr => ∃ k : Nat, k + g = n4 ∧ s16 = .int .i64 k ∧ Below w4.heap.size w4 wr)
          case atStart => exact ⟨0, by omega, rfl, HR4.out⟩
          case round =>
            obtain ⟨k, hk, rfl, hB⟩ := hrel
            have HB5 := Lib.hid hB; clear hB
            have HK := Lib.hid hk; clear hk
            by_cases hlt : k < n4
            · obtain ⟨j, hj⟩ : ∃ j, j = mv q n4 k := ⟨_, rfl⟩
              have hjn : j < n4 := by rw [hj]; exact mv_lt hpos _
              have hm1 : ((k : Int) + (q : Int)) % (n4 : Int) = (j : Int) := by rw [hj]; unfold mv; push_cast; rfl
              have hm3 : ((k : Int) + (q : Int)).tmod (n4 : Int) = (j : Int) := by rw [Int.tmod_eq_emod_of_nonneg (by omega)]; exact hm1
              have hw1 : IntKind.i64.wrap ((k : Int) + (q : Int)) = (k : Int) + (q : Int) := IntWalk.i64_in _ (by omega)
              have hw2 : IntKind.i64.wrap (j : Int) = (j : Int) := IntWalk.i64_in _ (by omega)
              obtain ⟨x, hx, _⟩ := HI1.out.get hlt
              obtain ⟨b1, o1, rfl⟩ := HI1.out.addr hpos
              obtain ⟨b4, o4, rfl⟩ := HI4.out.addr hpos
              have hsame := firstOf_named (n := n) (by' := q) (gains := gains) (by rw [HGL.out]; exact hqn) HP.out (i := k) (by rw [HGL.out]; exact hlt)
              rw [HGL.out, ← hj, hx] at hsame
              have hcx := (HI1.out.below (HB4.out.trans (HB5.out.mono HB4.out.size)) (Nat.le_refl _)).cell b1 o1 rfl k x hx
              have hcy := (HI4.out.below HB5.out (Nat.le_refl _)).cell b4 o4 rfl j x hsame
              have hxx : (x != x) = false := by simp
              have i1 : (k : Int) < (n4 : Int) := by omega
              have i2 : (j : Int) < (n4 : Int) := by omega
              have HJ := Lib.hid hj; clear hj
              have HX := Lib.hid hx; clear hx
              have HSAME := Lib.hid hsame; clear hsame
              go_wp2_with fail
              go_quiet (fail)
              go_wp2_with fail
              go_roundg (gk - 1)
              case measure => have := HK.out; omega
              case rel => exact ⟨k + 1, by have := HK.out; omega, by go_num, below_drewN HB5.out _⟩
            · go_wp2_with fail
              refine (alive_any wr).mono ?_
              rintro e w5 ⟨rfl, hb⟩
              have hall := HB4.out.trans (HB5.out.mono HB4.out.size)
              have HALL := Lib.hid hall; clear hall
              go_wp2_with fail
              go_ret
              exact ⟨rfl, (HBW1.out.trans (HALL.out.mono HBW1.out.size)).trans (hb.mono (by have := HBW1.out.size; have := HALL.out.size; omega))⟩
end Go.Proofs.Ytbnjeegicbffeaa
