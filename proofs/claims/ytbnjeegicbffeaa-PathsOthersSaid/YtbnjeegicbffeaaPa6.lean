/- Walks: the law PathsOthers. -/
import Derived.Test.YtbnjeegicbffeaaPp6
import Derived.Test.YtbnjeegicbffeaaPl2
import Derived.Test.YtbnjeegicbffeaaPa5
import Derived.Test.YtbnjeegicbffeaaTw2
namespace Go.Proofs.Ytbnjeegicbffeaa
open Go.RowKit

theorem risesFrom_len {many : Int} : ∀ {l : List Int} {last : Int}, risesFrom many last l = true → l = [] ∨ last + l.length < many
  | [], _, _ => .inl rfl
  | n :: l, last, h => by
    simp only [risesFrom, Bool.and_eq_true, decide_eq_true_eq] at h
    right
    rcases risesFrom_len h.2 with rfl | h'
    · simp; omega
    · simp; omega

/-- a table of lists, which may be written -/
structure TRows (w : World) (B n : Nat) (vals : List Value) (xss : List (List Int)) : Prop where
  tab : Tab w B 22 vals
  len : vals.length = n
  xlen : xss.length = n
  row : ∀ (j : Nat) (xs : List Int), xss[j]? = some xs → ∃ a k c, vals[j]? = some (Value.slice a k c) ∧ Ints w a k c xs ∧ (0 < k → ∀ b o : Nat, a = some ⟨b, o, none⟩ → b ≠ B)

theorem TRows.below {w w' : World} {B B' n : Nat} {vals : List Value} {xss : List (List Int)} (h : TRows w B n vals xss) (hb : Below B' w w') (hB : w.heap.size ≤ B') : TRows w' B n vals xss :=
  ⟨h.tab.below hb (by have := h.tab.lt; omega), h.len, h.xlen, fun j xs hj => by
    obtain ⟨a, k, c, h1, h2, h3⟩ := h.row j xs hj
    exact ⟨a, k, c, h1, h2.below hb hB, h3⟩⟩

theorem TRows.put {w : World} {B n i : Nat} {vals : List Value} {xss : List (List Int)} (h : TRows w B n vals xss) {a : Option Addr} {k c : Nat} {xs : List Int} (hi : Ints w a k c xs) (hne : 0 < k → ∀ b o : Nat, a = some ⟨b, o, none⟩ → b ≠ B) :
    TRows (w.setCell ⟨B, i, none⟩ (.slice a k c)) B n (vals.set i (.slice a k c)) (xss.set i xs) :=
  ⟨h.tab.set i _, by rw [List.length_set]; exact h.len, by rw [List.length_set]; exact h.xlen, fun j ys hj => by
    by_cases e : i = j
    · subst e
      have hl : i < xss.length := by have := (List.getElem?_eq_some_iff.1 hj).1; simpa using this
      rw [List.getElem?_set_self hl] at hj
      cases hj
      exact ⟨a, k, c, by rw [List.getElem?_set_self (by have := h.len; have := h.xlen; omega)], hi.other hne _, hne⟩
    · rw [List.getElem?_set_ne e] at hj
      obtain ⟨a', k', c', h1, h2, h3⟩ := h.row j ys hj
      exact ⟨a', k', c', by rw [List.getElem?_set_ne e]; exact h1, h2.other h3 _, h3⟩⟩

theorem TRows.rows {w : World} {B n c : Nat} {vals : List Value} {xss : List (List Int)} (h : TRows w B n vals xss) (hc : n ≤ c) (hbig : n ≤ 4611686018427387904) : Rows w (some ⟨B, 0, none⟩) n c xss :=
  ⟨h.xlen, hc, hbig, fun _ => ⟨_, _, rfl⟩, fun b o e j xs hj => by
    cases e
    obtain ⟨a, k, c', h1, h2, _⟩ := h.row j xs hj
    exact ⟨a, k, c', by rw [Nat.zero_add]; exact h.tab.cell h1, h2⟩⟩

theorem TRows.of {w : World} {base B n : Nat} {vals : List Value} {gs : List Nat} {xss : List (List Int)} (ht : Tab w B 22 vals) (hl : vals.length = n) (hx : xss.length = n) (h : TwinsOf w base B vals gs xss)
    (hbig : ∀ xs, xs ∈ xss → xs.length ≤ 100000) (hbd : ∀ xs, xs ∈ xss → ∀ x, x ∈ xs → -9223372036854775808 ≤ x ∧ x ≤ 9223372036854775807) : TRows w B n vals xss :=
  ⟨ht, hl, hx, fun j xs hj => by
    obtain ⟨g, hg⟩ : ∃ g, gs[j]? = some g := ⟨_, List.getElem?_eq_getElem (by rw [h.len]; exact (List.getElem?_eq_some_iff.1 hj).1)⟩
    obtain ⟨c, h1, h2, h3⟩ := h.row j xs g hj hg
    have hm := List.mem_of_getElem? hj
    exact ⟨_, _, c, h1, h3.ints h2 (by have := hbig xs hm; omega) (hbd xs hm), fun _ b o e => by cases e; exact (h.at' g (List.mem_of_getElem? hg)).2.1⟩⟩

theorem oRow_none {m : List Int} {i : Nat} (h : m[i]? = some (-1)) : oRow m i = [] := by simp [oRow, hasAt_of h]
theorem oRow_some {m : List Int} {i : Nat} {x : Int} (h : m[i]? = some x) (hne : x ≠ -1) (hx : 0 ≤ x) : nats (oRow m i) = [x] := by
  simp [oRow, hasAt_of h, hne, nats]; omega

theorem rows8 {G : List (List Nat)} {items : Int} (h : gcheck (G.map nats) items = true) (xs : List Int) (hx : xs ∈ G.map nats) : xs.length ≤ 100000 ∧ ∀ x, x ∈ xs → -9223372036854775808 ≤ x ∧ x ≤ 9223372036854775807 := by
  obtain ⟨q1, q2, _, q4⟩ := gcheck_parts h
  refine ⟨?_, fun x hm => by have := risesFrom_bd (q4 xs hx) x hm; omega⟩
  rcases risesFrom_len (q4 xs hx) with rfl | h'
  · simp
  · omega

theorem who_mem {ws : List Nat} {i : Nat} : (i : Int) ∈ sorted (nats ws) ↔ i ∈ ws := by
  rw [(sorted_perm _).mem_iff, nats, List.mem_map]
  exact ⟨fun ⟨a, h, e⟩ => by have : a = i := by omega
                             exact this ▸ h, fun h => ⟨i, h, rfl⟩⟩

set_option maxRecDepth 100000 in
set_option maxHeartbeats 2000000 in
theorem pathsOthers_any (ga ma : Option Addr) (gn gc mn mc : Nat) (g : List (List Int)) (items : Int) (m : List Int) (start : Int) (w : World) (hg : Rows w ga gn gc g) (hm : Ints w ma mn mc m) :
    Calls Try.prog 12 #[.agg #[.slice ga gn gc, .int .i64 items], .slice ma mn mc, .int .i64 start] w fun e w' => e = .returned (.bool true) ∧ Below w.heap.size w w' := by
  have HG := Lib.hid hg; clear hg
  have HM := Lib.hid hm; clear hm
  have HB0 := Lib.hid (pw_start w ga gn gc items)
  have hgr := HG.out.below (pw_kept HB0.out).2.2.2 (Nat.le_refl _)
  have hmr := HM.out.below (pw_kept HB0.out).2.2.2 (Nat.le_refl _)
  rcases bCase g items m start with hok | ⟨G, f, rfl, rfl, hok⟩
  · have HC := Lib.hid (More_no ga ma gn gc mn mc g items start m (pw w ga gn gc items) hgr hmr hok)
    have HOK := Lib.hid hok
    clear hgr hmr hok
    go_enter Try.func12, Try.ntmps12
    go_wp2_with fail
    refine HC.out.mono ?_
    rintro e w1 ⟨rfl, hb1⟩
    have HB1 := Lib.hid (pw_below HB0.out hb1); clear hb1 HC
    obtain ⟨c0, c1, hs1, hB1⟩ := pw_kept HB1.out
    have HC := Lib.hid (Reach_no ga ma gn gc mn mc g items start m w1 (HG.out.below hB1 (Nat.le_refl _)) (HM.out.below hB1 (Nat.le_refl _)) HOK.out)
    clear hB1
    go_wp2_with fail
    refine HC.out.mono ?_
    rintro e w2 ⟨rfl, hb⟩
    have HB2 := Lib.hid (pw_below HB1.out hb); clear hb
    go_wp2_with fail
    refine (alive7_any w2).mono ?_
    rintro e w3 ⟨rfl, hb⟩
    have HB3 := Lib.hid (pw_below HB2.out hb); clear hb
    go_wp2_with fail
    go_ret
    exact ⟨rfl, (pw_kept HB3.out).2.2.2⟩
  · have HC := Lib.hid (More_res ga ma gn gc mn mc f G items m (pw w ga gn gc items) hgr hmr hok)
    have hbo := bOk_parts hok
    have HBO := Lib.hid hbo; clear hbo
    have HGC := Lib.hid (bOk_gcheck hok)
    have HOK := Lib.hid hok
    clear hgr hmr hok
    have hmG : mn = G.length := by have := HBO.out.len; have := HM.out.len; omega
    have hGn : G.length = gn := by have := HG.out.len; simpa using this
    have hmn8 : mn ≤ 8 := by have := HBO.out.n8; omega
    obtain rfl : mn = gn := by omega
    clear hmG
    have HGN := Lib.hid hGn; clear hGn
    have hfm : f < mn := by have := HBO.out.lt; have := HM.out.len; omega
    obtain ⟨bm, om, rfl⟩ := HM.out.addr (by omega)
    obtain ⟨s, hs⟩ : ∃ s, s = reachOf G m f := ⟨_, rfl⟩
    have HS := Lib.hid hs; clear hs
    cases hmo : moreOf G m f with
    | none =>
      rw [hmo] at HC
      have HMO := Lib.hid hmo; clear hmo
      go_enter Try.func12, Try.ntmps12
      go_wp2_with fail
      refine HC.out.mono ?_
      rintro e w1 ⟨rfl, hb1⟩
      have HB1 := Lib.hid (pw_below HB0.out hb1); clear hb1 HC
      obtain ⟨c0, c1, hs1, hB1⟩ := pw_kept HB1.out
      have hC := Reach_yes ga (some ⟨bm, om, none⟩) mn gc mn mc f G items m w1 (HG.out.below hB1 (Nat.le_refl _)) (HM.out.below hB1 (Nat.le_refl _)) HOK.out
      rw [← HM.out.len] at hC
      rw [show Way.full (nbOf G) (Way.holdTo (hasAt m) m.length) f = reachOf G m f from rfl, HM.out.len, ← HS.out] at hC
      have HC := Lib.hid hC; clear hC hB1
      go_wp2_with fail
      refine HC.out.mono ?_
      rintro e w2 ⟨a1, n1, a2, n2, rfl, hi1, hi2, hb2⟩
      have HB2 := Lib.hid (pw_below HB1.out hb2); clear hb2 HC
      have HI1 := Lib.hid hi1; clear hi1 hi2
      clear c0 c1 hs1
      obtain ⟨c0, c1, hs2, hB2⟩ := pw_kept HB2.out
      have HM2 := Lib.hid (HM.out.below hB2 (Nat.le_refl _))
      have HBW2 := Lib.hid hB2; clear hB2
      have HC := Lib.hid (twinLists_any ga mn gc (G.map nats) w2 (HG.out.below HBW2.out (Nat.le_refl _)) (by omega) (fun xs hx => (rows8 HGC.out xs hx).1))
      go_wp2_with fail
      refine HC.out.mono ?_
      rintro e w3 ⟨B, bc, vals, gs, rfl, hbc, hT, hvl, hBB, hTw, hb3⟩
      have htr := TRows.of hT hvl (by simp [HGN.out]) hTw (fun xs hx => (rows8 HGC.out xs hx).1) (fun xs hx => (rows8 HGC.out xs hx).2)
      rw [← oTo_zero G m s.ws] at htr
      have HTR := Lib.hid htr; clear htr hT hTw
      have HB3 := Lib.hid hb3; clear hb3 HC
      go_wp2_with fail
      go_loopg [14] mn (fun g' s14 wr => ∃ (i : Nat) (vals : List Value), i + g' = mn ∧ s14 = .int .i64 i ∧ TRows wr B mn vals ((oTo G m s.ws i).map nats) ∧ Below w2.heap.size w2 wr)
      case atStart => exact ⟨0, vals, by omega, rfl, HTR.out, HB3.out⟩
      case round =>
        obtain ⟨i, vals, hi, rfl, hA, hB⟩ := hrel
        have HI := Lib.hid hi; clear hi
        have HA := Lib.hid hA; clear hA
        have HB := Lib.hid hB; clear hB
        by_cases hlt : i < mn
        · obtain ⟨x, hx, _⟩ := HM.out.get hlt
          have hmi := HM2.out.below HB.out (Nat.le_refl _)
          have cm := hmi.cell bm om rfl i x hx
          have HHAS := Lib.hid (lhas_any a1 n1 n1 (sorted (nats s.ws)) (i : Int) wr (HI1.out.below HB.out (Nat.le_refl _)))
          clear hmi
          have HX := Lib.hid hx; clear hx
          by_cases him : i ∈ s.ws
          · have e1 : decide ((i : Int) ∈ sorted (nats s.ws)) = true := by simpa [who_mem] using him
            rw [e1] at HHAS
            have HIM := Lib.hid him; clear him
            go_wp2_with fail
            refine HHAS.out.mono ?_
            rintro e w5 ⟨rfl, rfl⟩
            go_wp2_with fail
            go_roundg (gk - 1)
            case measure => have := HI.out; omega
            case rel => exact ⟨i + 1, vals, by have := HI.out; omega, by go_num, by rw [oTo_in HIM.out]; exact HA.out, HB.out⟩
          · have e1 : decide ((i : Int) ∈ sorted (nats s.ws)) = false := by simpa [who_mem] using him
            rw [e1] at HHAS
            have HIM := Lib.hid him; clear him
            have cf := HA.out.tab.frozen i
            obtain ⟨v0, hv0⟩ : ∃ v, vals[i]? = some v := ⟨_, List.getElem?_eq_getElem (by rw [HA.out.len]; exact hlt)⟩
            have cv := HA.out.tab.cell hv0
            have hset : (((oTo G m s.ws i).map nats).set i (nats (oRow m i))) = (oTo G m s.ws (i + 1)).map nats := by rw [← List.map_set, oTo_set (by have := HGN.out; omega) HIM.out]
            have HSET := Lib.hid hset; clear hset hv0
            have i1 : (i : Int) < (mn : Int) := by omega
            have hsm := HB.out.size
            have hbmB : bm < w2.heap.size := HM2.out.lt (by omega) rfl
            have hbmne : bm ≠ B := by omega
            by_cases hx1 : x = -1
            · have f1 : (x != -1) = false := by simp [hx1]
              have hor : nats (oRow m i) = [] := by rw [oRow_none (hx1 ▸ HX.out)]; rfl
              rw [hor] at HSET
              have HX1 := Lib.hid hx1; clear hx1 hor
              go_wp2_with fail
              refine HHAS.out.mono ?_
              rintro e w5 ⟨rfl, rfl⟩
              go_wp2_with fail
              go_quiet (fail)
              go_wp2_with fail
              go_roundg (gk - 1)
              case measure => have := HI.out; omega
              case rel =>
                refine ⟨i + 1, vals.set i (.slice none 0 0), by have := HI.out; omega, by go_num, ?_, (below_drewN HB.out nq).setCell (by simp; omega) _⟩
                have := (HA.out.below (below_drewN (Below.refl wr.heap.size wr) nq) (Nat.le_refl _)).put (i := i) (Ints.empty _ none 0) (fun h => by omega)
                rw [HSET.out] at this
                exact this
            · have f1 : (x != -1) = true := by simp [hx1]
              have hor : nats (oRow m i) = [x] := oRow_some HX.out hx1 (by have := (HBO.out.bd x (List.mem_of_getElem? HX.out)).1; omega)
              rw [hor] at HSET
              have hx8 := HBO.out.bd x (List.mem_of_getElem? HX.out)
              have HX8 := Lib.hid hx8; clear hx8
              have HX1 := Lib.hid hx1; clear hx1 hor
              go_wp2_with fail
              refine HHAS.out.mono ?_
              rintro e w5 ⟨rfl, rfl⟩
              go_wp2_with fail
              go_quiet (fail)
              have HA2 := Lib.hid ((HA.out.below (below_drewN (Below.refl wr.heap.size wr) nq) (Nat.le_refl _)).put (i := i) (Ints.empty _ none 0) (fun h => by omega))
              have hbn : Below w2.heap.size w2 ((wr.drewN nq).setCell ⟨B, i, none⟩ (.slice none 0 0)) := (below_drewN HB.out nq).setCell (by simp; omega) _
              have HB2 := Lib.hid hbn; clear hbn
              have cm2 := (HM2.out.below HB2.out (Nat.le_refl _)).cell bm om rfl i x HX.out
              have cf2 := HA2.out.tab.frozen i
              have cv2 := HA2.out.tab.cell (k := i) (v := .slice none 0 0) (by rw [List.getElem?_set_self (by rw [HA.out.len]; exact hlt)])
              have ha3 : Below ((wr.drewN nq).setCell ⟨B, i, none⟩ (.slice none 0 0)).heap.size ((wr.drewN nq).setCell ⟨B, i, none⟩ (.slice none 0 0)) (((wr.drewN nq).setCell ⟨B, i, none⟩ (.slice none 0 0)).alloc (.cells #[.int .i64 x] 3)) := (Below.refl _ _).alloc (Nat.le_refl _) _
              have HA3 := Lib.hid (HA2.out.below ha3 (Nat.le_refl _))
              have HB3 := Lib.hid (HB2.out.trans (ha3.mono HB2.out.size))
              clear ha3
              have cf3 := HA3.out.tab.frozen i
              have cv3 := HA3.out.tab.cell (k := i) (v := .slice none 0 0) (by rw [List.getElem?_set_self (by rw [HA.out.len]; exact hlt)])
              clear HHAS
              go_wp2_with fail
              have hi3 : Ints (((wr.drewN nq).setCell ⟨B, i, none⟩ (.slice none 0 0)).alloc (.cells #[.int .i64 x] 3)) (some ⟨wr.heap.size, 0, none⟩) 1 1 [x] := by
                have := Ints.one (w := (wr.drewN nq).setCell ⟨B, i, none⟩ (.slice none 0 0)) (t := 3) x (by have := HX8.out; omega)
                simpa using this
              have hBlt := HA.out.tab.lt
              have HA4 := Lib.hid (HA3.out.put (i := i) hi3 (fun _ b o e => by cases e; omega))
              rw [List.set_set, List.set_set, HSET.out] at HA4
              clear hi3
              go_roundg (gk - 1)
              case measure => have := HI.out; omega
              case rel => exact ⟨i + 1, _, by have := HI.out; omega, by go_num, HA4.out, HB3.out.setCell (by simp; omega) _⟩
        · obtain rfl : i = mn := by have := HI.out; omega
          have hokO := oTo_ok HOK.out s.ws i
          have hbc3 := (bcell HB.out).1 w.heap.size 1 hs2
          rw [c1] at hbc3
          have hC := More_res (some ⟨B, 0, none⟩) (some ⟨bm, om, none⟩) i bc i mc f (oTo G m s.ws i) items m wr (HA.out.rows hbc (by omega)) (HM2.out.below HB.out (Nat.le_refl _)) hokO
          rw [HS.out, oTo_more HBO.out, HMO.out] at hC
          have HC := Lib.hid hC; clear hC hokO
          have hBw := HBW2.out.trans (HB.out.mono HBW2.out.size)
          have HBW := Lib.hid hBw; clear hBw
          go_wp2_with fail
          refine HC.out.mono ?_
          rintro e w5 ⟨rfl, hb5⟩
          have HB5 := Lib.hid (HBW.out.trans (hb5.mono HBW.out.size)); clear hb5
          go_wp2_with fail
          refine (alive7_any w5).mono ?_
          rintro e w6 ⟨rfl, hb⟩
          have HB6 := Lib.hid (HB5.out.trans (hb.mono HB5.out.size)); clear hb
          go_wp2_with fail
          refine (same_any none none 0 0 0 0 [] [] w6 (Ints.empty _ none 0) (Ints.empty _ none 0)).mono ?_
          rintro e w7 ⟨rfl, hb⟩
          have HB7 := Lib.hid (HB6.out.trans (hb.mono HB6.out.size)); clear hb
          go_wp2_with fail
          go_ret
          exact ⟨rfl, HB7.out⟩
    | some l =>
      obtain ⟨k0, ws0, hmv⟩ := moved HBO.out hmo
      have HMV := Lib.hid hmv; clear hmv
      rw [hmo] at HC
      have HMO := Lib.hid hmo; clear hmo
      go_enter Try.func12, Try.ntmps12
      go_wp2_with fail
      refine HC.out.mono ?_
      rintro e w1 ⟨al, rfl, hil, hb1⟩
      have HIL := Lib.hid hil; clear hil
      have HB1 := Lib.hid (pw_below HB0.out hb1); clear hb1 HC
      obtain ⟨c0, c1, hs1, hB1⟩ := pw_kept HB1.out
      have hC := Reach_yes ga (some ⟨bm, om, none⟩) mn gc mn mc f G items m w1 (HG.out.below hB1 (Nat.le_refl _)) (HM.out.below hB1 (Nat.le_refl _)) HOK.out
      rw [← HM.out.len] at hC
      rw [show Way.full (nbOf G) (Way.holdTo (hasAt m) m.length) f = reachOf G m f from rfl, HM.out.len, ← HS.out] at hC
      have HC := Lib.hid hC; clear hC hB1
      go_wp2_with fail
      refine HC.out.mono ?_
      rintro e w2 ⟨a1, n1, a2, n2, rfl, hi1, hi2, hb2⟩
      have HB2 := Lib.hid (pw_below HB1.out hb2); clear HC
      have HI1 := Lib.hid hi1; clear hi1 hi2
      have HIL2 := Lib.hid (HIL.out.below hb2 (Nat.le_refl _))
      obtain ⟨bl, ol, rfl⟩ := HIL2.out.addr (by omega)
      have e3 : ((mn : Int) != (mn : Int)) = false := by simp
      clear c0 c1 hs1 hb2
      obtain ⟨c0, c1, hs2, hB2⟩ := pw_kept HB2.out
      have HM2 := Lib.hid (HM.out.below hB2 (Nat.le_refl _))
      have HBW2 := Lib.hid hB2; clear hB2
      have HC := Lib.hid (twinLists_any ga mn gc (G.map nats) w2 (HG.out.below HBW2.out (Nat.le_refl _)) (by omega) (fun xs hx => (rows8 HGC.out xs hx).1))
      go_wp2_with fail
      refine HC.out.mono ?_
      rintro e w3 ⟨B, bc, vals, gs, rfl, hbc, hT, hvl, hBB, hTw, hb3⟩
      have htr := TRows.of hT hvl (by simp [HGN.out]) hTw (fun xs hx => (rows8 HGC.out xs hx).1) (fun xs hx => (rows8 HGC.out xs hx).2)
      rw [← oTo_zero G m s.ws] at htr
      have HTR := Lib.hid htr; clear htr hT hTw
      have HB3 := Lib.hid hb3; clear hb3 HC
      go_wp2_with fail
      go_loopg [14] mn (fun g' s14 wr => ∃ (i : Nat) (vals : List Value), i + g' = mn ∧ s14 = .int .i64 i ∧ TRows wr B mn vals ((oTo G m s.ws i).map nats) ∧ Below w2.heap.size w2 wr)
      case atStart => exact ⟨0, vals, by omega, rfl, HTR.out, HB3.out⟩
      case round =>
        obtain ⟨i, vals, hi, rfl, hA, hB⟩ := hrel
        have HI := Lib.hid hi; clear hi
        have HA := Lib.hid hA; clear hA
        have HB := Lib.hid hB; clear hB
        by_cases hlt : i < mn
        · obtain ⟨x, hx, _⟩ := HM.out.get hlt
          have hmi := HM2.out.below HB.out (Nat.le_refl _)
          have cm := hmi.cell bm om rfl i x hx
          have HHAS := Lib.hid (lhas_any a1 n1 n1 (sorted (nats s.ws)) (i : Int) wr (HI1.out.below HB.out (Nat.le_refl _)))
          clear hmi
          have HX := Lib.hid hx; clear hx
          by_cases him : i ∈ s.ws
          · have e1 : decide ((i : Int) ∈ sorted (nats s.ws)) = true := by simpa [who_mem] using him
            rw [e1] at HHAS
            have HIM := Lib.hid him; clear him
            go_wp2_with fail
            refine HHAS.out.mono ?_
            rintro e w5 ⟨rfl, rfl⟩
            go_wp2_with fail
            go_roundg (gk - 1)
            case measure => have := HI.out; omega
            case rel => exact ⟨i + 1, vals, by have := HI.out; omega, by go_num, by rw [oTo_in HIM.out]; exact HA.out, HB.out⟩
          · have e1 : decide ((i : Int) ∈ sorted (nats s.ws)) = false := by simpa [who_mem] using him
            rw [e1] at HHAS
            have HIM := Lib.hid him; clear him
            have cf := HA.out.tab.frozen i
            obtain ⟨y, hy, _⟩ := HIL2.out.get hlt
            have cl := (HIL2.out.below HB.out (Nat.le_refl _)).cell bl ol rfl i y hy
            have hyx := HMV.out.same HBO.out (by rw [← HS.out]; exact HIM.out) HX.out hy
            rw [hyx] at cl
            clear hy hyx
            have f2 : (x != x) = false := by simp
            obtain ⟨v0, hv0⟩ : ∃ v, vals[i]? = some v := ⟨_, List.getElem?_eq_getElem (by rw [HA.out.len]; exact hlt)⟩
            have cv := HA.out.tab.cell hv0
            have hset : (((oTo G m s.ws i).map nats).set i (nats (oRow m i))) = (oTo G m s.ws (i + 1)).map nats := by rw [← List.map_set, oTo_set (by have := HGN.out; omega) HIM.out]
            have HSET := Lib.hid hset; clear hset hv0
            have i1 : (i : Int) < (mn : Int) := by omega
            have hsm := HB.out.size
            have hbmB : bm < w2.heap.size := HM2.out.lt (by omega) rfl
            have hbmne : bm ≠ B := by omega
            by_cases hx1 : x = -1
            · have f1 : (x != -1) = false := by simp [hx1]
              have hor : nats (oRow m i) = [] := by rw [oRow_none (hx1 ▸ HX.out)]; rfl
              rw [hor] at HSET
              have HX1 := Lib.hid hx1; clear hx1 hor
              go_wp2_with fail
              refine HHAS.out.mono ?_
              rintro e w5 ⟨rfl, rfl⟩
              go_wp2_with fail
              go_quiet (fail)
              go_wp2_with fail
              go_roundg (gk - 1)
              case measure => have := HI.out; omega
              case rel =>
                refine ⟨i + 1, vals.set i (.slice none 0 0), by have := HI.out; omega, by go_num, ?_, (below_drewN HB.out nq).setCell (by simp; omega) _⟩
                have := (HA.out.below (below_drewN (Below.refl wr.heap.size wr) nq) (Nat.le_refl _)).put (i := i) (Ints.empty _ none 0) (fun h => by omega)
                rw [HSET.out] at this
                exact this
            · have f1 : (x != -1) = true := by simp [hx1]
              have hor : nats (oRow m i) = [x] := oRow_some HX.out hx1 (by have := (HBO.out.bd x (List.mem_of_getElem? HX.out)).1; omega)
              rw [hor] at HSET
              have hx8 := HBO.out.bd x (List.mem_of_getElem? HX.out)
              have HX8 := Lib.hid hx8; clear hx8
              have HX1 := Lib.hid hx1; clear hx1 hor
              go_wp2_with fail
              refine HHAS.out.mono ?_
              rintro e w5 ⟨rfl, rfl⟩
              go_wp2_with fail
              go_quiet (fail)
              have HA2 := Lib.hid ((HA.out.below (below_drewN (Below.refl wr.heap.size wr) nq) (Nat.le_refl _)).put (i := i) (Ints.empty _ none 0) (fun h => by omega))
              have hbn : Below w2.heap.size w2 ((wr.drewN nq).setCell ⟨B, i, none⟩ (.slice none 0 0)) := (below_drewN HB.out nq).setCell (by simp; omega) _
              have HB2 := Lib.hid hbn; clear hbn
              have cm2 := (HM2.out.below HB2.out (Nat.le_refl _)).cell bm om rfl i x HX.out
              have cf2 := HA2.out.tab.frozen i
              have cv2 := HA2.out.tab.cell (k := i) (v := .slice none 0 0) (by rw [List.getElem?_set_self (by rw [HA.out.len]; exact hlt)])
              have ha3 : Below ((wr.drewN nq).setCell ⟨B, i, none⟩ (.slice none 0 0)).heap.size ((wr.drewN nq).setCell ⟨B, i, none⟩ (.slice none 0 0)) (((wr.drewN nq).setCell ⟨B, i, none⟩ (.slice none 0 0)).alloc (.cells #[.int .i64 x] 3)) := (Below.refl _ _).alloc (Nat.le_refl _) _
              have HA3 := Lib.hid (HA2.out.below ha3 (Nat.le_refl _))
              have HB3 := Lib.hid (HB2.out.trans (ha3.mono HB2.out.size))
              clear ha3
              have cf3 := HA3.out.tab.frozen i
              have cv3 := HA3.out.tab.cell (k := i) (v := .slice none 0 0) (by rw [List.getElem?_set_self (by rw [HA.out.len]; exact hlt)])
              clear HHAS
              go_wp2_with fail
              have hi3 : Ints (((wr.drewN nq).setCell ⟨B, i, none⟩ (.slice none 0 0)).alloc (.cells #[.int .i64 x] 3)) (some ⟨wr.heap.size, 0, none⟩) 1 1 [x] := by
                have := Ints.one (w := (wr.drewN nq).setCell ⟨B, i, none⟩ (.slice none 0 0)) (t := 3) x (by have := HX8.out; omega)
                simpa using this
              have hBlt := HA.out.tab.lt
              have HA4 := Lib.hid (HA3.out.put (i := i) hi3 (fun _ b o e => by cases e; omega))
              rw [List.set_set, List.set_set, HSET.out] at HA4
              clear hi3
              go_roundg (gk - 1)
              case measure => have := HI.out; omega
              case rel => exact ⟨i + 1, _, by have := HI.out; omega, by go_num, HA4.out, HB3.out.setCell (by simp; omega) _⟩
        · obtain rfl : i = mn := by have := HI.out; omega
          have hokO := oTo_ok HOK.out s.ws i
          have hbc3 := (bcell HB.out).1 w.heap.size 1 hs2
          rw [c1] at hbc3
          have hC := More_res (some ⟨B, 0, none⟩) (some ⟨bm, om, none⟩) i bc i mc f (oTo G m s.ws i) items m wr (HA.out.rows hbc (by omega)) (HM2.out.below HB.out (Nat.le_refl _)) hokO
          rw [HS.out, oTo_more HBO.out, HMO.out] at hC
          have HC := Lib.hid hC; clear hC hokO
          have hBw := HBW2.out.trans (HB.out.mono HBW2.out.size)
          have HBW := Lib.hid hBw; clear hBw
          go_wp2_with fail
          refine HC.out.mono ?_
          rintro e w5 ⟨a5, rfl, hi5, hb5⟩
          have HI5 := Lib.hid hi5; clear hi5
          have HIL5 := Lib.hid (HIL2.out.below (HB.out.trans (hb5.mono HB.out.size)) (Nat.le_refl _))
          have HB5 := Lib.hid (HBW.out.trans (hb5.mono HBW.out.size)); clear hb5
          go_wp2_with fail
          refine (alive7_any w5).mono ?_
          rintro e w6 ⟨rfl, hb⟩
          have HB6 := Lib.hid (HB5.out.trans (hb.mono HB5.out.size))
          have HSA := Lib.hid (same_any a5 (some ⟨bl, ol, none⟩) i i i i l l w6 (HI5.out.below hb (Nat.le_refl _)) (HIL5.out.below hb (Nat.le_refl _))); clear hb
          rw [show decide (l = l) = true by simp] at HSA
          go_wp2_with fail
          refine HSA.out.mono ?_
          rintro e w7 ⟨rfl, hb⟩
          have HB7 := Lib.hid (HB6.out.trans (hb.mono HB6.out.size)); clear hb
          go_wp2_with fail
          go_ret
          exact ⟨rfl, HB7.out⟩
end Go.Proofs.Ytbnjeegicbffeaa
