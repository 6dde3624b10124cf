/- Walks: one step of a rise. Walks: one step of a rise. Walks: the steps of a rise, one after the other. Walks: rises.Least: the prices at which it ends. -/
import Derived.Test.YtbnjeegicbffeaaGreatG25
import Derived.Test.YtbnjeegicbffeaaGreatG13
import Derived.Deep.RegionHeld3
/- Walks: one step of a rise. -/
namespace Go.Proofs.YtbnjeegicbffeaaGreat
open Go.RowKit Go.Shelf Sale

/-! ### a list of the call's own that is written -/
structure Wrt (w : World) (g n : Nat) (xs : List Int) : Prop where
  len : xs.length = n
  row : ∃ cur : Array Value, w.heap[g]? = some (.cells cur 3 (0, 0)) ∧ n ≤ cur.size ∧ cur.toList.take n = xs.map (Value.int .i64)
theorem Wrt.lt {w : World} {g n : Nat} {xs : List Int} (h : Wrt w g n xs) : g < w.heap.size := by
  obtain ⟨cur, h1, _⟩ := h.row
  exact (Array.getElem?_eq_some_iff.1 h1).1
theorem Wrt.cell {w : World} {g n : Nat} {xs : List Int} (h : Wrt w g n xs) {k : Nat} {x : Int} (hx : xs[k]? = some x) : w.cell? ⟨g, k, none⟩ = some (.int .i64 x) := by
  obtain ⟨cur, h1, h2, h3⟩ := h.row
  have hk : k < xs.length := (List.getElem?_eq_some_iff.1 hx).1
  rw [cell_of_row w g k cur _ _ h1]
  have h4 : (cur.toList.take n)[k]? = some (.int .i64 x) := by rw [h3]; simp [hx]
  rw [List.getElem?_take_of_lt (by have := h.len; omega)] at h4
  simpa using h4
theorem Wrt.frozen {w : World} {g n : Nat} {xs : List Int} (h : Wrt w g n xs) (k : Nat) : w.frozen? ⟨g, k, none⟩ = false := by
  obtain ⟨cur, h1, _⟩ := h.row
  exact frozen_of_row w g k cur _ h1
theorem Wrt.set {w : World} {g n : Nat} {xs : List Int} (h : Wrt w g n xs) (k : Nat) (x : Int) : Wrt (w.setCell ⟨g, k, none⟩ (.int .i64 x)) g n (xs.set k x) := by
  obtain ⟨cur, h1, h2, h3⟩ := h.row
  refine ⟨by rw [List.length_set]; exact h.len, _, heap_setCell_same w g k _ _ _ h1, by simpa using h2, ?_⟩
  rw [Array.toList_setIfInBounds, List.take_set, h3, List.map_set]
theorem Wrt.below {w w' : World} {g n B : Nat} {xs : List Int} (h : Wrt w g n xs) (hb : Below B w w') (hB : g < B) : Wrt w' g n xs := by
  obtain ⟨cur, h1, h2, h3⟩ := h.row
  exact ⟨h.len, cur, by rw [hb.block g hB]; exact h1, h2, h3⟩
theorem Wrt.ints {w : World} {g n : Nat} {xs : List Int} (h : Wrt w g n xs) {c : Nat} (hc : n ≤ c) (hbig : n ≤ 4611686018427387904) (hbd : ∀ x, x ∈ xs → -9223372036854775808 ≤ x ∧ x ≤ 9223372036854775807) : Ints w (some ⟨g, 0, none⟩) n c xs :=
  ⟨h.len, hc, hbig, fun _ => ⟨_, _, rfl⟩, fun b o e k x hx => by cases e; rw [Nat.zero_add]; exact h.cell hx, hbd, fun e => by cases e⟩
theorem Own.wrt {w : World} {base : Nat} {v : Value} {xs : List Int} (h : Own w base v xs) (hn : 0 < xs.length) : ∃ g cap, v = .slice (some ⟨g, 0, none⟩) xs.length cap ∧ xs.length ≤ cap ∧ base ≤ g ∧ Wrt w g xs.length xs := by
  obtain ⟨h1, h2⟩ := h
  rcases h2 with ⟨_, hl⟩ | ⟨g, cap, cur, hv, hg, hh, hc, hm, hs, ht⟩
  · omega
  · refine ⟨g, cap, hv, hc, hg, rfl, cur, hh, ?_, ?_⟩
    · have := congrArg List.length ht
      simp at this; omega
    · rw [Nat.mul_one] at ht; exact ht

/-! ### what is asked of Few and of far -/
theorem rises_up {many : Int} : ∀ {l : List Nat} {last : Int}, l.Pairwise (· < ·) → (∀ x, x ∈ l → last < (x : Int) ∧ (x : Int) < many) → risesFrom many last (nats l) = true
  | [], _, _, _ => rfl
  | n :: l, last, hp, h => by
    obtain ⟨h1, h2⟩ := List.pairwise_cons.1 hp
    obtain ⟨h3, h4⟩ := h n List.mem_cons_self
    show risesFrom many last ((n : Int) :: nats l) = true
    simp only [risesFrom, Bool.and_eq_true, decide_eq_true_eq]
    exact ⟨⟨h3, h4⟩, rises_up h2 fun x hx => ⟨by have := h1 x hx; omega, (h x (List.mem_cons_of_mem _ hx)).2⟩⟩
theorem dem_pw (g : Nat → Nat → Int) (N : Nat) (q : Nat → Int) (i : Nat) : (dem g N q i).Pairwise (· < ·) := List.Pairwise.filter _ List.pairwise_lt_range
theorem wants_pw (g : Nat → Nat → Int) (N : Nat) (q : Nat → Int) (i : Nat) : (wantsOf g N q i).Pairwise (· < ·) := by
  unfold wantsOf
  split
  · exact dem_pw _ _ _ _
  · exact List.Pairwise.nil
theorem mustM_pw (m : Mkt) (q : List Int) : (mustM m q).Pairwise (· < ·) := List.Pairwise.filter _ List.pairwise_lt_range
theorem mustM_lt {m : Mkt} {q : List Int} {i : Nat} (h : i ∈ mustM m q) : i < m.bids.length := List.mem_range.1 (List.mem_filter.1 h).1
theorem wants_at {m : Mkt} (hm : MOk m) {q : List Int} (hp : PrOk m q) {l : List Nat} (h : l ∈ wantsM m q) : l.Pairwise (· < ·) ∧ ∀ k, k ∈ l → k < m.res.length := by
  obtain ⟨i, hi⟩ := List.mem_iff_getElem?.1 h
  have hil : i < m.bids.length := by rw [← wantsM_len m q]; exact (List.getElem?_eq_some_iff.1 hi).1
  have e : nbOf (wantsM m q) i = l := by unfold nbOf; rw [hi]; rfl
  rw [← e, nb_wants hm hp hil]
  exact ⟨wants_pw _ _ _ _, fun k hk => wants_lt hk⟩
theorem few_in {m : Mkt} (hm : MOk m) {q : List Int} (hp : PrOk m q) {w : World} {wa ua : Option Addr} {bn un uc : Nat} (hw : Rows w wa bn bn ((wantsM m q).map nats)) (hu : Ints w ua un uc (nats (mustM m q))) (hbl : m.bids.length = bn) :
    FewIn w wa ua bn bn un uc (wantsM m q) m.res.length (mustM m q) := by
  have hul : (mustM m q).length = un := by have := hu.len; simpa [nats] using this
  have hmp := mustM_pw m q
  have hle : (mustM m q).length ≤ m.bids.length := by have := List.length_filter_le (fun i => !isNone (m.bids.getD i []) q) (List.range m.bids.length); simpa [mustM] using this
  have hm8 := hm.m8
  have hn8 := hm.n8
  refine ⟨hw, hu, ?_, ?_, hmp.imp fun h => by omega, fun i hi => by rw [← hbl]; exact mustM_lt hi, hn8, by omega, fun i hi k hk => ?_⟩
  · simp only [gcheck, Bool.and_eq_true, decide_eq_true_eq, Bool.not_eq_true', List.any_eq_false, List.length_map, wantsM_len]
    refine ⟨⟨⟨by omega, by omega⟩, by omega⟩, fun l hl => ?_⟩
    obtain ⟨l', hl', rfl⟩ := List.mem_map.1 hl
    obtain ⟨h1, h2⟩ := wants_at hm hp hl'
    rw [rises_up h1 fun x hx => by have := h2 x hx; omega]
    decide
  · rw [List.length_map, wantsM_len]
    exact rises_up hmp fun x hx => by have := mustM_lt hx; omega
  · rw [← hbl] at hi
    rw [nb_wants hm hp hi] at hk
    exact wants_lt hk
theorem far_ok {m : Mkt} (hm : MOk m) {q : List Int} (hp : PrOk m q) : FarOk m q (wantsM m q) (mustM m q) := by
  have hle : (mustM m q).length ≤ m.bids.length := by have := List.length_filter_le (fun i => !isNone (m.bids.getD i []) q) (List.range m.bids.length); simpa [mustM] using this
  have hm8 := hm.m8
  have hn8 := hm.n8
  have hw : ∀ i, i ∈ mustM m q → (wantsM m q).getD i [] = dem (gi (gainsM m)) m.res.length (qOf m q) i ∧ 0 < top (gi (gainsM m)) m.res.length (qOf m q) i := fun i hi => by
    have hi' := hi
    rw [mustM_is hm hp] at hi'
    obtain ⟨h1, h2⟩ := mem_musts.1 hi'
    refine ⟨?_, h2⟩
    have := nb_wants hm hp h1
    unfold nbOf at this
    rw [List.getD_eq_getElem?_getD, this]
    unfold wantsOf
    rw [if_pos h2]
  refine ⟨by rw [hp.len]; exact hn8, by omega, fun i hi => mustM_lt hi, wantsM_len m q, fun i hi => ?_, hp.all hm, fun i hi => ?_, fun i hi k hk => ?_⟩
  · obtain ⟨_, h2⟩ := hw i hi
    have hil := mustM_lt hi
    rcases hm.bid_at hil with e | ⟨e, hb⟩
    · have : top (gi (gainsM m)) m.res.length (qOf m q) i = 0 := top_eq (Int.le_refl _) (fun k hk => by rw [gain_at hm q hil hk, if_pos e]; have := hp.nonneg k hk; omega) (.inl rfl)
      omega
    · refine ⟨by rw [e, hp.len], fun x hx => ?_⟩
      obtain ⟨k, hk⟩ := List.mem_iff_getElem?.1 hx
      have hkl := (List.getElem?_eq_some_iff.1 hk).1
      have := hb k (by omega)
      unfold bidAt at this
      rwa [getD_at hk] at this
  · obtain ⟨h1, h2⟩ := hw i hi
    rw [h1]
    intro e
    rcases top_cases (gi (gainsM m)) m.res.length (qOf m q) i with h0 | ⟨k, hk, h0⟩
    · omega
    · have : k ∈ dem (gi (gainsM m)) m.res.length (qOf m q) i := mem_dem.2 ⟨hk, h0.symm⟩
      rw [e] at this; cases this
  · rw [(hw i hi).1] at hk
    rw [hp.len]
    exact (mem_dem.1 hk).1
theorem few_far {m : Mkt} (hm : MOk m) {q : List Int} (hp : PrOk m q) {X : List Nat} (h : fewM m q = some X) : farAll m.bids q (wantsM m q) X (mustM m q) ≠ [] ∧ X.Nodup ∧ ∀ k, k ∈ X → k < m.res.length := by
  have h2 := h
  rw [fewM_is hm hp] at h2
  have hL := few_least h2
  refine ⟨?_, hL.nodup, hL.lt⟩
  have hpos : 0 < (Sale.within (dem (gi (gainsM m)) m.res.length (qOf m q)) (musts (gi (gainsM m)) m.res.length m.bids.length (qOf m q)) X).length := by have := hL.many; omega
  obtain ⟨i, hi⟩ := List.exists_mem_of_length_pos hpos
  obtain ⟨h3, h4⟩ := mem_within.1 hi
  obtain ⟨hiM, htop⟩ := mem_musts.1 h3
  have hw : (wantsM m q).getD i [] = dem (gi (gainsM m)) m.res.length (qOf m q) i := by
    have := nb_wants hm hp hiM
    unfold nbOf at this
    rw [List.getD_eq_getElem?_getD, this]
    unfold wantsOf
    rw [if_pos htop]
  intro e
  have hrow : farRow m.bids q (wantsM m q) X i = [] := by
    rw [List.eq_nil_iff_forall_not_mem]
    intro x hx
    have : x ∈ farAll m.bids q (wantsM m q) X (mustM m q) := List.mem_flatMap.2 ⟨i, by rw [mustM_is hm hp]; exact h3, hx⟩
    rw [e] at this; cases this
  unfold farRow at hrow
  rw [hw, if_neg (by
    rw [Bool.not_eq_true, List.any_eq_false]
    intro k hk
    have := h4 k hk
    simpa using this)] at hrow
  cases hrow
theorem farM_bd {m : Mkt} (hm : MOk m) {q : List Int} (hp : PrOk m q) {X : List Nat} (h : fewM m q = some X) : -3000000 ≤ farM m q X ∧ farM m q X ≤ 3000000 :=
  (far_ok hm hp).allb _ (lmin_mem (few_far hm hp h).1)

/-! ### the set rises, item by item -/
theorem upBy_at {q : List Int} {X : List Nat} {b : Int} {t k : Nat} (hX : X.Nodup) (ht : X[t]? = some k) (hk : k < q.length) : (upBy q (X.take t) b)[k]? = some (q.getD k 0) := by
  have hn : k ∉ X.take t := fun hm => by
    obtain ⟨s, hs⟩ := List.mem_iff_getElem?.1 hm
    have hst : s < t := by
      rcases Nat.lt_or_ge s t with h | h
      · exact h
      · rw [List.getElem?_take_eq_none h] at hs; cases hs
    rw [List.getElem?_take_of_lt hst] at hs
    have := (List.getElem?_inj (by exact (List.getElem?_eq_some_iff.1 hs).1) hX).1 (hs.trans ht.symm)
    omega
  unfold upBy
  rw [List.getElem?_map, List.getElem?_range hk, Option.map_some, if_neg hn]
theorem upBy_next {q : List Int} {X : List Nat} {b : Int} {t k : Nat} (ht : X[t]? = some k) (hk : k < q.length) : (upBy q (X.take t) b).set k (q.getD k 0 + b) = upBy q (X.take (t + 1)) b := by
  apply List.ext_getElem?
  intro j
  by_cases hj : j < q.length
  · unfold upBy
    by_cases e : k = j
    · subst e
      rw [List.getElem?_set_self (by simpa using hk), List.getElem?_map, List.getElem?_range hk, Option.map_some, if_pos]
      rw [List.take_add_one, ht]
      simp
    · rw [List.getElem?_set_ne e, List.getElem?_map, List.getElem?_map, List.getElem?_range hj, Option.map_some, Option.map_some, List.take_add_one, ht]
      have : (j ∈ X.take t ++ (some k).toList) ↔ j ∈ X.take t := by
        simp
        intro h; exact absurd h.symm e
      simp only [this]
  · rw [List.getElem?_eq_none (by rw [List.length_set, upBy_len]; omega), List.getElem?_eq_none (by rw [upBy_len]; omega)]
theorem list_ext0' {l l' : List Int} (hl : l.length = l'.length) (h : ∀ k, k < l.length → l.getD k 0 = l'.getD k 0) : l = l' := by
  apply List.ext_getElem?
  intro k
  by_cases hk : k < l.length
  · rw [getD_some hk 0, getD_some (l := l') (by omega) 0, h k hk]
  · rw [List.getElem?_eq_none (by omega), List.getElem?_eq_none (by omega)]
theorem upBy_none (q : List Int) (b : Int) : upBy q [] b = q := list_ext0' (by rw [upBy_len]) fun k hk => by rw [upBy_get (by rw [upBy_len] at hk; exact hk)]; simp
end Go.Proofs.YtbnjeegicbffeaaGreat

/- Walks: one step of a rise. -/
namespace Go.Proofs.YtbnjeegicbffeaaGreat
open Go.RowKit Go.Shelf Sale

def StepRes (m : Mkt) (q : List Int) (w : World) (e : Ending) (w' : World) : Prop := Below w.heap.size w w' ∧ match stepL m q with
  | none => ∃ a n, e = .returned (.tuple #[.slice a n n, .bool false]) ∧ Ints w' a n n q ∧ ∀ b o, a = some ⟨b, o, none⟩ → w.heap.size ≤ b
  | some p => ∃ a n, e = .returned (.tuple #[.slice a n n, .bool true]) ∧ Ints w' a n n p ∧ ∀ b o, a = some ⟨b, o, none⟩ → w.heap.size ≤ b

set_option maxRecDepth 100000 in
set_option maxHeartbeats 4000000 in
theorem step_any {S : Nat} {ra ba oa qa wa ua : Option Addr} {rn rc bn bc on oc qn qc un uc : Nat} {m : Mkt} {q : List Int} {w : World}
    (h : StAt w S ra ba oa qa wa ua rn rc bn bc on oc qn qc un uc m q ((wantsM m q).map nats) (nats (mustM m q))) (hm : MOk m) (hp : PrOk m q) :
    Calls Tryz.prog 83 #[.pointer (some ⟨S, 0, none⟩)] w (StepRes m q w) := by
  have hql := h.pr.len
  have hrl : m.res.length = qn := by rw [← hql, hp.len]
  have hn1 := hm.n1
  have hn8 := hm.n8
  rw [hrl] at hn1 hn8
  have hbl := h.mkt.bids.len
  have c3 := h.c3
  have c4 := h.c4
  have c5 := h.c5
  have HCL := Lib.hid (clone_any qa qn qc q w h.pr (by omega))
  have hqb := hp.all hm
  have HS := Lib.hid h; clear h
  have HQL := Lib.hid hql; clear hql
  have HRL := Lib.hid hrl; clear hrl
  have HBL := Lib.hid hbl; clear hbl
  have HQB := Lib.hid hqb; clear hqb
  have HM := Lib.hid (And.intro hm hp); clear hm hp
  go_enter Tryz.func83, Tryz.ntmps83
  go_wp2_with fail
  refine HCL.out.mono ?_
  rintro e w1 ⟨v, rfl, hown, hb1⟩
  obtain ⟨g, cap, rfl, hcap, hg, hwr⟩ := hown.wrt (by rw [HQL.out]; omega)
  rw [HQL.out] at hcap hwr
  rw [HQL.out]
  have HW := Lib.hid hwr
  have d3 := cell_step hb1 c3
  have d4 := cell_step hb1 c4
  have d5 := cell_step hb1 c5
  have hst1 := HS.out.below hb1 (Nat.le_refl _)
  have HB1 := Lib.hid hb1
  have hfew := fun (Wz : World) (hbz : Below w1.heap.size w1 Wz) => Few_yes wa ua bn bn un uc (wantsM m q) m.res.length (mustM m q) Wz (few_in HM.out.1 HM.out.2 (hst1.wants.below hbz (Nat.le_refl _)) (hst1.must.below hbz (Nat.le_refl _)) HBL.out)
  rw [HRL.out] at hfew
  have HFEW := Lib.hid hfew; clear hfew hst1 hown hwr hb1 HCL c3 c4 c5
  go_wp2_with fail
  refine (clip_any _ _ _ _ hcap).mono ?_
  rintro e w1' ⟨rfl, rfl⟩
  go_wp2_with fail
  have hdr : Below w1.heap.size w1 w1.drew := (Below.refl _ _).drew
  have HF2 := Lib.hid (HFEW.out _ hdr); clear HFEW
  have HDR := Lib.hid hdr; clear hdr
  have he : Way.fewOf (nbOf (wantsM m q)) qn (mustM m q) = fewM m q := by unfold fewM; rw [HRL.out]
  rw [he] at HF2
  clear he
  cases hfw : fewM m q with
  | none =>
    rw [hfw] at HF2
    have hsn : stepL m q = none := by unfold stepL; rw [hfw]; rfl
    have HSN := Lib.hid hsn; clear hsn hfw
    go_region_held3 (fun w' => w'.cell? ⟨S, 3, none⟩ = some (.slice qa qn qc) ∧ w'.cell? ⟨S, 4, none⟩ = some (.slice wa bn bn) ∧ w'.cell? ⟨S, 5, none⟩ = some (.slice ua un uc))
      (first | (go_split_ands; refine ⟨?_, ?_, ?_⟩ <;> first | assumption | go_keep) | go_keep)
      ((go_at_call 91; refine HF2.out.mono ?_; rintro e w2 ⟨hb2, rfl⟩; have q3 := cell_step (v := .slice qa qn qc) (b := S) (o := 3) hb2 d3; have q4 := cell_step (v := .slice wa bn bn) (b := S) (o := 4) hb2 d4; have q5 := cell_step (v := .slice ua un uc) (b := S) (o := 5) hb2 d5; have HB2 := Lib.hid hb2; clear hb2))
    go_wp2_with fail
    go_ret2
    have hw2 := HW.out.below (HDR.out.trans HB2.out) HW.out.lt
    refine ⟨HB1.out.trans ((HDR.out.trans HB2.out).mono HB1.out.size), ?_⟩
    rw [HSN.out]
    exact ⟨_, qn, rfl, hw2.ints (Nat.le_refl _) (by omega) (fun x hx => by have := HQB.out x hx; omega), fun b o e => by cases e; exact hg⟩
  | some X =>
    rw [hfw] at HF2
    have hsn : stepL m q = some (upBy q X (farM m q X)) := by unfold stepL; rw [hfw]; rfl
    have HSN := Lib.hid hsn
    have hfb := farM_bd HM.out.1 HM.out.2 hfw
    obtain ⟨hff, hXn, hXl⟩ := few_far HM.out.1 HM.out.2 hfw
    rw [HRL.out] at hXl
    have HFF := Lib.hid hff; clear hff
    have HXN := Lib.hid hXn; clear hXn
    have HXL := Lib.hid hXl; clear hXl
    clear hsn hfw
    go_region_held3 (fun w' => w'.cell? ⟨S, 3, none⟩ = some (.slice qa qn qc) ∧ w'.cell? ⟨S, 4, none⟩ = some (.slice wa bn bn) ∧ w'.cell? ⟨S, 5, none⟩ = some (.slice ua un uc))
      (first | (go_split_ands; refine ⟨?_, ?_, ?_⟩ <;> first | assumption | go_keep) | go_keep)
      ((go_at_call 91; refine HF2.out.mono ?_; rintro e w2 ⟨hb2, xa, xn, rfl, hxi, hxf⟩; have q3 := cell_step (v := .slice qa qn qc) (b := S) (o := 3) hb2 d3; have q4 := cell_step (v := .slice wa bn bn) (b := S) (o := 4) hb2 d4; have q5 := cell_step (v := .slice ua un uc) (b := S) (o := 5) hb2 d5; have HB2 := Lib.hid (And.intro hb2 (And.intro hxi hxf)); clear hb2 hxi hxf))
    have hb2 : Below w.heap.size w w2 := HB1.out.trans ((HDR.out.trans HB2.out.1).mono HB1.out.size)
    have hst2 := HS.out.below hb2 (Nat.le_refl _)
    have HFR := Lib.hid (far_any hst2 (far_ok HM.out.1 HM.out.2) HB2.out.2.1 HFF.out)
    have HB3 := Lib.hid hb2
    have HW2 := Lib.hid (HW.out.below (HDR.out.trans HB2.out.1) HW.out.lt)
    have HXF := Lib.hid (show ∀ b o, xa = some ⟨b, o, none⟩ → g < b from fun b o e => by have := HB2.out.2.2 b o e; have := HW.out.lt; simp at *; omega)
    have HXI := Lib.hid HB2.out.2.1
    clear hb2 hst2 HW d3 d4 d5 HF2 q3 q4 q5
    go_wp2_with fail
    refine HFR.out.mono ?_
    rintro e w3 ⟨rfl, hb3⟩
    have hxl : X.length = xn := by have := HXI.out.len; simpa [nats] using this
    obtain ⟨by', hby⟩ : ∃ b, b = farM m q X := ⟨_, rfl⟩
    rw [show lmin (farAll m.bids q (wantsM m q) X (mustM m q)) = by' from hby.symm]
    rw [← hby] at hfb HSN
    obtain ⟨hf1, hf2⟩ := hfb
    have HW3 := Lib.hid (HW2.out.below hb3 HW2.out.lt)
    have HXI3 := Lib.hid (HXI.out.below hb3 (Nat.le_refl _))
    have HB4 := Lib.hid (HB3.out.trans (hb3.mono HB3.out.size))
    have hxbig := HXI3.out.big
    have HXLN := Lib.hid hxl
    clear hb3 hby hxl HXI HW2 HFR HB3 HB2
    go_wp2_with fail
    go_loopg [43] xn (fun g' s43 wr => ∃ t : Nat, t + g' = xn ∧ s43 = .int .i64 t ∧ Wrt wr g qn (upBy q (X.take t) by') ∧ Ints wr xa xn xn (nats X) ∧ Below w.heap.size w wr)
    case atStart => exact ⟨0, by omega, rfl, by rw [List.take_zero, upBy_none]; exact HW3.out, HXI3.out, HB4.out⟩
    case round =>
      obtain ⟨t, ht, rfl, hw, hx, hb⟩ := hrel
      have HT := Lib.hid ht; clear ht
      by_cases hlt : t < xn
      · obtain ⟨k, hk⟩ : ∃ k, X[t]? = some k := ⟨_, List.getElem?_eq_getElem (by rw [HXLN.out]; exact hlt)⟩
        have hkq := HXL.out k (List.mem_of_getElem? hk)
        obtain ⟨xb, xo, rfl⟩ := hx.addr (by omega)
        have cx := hx.cell xb xo rfl t (k : Int) (by simp [nats, hk])
        have hup := upBy_at (b := by') HXN.out hk (by rw [HQL.out]; exact hkq)
        have hnx := upBy_next (b := by') hk (by rw [HQL.out]; exact hkq)
        have co := hw.cell hup
        have fo := hw.frozen k
        have hqk := HQB.out (q.getD k 0) (getD_mem (by rw [HQL.out]; exact hkq) 0)
        obtain ⟨y, hy⟩ : ∃ y, y = q.getD k 0 := ⟨_, rfl⟩
        rw [← hy] at hup hnx co hqk
        obtain ⟨hy1, hy2⟩ := hqk
        have hw' := hw.set k (y + by')
        rw [hnx] at hw'
        have HW4 := Lib.hid hw'
        have HX4 := Lib.hid (hx.far (p := ⟨g, k, none⟩) (fun _ b o e => by have := HXF.out b o e; show b ≠ g; omega) (.int .i64 (y + by')))
        have HB5 := Lib.hid (hb.setCell (p := ⟨g, k, none⟩) (by show _ ≤ g; omega) (.int .i64 (y + by')))
        have hkn : (k : Int) < (qn : Int) := by omega
        clear hw hx hb hw' hup hnx hy hk
        go_wp2_with fail
        go_roundg (gk - 1)
        case measure => have := HT.out; omega
        case rel => exact ⟨t + 1, by have := HT.out; omega, by go_num, HW4.out, HX4.out, HB5.out⟩
      · obtain rfl : t = xn := by have := HT.out; omega
        have HW4 := Lib.hid hw; clear hw
        have HX4 := Lib.hid hx; clear hx
        have HB5 := Lib.hid hb; clear hb
        go_wp2_with fail
        go_ret2
        refine ⟨HB5.out, ?_⟩
        rw [HSN.out]
        have hw := HW4.out
        rw [List.take_of_length_le (by rw [HXLN.out]; exact Nat.le_refl _)] at hw
        refine ⟨_, qn, rfl, hw.ints (Nat.le_refl _) (by omega) (fun x hx => ?_), fun b o e => by cases e; exact hg⟩
        obtain ⟨k, hk⟩ := List.mem_iff_getElem?.1 hx
        have hkl : k < q.length := by have := (List.getElem?_eq_some_iff.1 hk).1; rwa [upBy_len] at this
        have h1 := upBy_get (X := X) (b := by') hkl
        rw [getD_at hk] at h1
        have h2 := HQB.out (q.getD k 0) (getD_mem hkl 0)
        rw [h1]
        split <;> omega
end Go.Proofs.YtbnjeegicbffeaaGreat

/- Walks: the steps of a rise, one after the other. -/
namespace Go.Proofs.YtbnjeegicbffeaaGreat
open Go.RowKit Go.Shelf Sale

/-! ### what is read stays where its cells stay -/
theorem Ints.on {w w' : World} {a : Option Addr} {n c : Nat} {xs : List Int} (h : Ints w a n c xs) (hc : ∀ (b o : Nat) (v : Value), w.cell? ⟨b, o, Option.none⟩ = some v → w'.cell? ⟨b, o, Option.none⟩ = some v) : Ints w' a n c xs :=
  ⟨h.len, h.cap, h.big, h.addr, fun b o e k x hx => hc _ _ _ (h.cell b o e k x hx), h.bd, h.nil⟩
theorem Rows.on {w w' : World} {a : Option Addr} {n c : Nat} {xss : List (List Int)} (h : Rows w a n c xss) (hc : ∀ (b o : Nat) (v : Value), w.cell? ⟨b, o, Option.none⟩ = some v → w'.cell? ⟨b, o, Option.none⟩ = some v) : Rows w' a n c xss :=
  ⟨h.len, h.cap, h.big, h.addr, fun b o e k xs hx => by
    obtain ⟨a', n', c', h1, h2⟩ := h.cell b o e k xs hx
    exact ⟨a', n', c', hc _ _ _ h1, h2.on hc⟩⟩
theorem MktAt.on {w w' : World} {ra ba oa : Option Addr} {rn rc bn bc on oc : Nat} {m : Mkt} (h : MktAt w ra ba oa rn rc bn bc on oc m) (hc : ∀ (b o : Nat) (v : Value), w.cell? ⟨b, o, Option.none⟩ = some v → w'.cell? ⟨b, o, Option.none⟩ = some v) : MktAt w' ra ba oa rn rc bn bc on oc m :=
  ⟨h.res.on hc, h.bids.on hc, h.ord.on hc⟩

/-- prices that are handed over -/
structure Pl where
  a : Option Addr
  n : Nat
  c : Nat
  l : List Int
abbrev encP (x : Pl) : Array Value := #[.slice x.a x.n x.c]
def GP (B0 : Nat) (x : Pl) (W : World) : Prop := Ints W x.a x.n x.c x.l ∧ ∀ b o, x.a = some ⟨b, o, none⟩ → B0 ≤ b
theorem own_gp (B B0 : Nat) (x : Pl) : OwnFrom B (fun (_ : Unit) W => GP B0 x W) := OwnFrom.and (own_ints _ _ _ _ _) (ownFrom_pure _ _)

theorem steps_fn (ra ba oa : Option Addr) (rn rc bn bc on oc : Nat) (w : World) :
    Calls Tryz.prog 66 #[.agg #[.slice ra rn rc, .slice ba bn bc, .slice oa on oc]] w fun e w' => e = .returned (.func (.func 81) #[] #[.pointer (some ⟨w.heap.size, 0, none⟩)]) ∧ mw w ra ba oa rn rc bn bc on oc = w' := by
  go_enter Tryz.func66, Tryz.ntmps66
  go_wp2_with fail
  go_ret
  exact ⟨rfl, rfl⟩

/-- how many steps there are at most -/
theorem rise_count {m : Mkt} (hm : MOk m) {j : Nat} (h : ∀ j', j' < j → stepL m (riseL m j' m.res) ≠ none) : j ≤ 8000000 := by
  obtain ⟨h1, h2⟩ := riseL_on hm j
  rcases h2 with ⟨n', hn, e⟩ | h2
  · exact absurd e (h n' hn)
  · have := (h1.sum hm).2
    omega

/-- where the steps stand -/
def StepsAt (m : Mkt) (J : List Pl → World → Prop) (X : Nat → Prop) (W : World) (B : Nat) (g : Nat) (s3 s4 : Value) (wr : World) : Prop :=
  ∃ (j : Nat) (ys : List Pl), J ys wr ∧ Kx X W wr ∧ ys.length = j ∧
    ((s4 = .bool true ∧ (∃ a n c, s3 = .slice a n c ∧ Ints wr a n c (riseL m j m.res) ∧ ∀ b o, a = some ⟨b, o, none⟩ → B ≤ b) ∧ j + g = 8000002 ∧ ∀ j', j' < j → stepL m (riseL m j' m.res) ≠ none) ∨
      (s4 = .bool false ∧ (∃ a n c, s3 = .slice a n c) ∧ ys.getLast?.map (·.l) = some (leastM m)))

set_option maxRecDepth 100000 in
set_option maxHeartbeats 4000000 in
theorem steps_seq (bM : Nat) (ra ba oa : Option Addr) (rn rc bn bc on oc : Nat) (m : Mkt) (X : Nat → Prop) (w0 w : World) (hmk : MktAt w0 ra ba oa rn rc bn bc on oc m) (hc : mcheck m = true) (hw : Below w0.heap.size w0 w)
    (hM : w.heap[bM]? = some (.cells #[.slice ra rn rc, .slice ba bn bc, .slice oa on oc] 28 (0, 0))) (hX0 : ∀ b, X b → w0.heap.size ≤ b) (hXw : ∀ b, X b → b < w.heap.size) (hXM : ¬ X bM) :
    SeqM Tryz.prog 81 #[.pointer (some ⟨bM, 0, none⟩)] encP X (GP w.heap.size) (fun ys => ys.getLast?.map (·.l) = some (leastM m)) (fun _ => True) 8000001 w := by
  intro l J Jx W hW hl hlt hJ hJx hY h0
  have hok := mcheck_ok hc
  have hrl := hmk.res.len
  have hsz0 := hw.size
  have hMl : bM < w.heap.size := (Array.getElem?_eq_some_iff.1 hM).1
  have hM1 : W.heap[bM]? = some (.cells #[.slice ra rn rc, .slice ba bn bc, .slice oa on oc] 28 (0, 0)) := (hW.block _ hMl).trans hM
  have hXM' : ¬ (bM = l ∨ X bM) := fun h => h.elim (fun e => by omega) hXM
  have hon : ∀ wr, Kx (fun b => b = l ∨ X b) W wr → ∀ (b o : Nat) (v : Value), w0.cell? ⟨b, o, none⟩ = some v → wr.cell? ⟨b, o, none⟩ = some v := fun wr hk b o v hv => by
    have hb : b < w0.heap.size := by simpa using block_lt_of_cell hv
    have h1 : W.cell? ⟨b, o, none⟩ = some v := by
      rw [hW.cell (p := ⟨b, o, none⟩) (by show b < w.heap.size; omega), hw.cell (p := ⟨b, o, none⟩) (by show b < w0.heap.size; omega)]; exact hv
    exact hk.cell h1 (fun h => h.elim (fun (e : b = l) => by omega) (fun h => by have : w0.heap.size ≤ b := hX0 _ h; omega))
  have hXp : ∀ b, W.heap.size ≤ b → ¬ (b = l ∨ X b) := fun b hb h => h.elim (fun e => by omega) (fun h => by have := hXw _ h; have := hW.size; omega)
  have hnew : ∀ wr wr' : World, Below wr.heap.size wr wr' → ∀ ys, J ys wr → J ys wr' := fun wr wr' hb ys h => OwnFrom.fresh hJ h hb
  have hres := hmk.res.on (hon W (Kx.refl _ _))
  have c0 : W.cell? ⟨bM, 0, none⟩ = some (.slice ra rn rc) := cells_of_rowK hM1 (k := 0) rfl
  have HM1 := Lib.hid hM1; clear hM1
  have HON := Lib.hid hon; clear hon
  have HXP := Lib.hid hXp; clear hXp
  have HNEW := Lib.hid hnew; clear hnew
  have HXM := Lib.hid hXM'; clear hXM'
  have HMK := Lib.hid (And.intro hmk (And.intro hc hok)); clear hmk hc hok
  have HY := Lib.hid hY; clear hY
  have HJ0 := Lib.hid h0; clear h0
  have HRL := Lib.hid hrl; clear hrl
  have hn8 : rn ≤ 8 := by have := HMK.out.2.2.n8; have := HRL.out; omega
  have HCL := Lib.hid (cloned_any ra rn rc m.res W hres (by omega)); clear hres
  have hWs := hW.size
  clear hM hX0 hXw hXM hJ hJx hW hw
  refine callsIn_of_wp Tryz.func81 rfl trivial ?_ rfl
  simp only [Tryz.ntmps81, List.size_toArray, List.length_cons, List.length_nil, Nat.reduceAdd, Nat.reduceSub, Array.replicate_succ, Array.replicate_zero, List.push_toArray, List.append_toArray, List.nil_append, List.cons_append]
  gi_wp2_with fail
  refine ⟨trivial, ?_⟩
  refine (callsIn_wide.2 HCL.out).mono ?_
  rintro e w1 ⟨a1, c1, rfl, hc1, hi1, hf1, hb1⟩
  have HST := Lib.hid (show StepsAt m J (fun b => b = l ∨ X b) W W.heap.size 8000002 (.slice a1 rn c1) (.bool true) w1 from
    ⟨0, [], HNEW.out W w1 hb1 [] HJ0.out, Kx.below hb1, rfl, .inl ⟨rfl, ⟨a1, rn, c1, rfl, hi1, fun b o e => (hf1 b o e).1⟩, rfl, fun j' h => by omega⟩⟩)
  clear hc1 hi1 hf1 hb1 c0
  gi_wp2_with fail
  gi_loopg [3, 4] 8000002 (fun g s3 s4 wr => StepsAt m J (fun b => b = l ∨ X b) W W.heap.size g s3 s4 wr)
  case atStart => exact HST.out
  case round =>
    obtain ⟨j, ys, hJy, hk, hyl, (⟨rfl, ⟨a, n, c, rfl, hi, hf⟩, hjg, hst⟩ | ⟨rfl, ⟨a, n, c, rfl⟩, hlast⟩)⟩ := hrel
    · have hjb := rise_count HMK.out.2.2 hst
      obtain ⟨fn, tmps, assign, body, hy, hR⟩ := HY.out ys ⟨a, n, c, riseL m j m.res⟩ wr ⟨hi, fun b o e => by have := hf b o e; omega⟩ hJy (by omega)
      dsimp only [encP] at hy
      have HR := Lib.hid (And.intro hk (And.intro hyl (And.intro hi (And.intro hf (And.intro hjg hst))))); clear hk hyl hi hf hjg hst hJy
      gi_wp2_with fail
      refine hR.mono ?_
      rintro e W3 ⟨(⟨rfl, hJ3⟩ | ⟨rfl, hJ3⟩), hk3⟩
      · have hk2 : Kx (fun b => b = l ∨ X b) W W3 := HR.out.1.trans hk3
        have hM3 := hk2.same _ _ HM1.out HXM.out
        have k0 : W3.cell? ⟨bM, 0, none⟩ = some (.slice ra rn rc) := cells_of_rowK hM3 (k := 0) rfl
        have k1 : W3.cell? ⟨bM, 1, none⟩ = some (.slice ba bn bc) := cells_of_rowK hM3 (k := 1) rfl
        have k2 : W3.cell? ⟨bM, 2, none⟩ = some (.slice oa on oc) := cells_of_rowK hM3 (k := 2) rfl
        have hmk3 := HMK.out.1.on (HON.out W3 hk2)
        have hi3 := hk3.ints HR.out.2.2.1 (fun b o e _ => HXP.out b (HR.out.2.2.2.1 b o e))
        have hway := (riseL_on HMK.out.2.2 j).1
        have hpr := hway.pr HMK.out.2.2
        have hnn : n = rn := by rw [← hi3.len, hway.len]; exact HRL.out
        have HAT := Lib.hid (At_made ra ba oa a rn rc bn bc on oc n c m (riseL m j m.res) W3 hmk3 HMK.out.2.1 hi3 hnn (hpr.all HMK.out.2.2))
        have HPR := Lib.hid hpr; clear hpr
        have HK2 := Lib.hid hk2; clear hk2
        have HJ3 := Lib.hid hJ3; clear hJ3
        clear hM3 hmk3 hi3 hway hnn hk3 hR hy
        gi_wp2_with fail
        refine ⟨trivial, ?_⟩
        refine (callsIn_wide.2 HAT.out).mono ?_
        rintro e w4 ⟨S, qa, wa, ua, qc, un, uc, rfl, hst4, hb4⟩
        have HSP := Lib.hid (step_any hst4 HMK.out.2.2 HPR.out)
        have HB4 := Lib.hid hb4; clear hst4 hb4
        cases hsl : stepL m (riseL m j m.res) with
        | none =>
          have HSL := Lib.hid hsl; clear hsl
          gi_wp2_with fail
          refine ⟨trivial, ?_⟩
          refine (callsIn_wide.2 HSP.out).mono ?_
          unfold StepRes
          rw [HSL.out]
          rintro e w5 ⟨hb5, a5, n5, rfl, hi5, hf5⟩
          have HB5 := Lib.hid (HB4.out.trans (hb5.mono HB4.out.size)); clear hb5 hi5 hf5
          gi_wp2_with fail
          gi_roundg (gk - 1)
          case measure => have := HR.out.2.2.2.2.1; omega
          case rel =>
            refine ⟨j + 1, ys ++ [⟨a, n, c, riseL m j m.res⟩], HNEW.out W3 _ HB5.out _ HJ3.out, HK2.out.trans (Kx.below HB5.out), by rw [List.length_append]; simp [HR.out.2.1], .inr ⟨rfl, ⟨_, _, _, rfl⟩, ?_⟩⟩
            rw [List.getLast?_append]
            simp only [List.getLast?_singleton, Option.some_or, Option.map_some]
            rw [leastM_end HMK.out.2.2 HSL.out]
        | some p' =>
          have HSL := Lib.hid hsl; clear hsl
          gi_wp2_with fail
          refine ⟨trivial, ?_⟩
          refine (callsIn_wide.2 HSP.out).mono ?_
          unfold StepRes
          rw [HSL.out]
          rintro e w5 ⟨hb5, a5, n5, rfl, hi5, hf5⟩
          have HB5 := Lib.hid (And.intro (HB4.out.trans (hb5.mono HB4.out.size)) (And.intro hi5 hf5)); clear hb5 hi5 hf5
          gi_wp2_with fail
          gi_roundg (gk - 1)
          case measure => have := HR.out.2.2.2.2.1; omega
          case rel =>
            have hmore := riseL_more (m := m) j m.res
            rw [HSL.out] at hmore
            have hmore : riseL m (j + 1) m.res = p' := hmore
            refine ⟨j + 1, ys ++ [⟨a, n, c, riseL m j m.res⟩], HNEW.out W3 _ HB5.out.1 _ HJ3.out, HK2.out.trans (Kx.below HB5.out.1), by rw [List.length_append]; simp [HR.out.2.1], .inl ⟨rfl, ⟨_, _, _, rfl, by rw [hmore]; exact HB5.out.2.1, fun b o e => by have := HB5.out.2.2 b o e; have := HB4.out.size; have := HK2.out.size; omega⟩, by have := HR.out.2.2.2.2.1; omega, fun j' hj' => ?_⟩⟩
            by_cases e : j' < j
            · exact HR.out.2.2.2.2.2 j' e
            · obtain rfl : j' = j := by omega
              rw [HSL.out]; simp
      · have HJ3 := Lib.hid hJ3; clear hJ3
        gi_wp2_with fail
        go_end0
        exact ⟨⟨_, rfl⟩, .inr ⟨_, trivial, HJ3.out⟩⟩
    · have HL := Lib.hid (And.intro hJy hlast); clear hJy hlast
      gi_wp2_with fail
      refine ⟨(fun _ h => (by cases h)), ?_⟩
      gi_wp2_with fail
      go_end0
      exact ⟨⟨_, rfl⟩, .inl ⟨_, HL.out.2, HL.out.1⟩⟩
end Go.Proofs.YtbnjeegicbffeaaGreat

/- Walks: rises.Least: the prices at which it ends. -/
namespace Go.Proofs.YtbnjeegicbffeaaGreat
open Go.RowKit Go.Shelf Sale

attribute [local go_sem] Oper.semAt_some

theorem least_results {h : Nat} {v : Value} {tmps : Array Value} {e : Int} (t2 : tmps[2]?.getD undef = .pointer (some ⟨h + 1, 0, none⟩)) (t3 : tmps[3]?.getD undef = .int .i64 e) (W : World) (hO : Boxed W (h + 1) 23 v) :
    (results Tryz.f35 tmps).run Tryz.prog W = .ok (.tuple #[v, .int .i64 e]) W := by
  have c2 := hO.cell
  simp [results, Tryz.results35, go_sem, t2, t3, c2]
/-- out's box and the market's -/
def least0 (w : World) (ra ba oa : Option Addr) (rn rc bn bc on oc : Nat) : World := (mw w ra ba oa rn rc bn bc on oc).alloc (.cells #[.slice none 0 0] 23)

set_option maxRecDepth 100000 in
set_option maxHeartbeats 1000000 in
theorem Least_no (ra ba oa : Option Addr) (rn rc bn bc on oc : Nat) (m : Mkt) (w : World) (hm : MktAt w ra ba oa rn rc bn bc on oc m) (hc : mcheck m = false) :
    Calls Tryz.prog 35 #[.agg #[.slice ra rn rc, .slice ba bn bc, .slice oa on oc]] w fun e w' => e = .returned (.tuple #[.slice none 0 0, .int .i64 1]) ∧ Below w.heap.size w w' := by
  have hb0 : Below w.heap.size w (least0 w ra ba oa rn rc bn bc on oc) := ((Below.refl _ _).alloc (Nat.le_refl _) _).alloc (by simp) _
  have hbx : Boxed (least0 w ra ba oa rn rc bn bc on oc) (w.heap.size + 1) 23 (.slice none 0 0) := boxed_new _ _ (by simp [mw]) _ _
  have hm1 := hm.below hb0 (Nat.le_refl _)
  have HK := Lib.hid (mcheck_any ra ba oa rn rc bn bc on oc m (least0 w ra ba oa rn rc bn bc on oc) hm1.res hm1.bids hm1.ord)
  have HC := Lib.hid hc; clear hc
  have HB0 := Lib.hid (And.intro hb0 hbx); clear hb0 hbx hm hm1
  refine calls_marks 9 Tryz.func35 rfl ?_
  simp only [Tryz.ntmps35, List.size_toArray, List.length_cons, List.length_nil, Nat.reduceAdd, Nat.reduceSub, Array.replicate_succ, Array.replicate_zero, List.push_toArray, List.append_toArray, List.nil_append, List.cons_append]
  go_wp2_with fail
  refine HK.out.mono ?_
  rw [HC.out]
  rintro e w1 ⟨rfl, hb1⟩
  have hbx1 := boxed_on HB0.out.2 hb1
  have k2 := hbx1.cell
  have f2 := hbx1.frozen
  have HB1 := Lib.hid (And.intro (HB0.out.1.trans (hb1.mono HB0.out.1.size)) hbx1); clear hb1 hbx1
  go_wp2_with fail
  refine leaves_marks (B := w.heap.size) (v := .tuple #[.slice none 0 0, .int .i64 1]) (Z := fun _ W' => Boxed W' (w.heap.size + 1) 23 (.slice none 0 0) ∧ Below w.heap.size w W') ?hZ ?hr ?hR _ _ trivial ⟨HB1.out.2.set _, HB1.out.1.setCell (p := ⟨w.heap.size + 1, 0, none⟩) (by simp) _⟩
  case hZ => exact OwnFrom.and (Own.from (boxed_own _ _ _) _) (ownFrom_below (Nat.le_refl _) (Nat.le_refl _))
  case hr => exact fun W' h => least_results rfl rfl W' h.1
  case hR => exact fun W' h => ⟨rfl, h.2⟩

/-- out holds what was handed over last -/
def LastAt (h : Nat) (pre : List Pl) (W : World) : Prop := (∃ v, Boxed W (h + 1) 23 v) ∧ ∀ x, pre.getLast? = some x → Boxed W (h + 1) 23 (.slice x.a x.n x.c) ∧ Ints W x.a x.n x.c x.l
theorem last_own (B h : Nat) : OwnFrom B (LastAt h) := fun pre A C row hs hg hr => by
  obtain ⟨⟨v, h1⟩, h2⟩ := hs
  refine ⟨⟨v, (boxed_own (h + 1) 23 (fun _ : Unit => v)) () A C row h1 hg (fun r e => (hr r e).2)⟩, fun x hx => ?_⟩
  obtain ⟨h3, h4⟩ := h2 x hx
  exact ⟨(boxed_own (h + 1) 23 (fun _ : Unit => Value.slice x.a x.n x.c)) () A C row h3 hg (fun r e => (hr r e).2), own_ints (β := Unit) B _ _ _ _ () A C row h4 hg hr⟩

set_option maxRecDepth 100000 in
set_option maxHeartbeats 4000000 in
theorem Least_yes (ra ba oa : Option Addr) (rn rc bn bc on oc : Nat) (m : Mkt) (w : World) (hm : MktAt w ra ba oa rn rc bn bc on oc m) (hc : mcheck m = true) :
    Calls Tryz.prog 35 #[.agg #[.slice ra rn rc, .slice ba bn bc, .slice oa on oc]] w fun e w' => ∃ a n, e = .returned (.tuple #[.slice a n n, .int .i64 0]) ∧ Ints w' a n n (leastM m) ∧ Below w.heap.size w w' := by
  have hb0 : Below w.heap.size w (least0 w ra ba oa rn rc bn bc on oc) := ((Below.refl _ _).alloc (Nat.le_refl _) _).alloc (by simp) _
  have hbx : Boxed (least0 w ra ba oa rn rc bn bc on oc) (w.heap.size + 1) 23 (.slice none 0 0) := boxed_new _ _ (by simp [mw]) _ _
  have hmr : (least0 w ra ba oa rn rc bn bc on oc).heap[w.heap.size]? = some (.cells #[.slice ra rn rc, .slice ba bn bc, .slice oa on oc] 28 (0, 0)) := by
    unfold least0 mw
    rw [Below.heap_alloc _ _ _ (by simp)]; exact heap_alloc_new w _
  have hm1 := hm.below hb0 (Nat.le_refl _)
  have HK := Lib.hid (mcheck_any ra ba oa rn rc bn bc on oc m (least0 w ra ba oa rn rc bn bc on oc) hm1.res hm1.bids hm1.ord)
  have hs0 : (least0 w ra ba oa rn rc bn bc on oc).heap.size = w.heap.size + 2 := by simp [least0, mw]
  have HM := Lib.hid (And.intro hm hc)
  have HB0 := Lib.hid (And.intro hb0 (And.intro hbx hmr)); clear hb0 hbx hm hm1 hmr
  have HC := Lib.hid hc; clear hc
  refine calls_marks 9 Tryz.func35 rfl ?_
  simp only [Tryz.ntmps35, List.size_toArray, List.length_cons, List.length_nil, Nat.reduceAdd, Nat.reduceSub, Array.replicate_succ, Array.replicate_zero, List.push_toArray, List.append_toArray, List.nil_append, List.cons_append]
  go_wp2_with fail
  refine HK.out.mono ?_
  rw [HC.out]
  rintro e w1 ⟨rfl, hb1⟩
  have hmr1 : w1.heap[w.heap.size]? = some (.cells #[.slice ra rn rc, .slice ba bn bc, .slice oa on oc] 28 (0, 0)) := (hb1.block _ (by omega)).trans HB0.out.2.2
  have k0 : w1.cell? ⟨w.heap.size, 0, none⟩ = some (.slice ra rn rc) := cells_of_rowK hmr1 (k := 0) rfl
  have k1 : w1.cell? ⟨w.heap.size, 1, none⟩ = some (.slice ba bn bc) := cells_of_rowK hmr1 (k := 1) rfl
  have k2 : w1.cell? ⟨w.heap.size, 2, none⟩ = some (.slice oa on oc) := cells_of_rowK hmr1 (k := 2) rfl
  have hz1 := hb1.size
  rw [hs0] at hz1
  have HB1 := Lib.hid (And.intro (HB0.out.1.trans (hb1.mono HB0.out.1.size)) (boxed_on HB0.out.2.1 hb1)); clear hb1 hmr1 HK HB0 hs0
  go_wp2_with fail
  refine (steps_fn ra ba oa rn rc bn bc on oc w1).mono ?_
  rintro e w2 ⟨rfl, rfl⟩
  have hb2 : Below w1.heap.size w1 (mw w1 ra ba oa rn rc bn bc on oc) := (Below.refl _ _).alloc (Nat.le_refl _) _
  have hs2 : (mw w1 ra ba oa rn rc bn bc on oc).heap.size = w1.heap.size + 1 := by simp [mw]
  have hr2 : (mw w1 ra ba oa rn rc bn bc on oc).heap[w1.heap.size]? = some (.cells #[.slice ra rn rc, .slice ba bn bc, .slice oa on oc] 28 (0, 0)) := heap_alloc_new w1 _
  have hB2 := HB1.out.1.trans (hb2.mono HB1.out.1.size)
  have hseq := steps_seq w1.heap.size ra ba oa rn rc bn bc on oc m (fun b => b = w.heap.size + 1) w (mw w1 ra ba oa rn rc bn bc on oc) HM.out.1 HM.out.2 hB2 hr2 (fun b h => by omega) (fun b h => by omega) (by omega)
  have hbx2 := boxed_on HB1.out.2 hb2
  obtain ⟨W9, hW9⟩ : ∃ W9, W9 = mw w1 ra ba oa rn rc bn bc on oc := ⟨_, rfl⟩
  go_wp2_with fail
  rw [← hW9] at hseq hB2 hbx2 hs2 ⊢
  clear hW9 hr2 hb2
  have HSQ := Lib.hid hseq; clear hseq
  refine wp_rangeFunc_M (fun x : Pl => [(10, .slice x.a x.n x.c), (4, .slice x.a x.n x.c)]) (lb := #[.pointer (some ⟨w1.heap.size, 0, none⟩)]) rfl
    (enters_of Tryz.func81 (by kernel_rfl) rfl) HSQ.out (fun b h => by omega) (Below.refl _ _) (fun _ => rfl) (fun x => own_gp _ _ x)
    (fun pre W' => LastAt w.heap.size pre W' ∧ Below w.heap.size w W') (fun _ _ _ => False) ?hI (fun _ _ _ _ _ h _ _ => h) ⟨⟨⟨_, hbx2⟩, fun x h => by cases h⟩, hB2⟩ ?assign ?body ?done (fun _ _ _ _ _ _ h => h.elim)
  case hI => exact OwnFrom.and (last_own _ _) (ownFrom_below (Nat.le_refl _) (by have := hB2.size; omega))
  case assign =>
    intro l x W K hK
    gi_wp2
    exact hK
  case body =>
    rintro l pre x W hG ⟨⟨⟨v, hv⟩, _⟩, hB⟩ hlt
    have kv := hv.cell
    have fv := hv.frozen
    have HH := Lib.hid (And.intro hv (And.intro hB hG)); clear hv hB hG
    simp only [List.foldl_cons, List.foldl_nil, List.setIfInBounds_toArray, List.set_cons_zero, List.set_cons_succ]
    gi_wp2
    refine ⟨Kx.setCell (X := fun b => b = w.heap.size + 1) (a := ⟨w.heap.size + 1, 0, none⟩) rfl _, ⟨⟨_, HH.out.1.set _⟩, fun y hy => ?_⟩, HH.out.2.1.setCell (p := ⟨w.heap.size + 1, 0, none⟩) (by simp) _⟩
    rw [List.getLast?_append] at hy
    simp only [List.getLast?_singleton, Option.some_or] at hy
    cases hy
    refine ⟨HH.out.1.set _, ?_⟩
    have hi : Ints W x.a x.n x.c x.l := HH.out.2.2.1
    exact hi.far (fun hn b o e => by have : W9.heap.size ≤ b := HH.out.2.2.2 b o e; show b ≠ w.heap.size + 1; omega) _
  case done =>
    rintro D xs W5 hD hS ⟨⟨_, hlast⟩, hB5⟩ hK5
    obtain ⟨x, hx, hxl⟩ := Option.map_eq_some_iff.1 hS
    obtain ⟨hb5, hi5⟩ := hlast x hx
    rw [hxl] at hi5
    have hmk : Marks (w.heap.size + 2) [{ target := .collected D, args := #[] }] W5 := Marks.new (ds := []) (by trivial) (by omega) hK5 (fun _ h => by cases h)
    have kx := hb5.cell
    have hl8 : x.n ≤ 8 := by rw [← hi5.len]; have h1 := (leastM_on (mcheck_ok HM.out.2)).len; have h2 := (mcheck_ok HM.out.2).n8; omega
    have HCL := Lib.hid (cloned_any x.a x.n x.c (leastM m) W5 hi5 (by omega))
    have HB5 := Lib.hid (And.intro hb5 (And.intro hB5 hmk)); clear hlast hx hxl hb5 hi5 hK5 hS hB5 hmk
    go_wp2_with fail
    refine HCL.out.mono ?_
    rintro e w6 ⟨a6, c6, rfl, hc6, hi6, hf6, hb6⟩
    have hbx6 := boxed_on HB5.out.1 hb6
    have k6 := hbx6.cell
    have f6 := hbx6.frozen
    have hmk6 := HB5.out.2.2.kx (X := fun _ => False) (Kx.below hb6) (fun _ h => h.elim)
    have hz5 := HB5.out.1.lt
    have HH := Lib.hid (And.intro hbx6 (And.intro hi6 (And.intro hf6 (And.intro hmk6 (HB5.out.2.1.trans (hb6.mono HB5.out.2.1.size)))))); clear hbx6 hi6 hf6 hmk6 hb6 HB5 kx
    go_wp2_with fail
    refine (clip_any _ _ _ _ hc6).mono ?_
    rintro e w6' ⟨rfl, rfl⟩
    go_wp2_with fail
    refine leaves_marks (B := w.heap.size + 2) (v := .tuple #[.slice a6 x.n x.n, .int .i64 0]) (Z := fun _ W' => (Boxed W' (w.heap.size + 1) 23 (.slice a6 x.n x.n) ∧ Ints W' a6 x.n x.n (leastM m)) ∧ Below w.heap.size w W') ?hZ ?hr ?hR _ _ (HH.out.2.2.2.1.kx' (Kx.setCell (X := fun b => b = w.heap.size + 1) (a := ⟨w.heap.size + 1, 0, none⟩) rfl _) (fun D' hD' h => by have := HH.out.2.2.2.1.at' D' hD'; omega))
      ⟨⟨HH.out.1.set _, (HH.out.2.1.toClip).far (fun hn b o e => by have := (HH.out.2.2.1 b o e).1; show b ≠ w.heap.size + 1; omega) _⟩, HH.out.2.2.2.2.setCell (p := ⟨w.heap.size + 1, 0, none⟩) (by simp) _⟩
    case hZ => exact OwnFrom.and (OwnFrom.and (Own.from (boxed_own _ _ _) _) (own_ints _ _ _ _ _)) (ownFrom_below (Nat.le_refl _) (by omega))
    case hr => exact fun W' h => least_results rfl rfl W' h.1.1
    case hR => exact fun W' h => ⟨a6, x.n, rfl, h.1.2, h.2⟩
end Go.Proofs.YtbnjeegicbffeaaGreat
