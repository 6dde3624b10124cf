/- From the reading of a law's arguments to lists of integers, and from a walk that ends in 'true' to the row. What First answers: refused, or the first of the best. A market in plain words: what each gains, and without one. -/
import Derived.Test.YtbnjeegicbffeaaGreatRows
import Derived.Test.YtbnjeegicbffeaaGreatG00
import Derived.Test.YtbnjeegicbffeaaGreatG17
import Derived.Test.YtbnjeegicbffeaaGreatG01
import Derived.Test.YtbnjeegicbffeaaGreatG06
import Derived.ProofKit
import Derived.Lib.SmallJoins
import Derived.Deep.Matrix
import Derived.SizedLaws
/- From the reading of a law's arguments to lists of integers, and from a walk that ends in 'true' to the row. -/
namespace Go.Proofs.YtbnjeegicbffeaaGreat
open Go.ChangeShapes Go.WideShapes Go.ChangeAt Go.RowKit Go.Joins Go.Deep

theorem Tryz.ownL : ownKnob Tryz.prog.godebug = none := by kernel_rfl
theorem Tryz.laidOutL : laidOutB Tryz.prog = true := by kernel_rfl
theorem Tryz.cellsIntL : Tryz.prog.cellsOf 3 = 1 := by kernel_rfl
theorem Tryz.cellsIntsL : Tryz.prog.cellsOf 23 = 1 := by kernel_rfl
theorem Tryz.bytesIntL : Tryz.prog.bytesOf 3 = 8 := by kernel_rfl
theorem Tryz.bytesIntsL : Tryz.prog.bytesOf 23 = 24 := by kernel_rfl

section
variable {H : Type} {enc : TypeId × Value → H}

theorem wf_i64 {n : Int} (h : (Lit.int .i64 n).wf = true) : -9223372036854775808 ≤ n ∧ n ≤ 9223372036854775807 := by
  simp only [Lit.wf, Bool.and_eq_true, decide_eq_true_eq, show IntKind.i64.min = -9223372036854775808 by decide, show IntKind.i64.max = 9223372036854775807 by decide] at h
  exact h

/-- no string, slice, map of a datum takes more bytes than a machine has -/
def Sized (t : TypeId) (d : DataW H) : Prop := ∀ n, n ∈ d.weights Tryz.prog t → n ≤ reachBytes

theorem add_of_cell {w : World} {a : Addr} {v : Value} (h : w.cell? (a.add 0) = some v) : a = ⟨a.block, a.off, none⟩ := by
  obtain ⟨b, o, s⟩ := a
  cases s with
  | none => rfl
  | some s =>
    simp only [Addr.add, World.cell?] at h
    split at h <;> simp at h

theorem ints_read {w : World} {fuel : Nat} {v : Value} {x : DataW H × List MemPlace} (h : DataW.trod enc Tryz.prog w 0 (fun _ => true) true fuel 23 [v] = some x) (hs : Sized 23 x.1) :
    ∃ a n c xs, v = .slice a n c ∧ Ints w a n c xs ∧ n * 8 ≤ reachBytes := by
  rcases open_ints Tryz.underlying23 Tryz.underlying3 Tryz.cellsIntL h with ⟨hcs, hx⟩ | ⟨a, len, cap, zs, hcs, hb, hl, hm, hz, rfl, hcell, hwz⟩
  · obtain rfl : v = .slice none 0 0 := by simpa using hcs
    exact ⟨none, 0, 0, [], rfl, Ints.empty _ _ _, by simp⟩
  · obtain rfl : v = .slice (some a) len cap := by simpa using hcs
    simp only [if_true] at hz
    have hw := hs ((len + (cap - len)) * 8) (by simp [DataW.weights, Tryz.underlying23, Tryz.bytesIntL, lits, hz, Nat.min_eq_left hl])
    have hr := reachBytes_lt
    have hn8 : len * 8 ≤ reachBytes := by omega
    refine ⟨some a, len, cap, zs.take len, rfl, ⟨by simp [hz, Nat.min_eq_left hl], hl, by omega, fun h0 => ?_, fun b o e k y hy => ?_, fun y hy => wf_i64 (hwz y (List.mem_of_mem_take hy)), fun e => by cases e⟩, hn8⟩
    · exact ⟨_, _, by rw [← add_of_cell (hcell 0 (by omega))]⟩
    · cases e
      have hk : k < (zs.take len).length := (List.getElem?_eq_some_iff.1 hy).1
      have hk2 : k < zs.length := by simp at hk; omega
      have hc := hcell k hk2
      have e1 : (Addr.mk b o none).add k = ⟨b, o + k, none⟩ := by
        unfold Addr.add; split
        · subst k; rfl
        · rfl
      rw [e1] at hc
      rw [hc]
      rw [List.getElem?_take_of_lt (by simp at hk; omega)] at hy
      simp [List.getD, hy]

theorem weightsAll_mem {t : TypeId} : ∀ {ds : List (DataW H)} {d : DataW H}, d ∈ ds → ∀ n, n ∈ d.weights Tryz.prog t → n ∈ DataW.weightsAll Tryz.prog t ds
  | d0 :: ds, d, h, n, hn => by
    rw [DataW.weightsAll, List.mem_append]
    rcases List.mem_cons.1 h with rfl | h
    · exact Or.inl hn
    · exact Or.inr (weightsAll_mem h n hn)

theorem rows_read {w : World} {fuel : Nat} {v : Value} {x : DataW H × List MemPlace} (h : DataW.trod enc Tryz.prog w 0 (fun _ => true) true fuel 26 [v] = some x) (hs : Sized 26 x.1) :
    ∃ a n c xss, v = .slice a n c ∧ Rows w a n c xss ∧ n * 24 ≤ reachBytes ∧ ∀ xs, xs ∈ xss → xs.length * 8 ≤ reachBytes := by
  rcases open_slice1 Tryz.underlying26 Tryz.cellsIntsL h with ⟨hcs, hx⟩ | ⟨a, len, cap, m, fu, V, D, Pl, hcs, hb, hl, hm, hmm, rfl, hx⟩
  · obtain rfl : v = .slice none 0 0 := by simpa using hcs
    exact ⟨none, 0, 0, [], rfl, Rows.nil _ _ _, by simp, by simp⟩
  · obtain rfl : v = .slice (some a) len cap := by simpa using hcs
    simp only [if_true] at hmm
    subst hmm
    have hw := hs ((len + (m - len)) * 24) (by simp [DataW.weights, Tryz.underlying26, Tryz.bytesIntsL])
    have hr := reachBytes_lt
    have hn8 : len * 24 ≤ reachBytes := by omega
    have each : ∀ i, i < len → ∃ xs : List Int, ∃ a' n' c', V i = .slice a' n' c' ∧ Ints w a' n' c' xs ∧ n' * 8 ≤ reachBytes := fun i hi => by
      obtain ⟨a', n', c', xs, h1, h2, h3⟩ := ints_read (hx i (by omega)).2 (fun n hn => hs n (by
        simp only [DataW.weights, Tryz.underlying26, List.mem_cons, List.mem_append]
        exact Or.inr (Or.inl (weightsAll_mem (List.mem_map.2 ⟨i, List.mem_range.2 hi, rfl⟩) n hn))))
      exact ⟨xs, a', n', c', h1, h2, h3⟩
    obtain ⟨X, hX⟩ := choose_lt each
    refine ⟨some a, len, m, (List.range len).map X, rfl, ⟨by simp, hl, by omega, fun h0 => ?_, fun b o e k y hy => ?_⟩, hn8, fun xs hxs => ?_⟩
    · exact ⟨_, _, by rw [← add_of_cell (hx 0 (by omega)).1]⟩
    · cases e
      have hk : k < len := by have := (List.getElem?_eq_some_iff.1 hy).1; simpa using this
      have e1 : (Addr.mk b o none).add k = ⟨b, o + k, none⟩ := by
        unfold Addr.add; split
        · subst k; rfl
        · rfl
      have hc := (hx k (by omega)).1
      rw [e1] at hc
      obtain ⟨a', n', c', h1, h2, h3⟩ := hX k hk
      obtain rfl : X k = y := by simpa [hk] using hy
      exact ⟨a', n', c', by rw [hc, h1], h2⟩
    · obtain ⟨i, hi, rfl⟩ := List.mem_map.1 hxs
      obtain ⟨a', n', c', h1, h2, h3⟩ := hX i (List.mem_range.1 hi)
      rw [h2.len]; exact h3

set_option maxRecDepth 100000 in
theorem ints_arg {W : World} {r : Reach} {b0 : Nat} {v : Value} {d : DataW H} {p : List MemPlace} (hv : Value.okWide Tryz.prog W r b0 23 v)
    (h : DataW.Trod enc Tryz.prog W 0 (fun _ => true) true 23 v d p) (hs : Sized 23 d) : ∃ a n c xs, v = .slice a n c ∧ Ints W a n c xs ∧ n * 8 ≤ reachBytes := by
  obtain ⟨a, n, c, rfl⟩ := okWide_slice Tryz.underlying23 hv
  obtain ⟨fuel, hf⟩ := h
  have hf2 : DataW.trod enc Tryz.prog W 0 (fun _ => true) true fuel 23 [.slice a n c] = some (d, p) := by simpa [Value.cells] using hf
  exact ints_read hf2 hs

/-- arguments read behind the call as they read before -/
theorem args_below {W W' : World} (hb : Below W.heap.size W W') : ∀ {ts : List TypeId} {vs : List Value} {ds : List (DataW H)} {ps : List MemPlace},
    (∀ t, t ∈ ts → Tryz.prog.readableRec t = true ∧ t < Tryz.prog.types.size) → DataW.TrodAll enc Tryz.prog W 0 (fun _ => true) true ts vs ds ps → (∀ x, x ∈ ps → x.block < W.heap.size) →
    DataW.TrodAll enc Tryz.prog W' 0 (fun b => decide (b < W.heap.size)) true ts vs ds ps
  | [], [], [], _, _, h, _ => h
  | t :: ts, v :: vs, d :: ds, _, hr, ⟨p, q, h1, h2, rfl⟩, hl => by
    exact ⟨p, q, Below.trod Tryz.laidOutL (hr t List.mem_cons_self).1 (hr t List.mem_cons_self).2 h1 hb fun x hx => hl x (List.mem_append_left _ hx),
      args_below hb (fun t ht => hr t (List.mem_cons_of_mem _ ht)) h2 fun x hx => hl x (List.mem_append_right _ hx), rfl⟩
  | [], _ :: _, _, _, _, h, _ => h.elim
  | [], [], _ :: _, _, _, h, _ => h.elim
  | _ :: _, [], _, _, _, h, _ => h.elim
  | _ :: _, _ :: _, [], _, _, h, _ => h.elim

/-- A LAW: what its walk must show, and what the row says then. -/
theorem law_post {f : Func} {s : ChangeSpec} {W W' : World} {args : Array Value} {ds gs : List (DataW H)} {before : List MemPlace} (hW : DataW.Whole enc Tryz.prog f.params.toList s.vars false W args.toList ds gs before) (hv : s.vars = [])
    (hf : f.resultTypes = #[4]) (ht : ∀ t, t ∈ f.params.toList → Tryz.prog.readableRec t = true ∧ t < Tryz.prog.types.size)
    (hs : s.fn H ds = { results := [.lit (.bool true)], args := ds }) (hB : Below W.heap.size W W') :
    s.post enc Tryz.prog f false true false false W args (.bool true) W' := by
  have hW' := hW
  obtain ⟨p, q, hA, hV, rfl, _, _⟩ := hW
  rw [hv] at hV
  obtain ⟨rfl, rfl⟩ := trodVars_none hV
  refine ⟨ds, [], _, [], p, [], hW', ?_, ?_, ?_, hB.frame _, fun h => by cases h⟩
  · rw [List.append_nil, hs, hf]
    exact trodAll_mk1 (shut_bool Tryz.underlying4 true)
  · rw [List.append_nil, hs]
    exact args_below hB ht hA fun x hx => by simpa using hW'.lt x (List.mem_append_left _ hx)
  · rw [List.append_nil, hs, hv]
    rfl
end
end Go.Proofs.YtbnjeegicbffeaaGreat

/- What First answers: refused, or the first of the best. -/
namespace Go.Proofs.YtbnjeegicbffeaaGreat
open Go.RowKit Sale

theorem order_nat {order : List Int} {m : Nat} (h : isOrd order m = true) : ∃ on : List Nat, order = on.map fun k : Nat => (k : Int) := by
  refine ⟨order.map Int.toNat, ?_⟩
  rw [List.map_map]
  have hp : order.Perm (upTo m) := List.isPerm_iff.1 h
  have : ∀ x, x ∈ order → 0 ≤ x := by
    intro x hx
    have := hp.mem_iff.1 hx
    unfold upTo at this
    obtain ⟨j, _, rfl⟩ := List.mem_map.1 this
    omega
  conv => lhs; rw [← List.map_id order]
  refine List.map_congr_left fun x hx => ?_
  have := this x hx
  simp; omega

/-- what First answers: refused, or the first of the best -/
theorem First_all (ga oa : Option Addr) (gn gc o_n oc : Nat) (gains : List (List Int)) (items : Int) (order : List Int) (w : World) (hg : Rows w ga gn gc gains) (ho : Ints w oa o_n oc order) (hsz : o_n * 8 ≤ reachBytes) :
    (firstOk gains items order = false ∧ Calls Tryz.prog 33 #[.slice ga gn gc, .int .i64 items, .slice oa o_n oc] w (RetList 1 [] w)) ∨
    ∃ (n : Nat) (on : List Nat), items = n ∧ order = on.map (fun k : Nat => (k : Int)) ∧ wcheck gains items = true ∧ isOrd order gains.length = true ∧
      Calls Tryz.prog 33 #[.slice ga gn gc, .int .i64 items, .slice oa o_n oc] w (RetList 0 (firstOf gains n on) w) := by
  have hr : reachBytes = 140737488351232 := rfl
  cases hok : firstOk gains items order with
  | false => exact .inl ⟨rfl, First_no ga oa gn gc o_n oc gains items order w hg ho (by omega) hok⟩
  | true =>
    simp only [firstOk, Bool.and_eq_true] at hok
    obtain ⟨on, rfl⟩ := order_nat hok.2
    have hw := wcheck_parts hok.1
    obtain ⟨n, rfl⟩ := Int.eq_ofNat_of_zero_le (show 0 ≤ items by omega)
    exact .inr ⟨n, on, rfl, rfl, hok.1, hok.2, First_yes ga oa gn gc o_n oc gains n on w hg ho hok.1 hok.2⟩

end Go.Proofs.YtbnjeegicbffeaaGreat

/- A market in plain words: what each gains, and without one. -/
namespace Go.Proofs.YtbnjeegicbffeaaGreat
open Go.RowKit Sale

/-- what a bidder gains by each item -/
def gainRow (res bid : List Int) : List Int := (List.range res.length).map fun k => if bid = [] then -1 else bid.getD k 0 - res.getD k 0
def gainsM (m : Mkt) : List (List Int) := m.bids.map (gainRow m.res)
theorem gainRow_length (res bid : List Int) : (gainRow res bid).length = res.length := by simp [gainRow]
theorem gainsM_length (m : Mkt) : (gainsM m).length = m.bids.length := by simp [gainsM]
theorem gainRow_get {res bid : List Int} {k : Nat} (hk : k < res.length) : (gainRow res bid)[k]? = some (if bid = [] then -1 else bid.getD k 0 - res.getD k 0) := by simp [gainRow, hk]

/-- what may be is as it must be -/
structure MOk (m : Mkt) : Prop where
  n1 : 1 ≤ m.res.length
  n8 : m.res.length ≤ 8
  m1 : 1 ≤ m.bids.length
  m8 : m.bids.length ≤ 8
  res : ∀ x, x ∈ m.res → 0 ≤ x ∧ x ≤ 1000000
  bid : ∀ b, b ∈ m.bids → b = [] ∨ (b.length = m.res.length ∧ ∀ x, x ∈ b → 0 ≤ x ∧ x ≤ 1000000)
  ord : isOrd m.ord m.bids.length = true

theorem vcheck_parts {xs : List Int} {n : Int} (h : vcheck xs n = true) : 1 ≤ n ∧ n ≤ 8 ∧ (xs.length : Int) = n ∧ ∀ x, x ∈ xs → 0 ≤ x ∧ x ≤ 1000000 := by
  simp only [vcheck, Bool.and_eq_true, decide_eq_true_eq, within, List.all_eq_true] at h
  exact ⟨h.1.1.1, h.1.1.2, h.1.2, h.2⟩
theorem vcheck_of {xs : List Int} {n : Int} (h1 : 1 ≤ n) (h2 : n ≤ 8) (h3 : (xs.length : Int) = n) (h4 : ∀ x, x ∈ xs → 0 ≤ x ∧ x ≤ 1000000) : vcheck xs n = true := by
  simp only [vcheck, Bool.and_eq_true, decide_eq_true_eq, within, List.all_eq_true]
  exact ⟨⟨⟨h1, h2⟩, h3⟩, h4⟩

theorem count_one {l : List Int} (hn : l.Nodup) {x : Int} (h : x ∈ l) : l.count x = 1 := by
  have h1 := List.nodup_iff_count.1 hn x
  have h2 := List.count_pos_iff.2 h
  omega
theorem orderOk_iff {l : List Int} {m : Nat} (hm : m ≤ 8) : orderOk l m = true ↔ isOrd l m = true := by
  unfold isOrd
  rw [List.isPerm_iff]
  constructor
  · intro h
    simp only [orderOk, Bool.and_eq_true, List.all_eq_true, decide_eq_true_eq, beq_iff_eq] at h
    obtain ⟨h1, h2⟩ := h
    rw [List.perm_iff_count]
    intro x
    have hup : ∀ y : Int, (upTo m).count y = if 0 ≤ y ∧ y < m then 1 else 0 := fun y => by
      have hn : (upTo m).Nodup := by
        unfold upTo
        rw [List.nodup_iff_pairwise_ne, List.pairwise_map]
        exact (List.nodup_range (n := m)).imp fun h e => h (by omega)
      split
      · rename_i hy
        exact count_one hn (by unfold upTo; exact List.mem_map.2 ⟨y.toNat, List.mem_range.2 (by omega), by omega⟩)
      · rename_i hy
        refine List.count_eq_zero_of_not_mem fun hc => hy ?_
        unfold upTo at hc
        obtain ⟨j, hj, rfl⟩ := List.mem_map.1 hc
        have := List.mem_range.1 hj
        omega
    rw [hup]
    by_cases hx : 0 ≤ x ∧ x < m
    · rw [if_pos hx]
      obtain ⟨k, rfl⟩ : ∃ k : Nat, x = k := ⟨x.toNat, by omega⟩
      have hk8 : k < 8 := by omega
      have e1 := timesOf_get l hk8
      rw [h2, onceTo_get hk8, if_pos (by omega)] at e1
      have := Option.some.inj e1
      omega
    · rw [if_neg hx]
      exact List.count_eq_zero_of_not_mem fun hc => hx (h1 x hc)
  · intro h
    simp only [orderOk, Bool.and_eq_true, List.all_eq_true, decide_eq_true_eq, beq_iff_eq]
    refine ⟨fun x hx => ?_, ?_⟩
    · have := h.mem_iff.1 hx
      unfold upTo at this
      obtain ⟨j, hj, rfl⟩ := List.mem_map.1 this
      have := List.mem_range.1 hj
      omega
    · unfold timesOf onceTo
      refine List.map_congr_left fun j hj => ?_
      rw [h.count_eq]
      have hn : (upTo m).Nodup := by
        unfold upTo
        rw [List.nodup_iff_pairwise_ne, List.pairwise_map]
        exact (List.nodup_range (n := m)).imp fun h e => h (by omega)
      split
      · rename_i hjm
        rw [count_one hn (by unfold upTo; exact List.mem_map.2 ⟨j, List.mem_range.2 hjm, rfl⟩)]; rfl
      · rename_i hjm
        rw [List.count_eq_zero_of_not_mem (fun hc => ?_)]; rfl
        unfold upTo at hc
        obtain ⟨i, hi, e⟩ := List.mem_map.1 hc
        have := List.mem_range.1 hi
        omega

theorem mcheck_ok {m : Mkt} (h : mcheck m = true) : MOk m := by
  simp only [mcheck, Bool.and_eq_true, decide_eq_true_eq, Bool.not_eq_true', List.any_eq_false] at h
  obtain ⟨⟨⟨⟨h1, h2⟩, h3⟩, h4⟩, h5⟩ := h
  obtain ⟨v1, v2, _, v4⟩ := vcheck_parts h1
  refine ⟨by omega, by omega, h2, h3, v4, fun b hb => ?_, (orderOk_iff h3).1 h4⟩
  have := h5 b hb
  unfold badBid at this
  by_cases e : b = []
  · exact .inl e
  · right
    have he : b.isEmpty = false := by cases b <;> simp_all
    rw [he] at this
    simp only [Bool.not_false, Bool.true_and, Bool.not_eq_true', Bool.not_eq_false] at this
    obtain ⟨_, _, w3, w4⟩ := vcheck_parts this
    exact ⟨by omega, w4⟩
theorem mcheck_of {m : Mkt} (h : MOk m) : mcheck m = true := by
  simp only [mcheck, Bool.and_eq_true, decide_eq_true_eq, Bool.not_eq_true', List.any_eq_false]
  have := h.n1
  have := h.n8
  refine ⟨⟨⟨⟨vcheck_of (by omega) (by omega) rfl h.res, h.m1⟩, h.m8⟩, (orderOk_iff h.m8).2 h.ord⟩, fun b hb => ?_⟩
  unfold badBid
  rcases h.bid b hb with rfl | ⟨h1, h2⟩
  · simp
  · rw [vcheck_of (by omega) (by omega) (by omega) h2]; simp

/-- the gains of a market, as functions of bidder and item -/
theorem gi_bid {m : Mkt} {i k : Nat} (hi : i < m.bids.length) (hk : k < m.res.length) : gi (gainsM m) i k = if m.bids[i] = [] then -1 else m.bids[i].getD k 0 - m.res.getD k 0 :=
  gi_at (l := gainRow m.res m.bids[i]) (by simp [gainsM, hi]) (gainRow_get hk)

theorem MOk.rows {m : Mkt} (h : MOk m) : (∀ l, l ∈ gainsM m → (l.length : Int) = m.res.length) ∧ ∀ l, l ∈ gainsM m → ∀ x, x ∈ l → -1000000 ≤ x ∧ x ≤ 1000000 := by
  constructor
  · intro l hl
    obtain ⟨b, _, rfl⟩ := List.mem_map.1 hl
    rw [gainRow_length]
  · intro l hl x hx
    obtain ⟨b, hb, rfl⟩ := List.mem_map.1 hl
    obtain ⟨k, hk, rfl⟩ := List.mem_map.1 hx
    have hkn := List.mem_range.1 hk
    split
    · omega
    · rename_i hne
      rcases h.bid b hb with e | ⟨h1, h2⟩
      · exact absurd e hne
      · have e1 := h2 b[k] (List.getElem_mem (by omega))
        have e2 := h.res m.res[k] (List.getElem_mem hkn)
        rw [List.getD_eq_getElem?_getD, List.getD_eq_getElem?_getD, List.getElem?_eq_getElem (by omega), List.getElem?_eq_getElem hkn, Option.getD_some, Option.getD_some]
        omega

theorem MOk.wcheck {m : Mkt} (h : MOk m) : wcheck (gainsM m) m.res.length = true :=
  wcheck_of h.n1 h.n8 (by rw [gainsM_length]; exact h.m8) h.rows.1 h.rows.2
theorem MOk.order {m : Mkt} (h : MOk m) : ∃ on : List Nat, m.ord = on.map (fun k : Nat => (k : Int)) ∧ on.Perm (List.range m.bids.length) := by
  obtain ⟨on, e⟩ := order_nat h.ord
  refine ⟨on, e, ?_⟩
  have := h.ord
  rw [e] at this
  exact isOrd_parts this
theorem MOk.bd {m : Mkt} (h : MOk m) (i k : Nat) : -1000000 ≤ gi (gainsM m) i k ∧ gi (gainsM m) i k ≤ 1000000 := by
  unfold gi
  cases hl : (gainsM m)[i]? with
  | none => simp
  | some l =>
    cases hx : l[k]? with
    | none => simp [hx]
    | some x =>
      simp only [Option.getD_some, hx]
      exact h.rows.2 l (List.mem_of_getElem? hl) x (List.mem_of_getElem? hx)

/-- without a bidder's bid -/
def withoutM (m : Mkt) (i : Nat) : Mkt := { m with bids := m.bids.set i [] }
theorem withoutM_length (m : Mkt) (i : Nat) : (withoutM m i).bids.length = m.bids.length := by simp [withoutM]
theorem MOk.without {m : Mkt} (h : MOk m) (i : Nat) : MOk (withoutM m i) := by
  refine ⟨h.n1, h.n8, by rw [withoutM_length]; exact h.m1, by rw [withoutM_length]; exact h.m8, h.res, fun b hb => ?_, by rw [withoutM_length]; exact h.ord⟩
  rcases List.mem_or_eq_of_mem_set hb with hb | e
  · exact h.bid b hb
  · exact .inl e
theorem gi_without {m : Mkt} {i0 i k : Nat} (hi : i < m.bids.length) (hk : k < m.res.length) : gi (gainsM (withoutM m i0)) i k = wipe (gi (gainsM m)) i0 i k := by
  rw [gi_bid (m := withoutM m i0) (by rw [withoutM_length]; exact hi) hk]
  unfold wipe
  by_cases e : i = i0
  · subst e
    rw [if_pos rfl]
    simp [withoutM]
  · rw [if_neg e, gi_bid hi hk]
    simp [withoutM, Ne.symm e]
theorem without_self {m : Mkt} {i : Nat} (h : m.bids[i]? = some []) : withoutM m i = m := by
  unfold withoutM
  have : m.bids.set i [] = m.bids := by
    apply List.ext_getElem?
    intro j
    rw [List.getElem?_set]
    by_cases e : i = j
    · subst e
      have := (List.getElem?_eq_some_iff.1 h).1
      rw [if_pos rfl, if_pos this, h]
    · rw [if_neg e]
  rw [this]
end Go.Proofs.YtbnjeegicbffeaaGreat
