/- Walks: matchings.Most. Walks: graphs.edges: each bidder with each item that it may have. Walks: graphs.Near: the items that some may have. Walks: matchings.Most, All. Walks: matchings.All. -/
import Derived.Test.YtbnjeegicbffeaaGreatG09
import Derived.Test.YtbnjeegicbffeaaGreatG10
import Derived.Test.YtbnjeegicbffeaaGreatG03
import Derived.Test.YtbnjeegicbffeaaGreatG07
import Derived.Deep.MidRow
/- Walks: matchings.Most. -/
namespace Go.Proofs.YtbnjeegicbffeaaGreat
open Go.RowKit

/-- a list that is a matching fits -/
theorem fitsOf {G : List (List Nat)} {items : Int} {l : List Int} (hg : gcheck (G.map nats) items = true) (hl : l.length = G.length) (hge : ∀ x, x ∈ l → -1 ≤ x)
    (hinj : ∀ x y r, hasAt l x = some r → hasAt l y = some r → x = y) (hfit : ∀ x r, hasAt l x = some r → r ∈ nbOf G x) : fitsB (G.map nats) items l = true := by
  simp only [fitsB, Bool.and_eq_true, decide_eq_true_eq]
  refine ⟨⟨hg, by simpa using hl⟩, ?_⟩
  unfold fitTo
  rw [List.all_eq_true]
  intro i hi
  have hil := List.mem_range.1 hi
  have hx : l[i]? = some (l[i]'(by omega)) := by simp
  rw [hx, Option.getD_some]
  obtain ⟨x, hxe⟩ : ∃ x, x = l[i]'(by omega) := ⟨_, rfl⟩
  rw [← hxe] at hx ⊢
  have hx1 := hge x (List.mem_of_getElem? hx)
  by_cases hne : x = -1
  · simp [okFit, hne]
  · obtain ⟨r, rfl⟩ := Int.eq_ofNat_of_zero_le (show 0 ≤ x by omega)
    have hr : hasAt l i = some r := by rw [hasAt_of hx, if_neg hne, Int.toNat_natCast]
    have h1 := hfit i r hr
    have h2 : (r : Int) ∉ l.take i := by
      intro hm
      obtain ⟨j, hj⟩ := List.mem_iff_getElem?.1 hm
      have hji : j < i := by have := (List.getElem?_eq_some_iff.1 hj).1; simp at this; omega
      rw [List.getElem?_take_of_lt hji] at hj
      have hr2 : hasAt l j = some r := by rw [hasAt_of hj, if_neg hne, Int.toNat_natCast]
      have := hinj i j r hr hr2
      omega
    have h3 : (r : Int) ∈ ((G.map nats)[i]?.getD []) := by rw [nbOf_map]; exact mem_nats.2 h1
    simp only [okFit, List.contains_eq_mem, h3, h2, decide_true, decide_false, Bool.not_false, Bool.and_self, Bool.or_true]


/-- what the first i of them have, one way after the other -/
def mostL (G : List (List Nat)) (i : Nat) : List Int := listOf G.length (Way.mostTo (nbOf G) G.length i)
theorem g8_of {G : List (List Nat)} {items : Int} (hg : gcheck (G.map nats) items = true) : ∀ w, w < G.length → ∀ k, k ∈ nbOf G w → k < 8 := fun w hw k hk => by
  obtain ⟨h1, h2, _, h4⟩ := gcheck_parts hg
  unfold nbOf at hk
  rw [List.getElem?_eq_getElem hw] at hk
  have := risesFrom_bd (h4 _ (List.mem_map.2 ⟨G[w], List.getElem_mem hw, rfl⟩)) (k : Int) (List.mem_map.2 ⟨k, hk, rfl⟩)
  omega
theorem most_mat {G : List (List Nat)} {items : Int} (hg : gcheck (G.map nats) items = true) {i : Nat} (hi : i ≤ G.length) : Way.Mat (nbOf G) i (Way.mostTo (nbOf G) G.length i) := Way.mostTo_mat (g8_of hg) i hi
theorem most_has {G : List (List Nat)} {items : Int} (hg : gcheck (G.map nats) items = true) {i : Nat} (hi : i ≤ G.length) : hasAt (mostL G i) = Way.mostTo (nbOf G) G.length i :=
  hasAt_listOf fun w k h => by have := (most_mat hg hi).lt w k h; omega
theorem most_ok {G : List (List Nat)} {items : Int} (hg : gcheck (G.map nats) items = true) {i : Nat} (hi : i < G.length) : bOk (G.map nats) items (mostL G i) i = true := by
  have hm := most_mat hg (Nat.le_of_lt hi)
  have hh := most_has hg (Nat.le_of_lt hi)
  have hf : fitsB (G.map nats) items (mostL G i) = true := fitsOf hg (listOf_length _ _) (fun x hx => by
    obtain ⟨j, _, rfl⟩ := List.mem_map.1 hx
    exact itm_ge _) (fun x y r h1 h2 => by rw [hh] at h1 h2; exact hm.inj x y r h1 h2) (fun x r h => by rw [hh] at h; exact hm.fits x r h)
  have hn : Way.mostTo (nbOf G) G.length i i = none := by
    cases h : Way.mostTo (nbOf G) G.length i i with
    | none => rfl
    | some k => have := hm.lt i k h; omega
  simp only [bOk, Bool.and_eq_true, decide_eq_true_eq]
  refine ⟨⟨⟨hf, by omega⟩, by simp; omega⟩, ?_⟩
  rw [Int.toNat_natCast, mostL, listOf_get _ hi, hn]; rfl
theorem most_more {G : List (List Nat)} {items : Int} (hg : gcheck (G.map nats) items = true) {i : Nat} (hi : i < G.length) : mostL G (i + 1) = (moreOf G (mostL G i) i).getD (mostL G i) := by
  unfold moreOf
  rw [most_has hg (Nat.le_of_lt hi), show (mostL G i).length = G.length from listOf_length _ _]
  show listOf G.length ((Way.more _ _ _ i).getD _) = _
  cases Way.more (nbOf G) (Way.holdTo (Way.mostTo (nbOf G) G.length i) G.length) (Way.mostTo (nbOf G) G.length i) i with
  | none => rfl
  | some h => rfl
theorem most_zero (G : List (List Nat)) : mostL G 0 = List.replicate G.length (-1) := by
  unfold mostL listOf
  apply List.ext_getElem?
  intro j
  by_cases hj : j < G.length
  · simp [hj, Way.mostTo, itm]
  · rw [List.getElem?_eq_none (by simp; omega), List.getElem?_eq_none (by simp; omega)]

/-- a store into a box that holds a slice turns no list of integers -/
theorem Ints.pastBox {W : World} {B : Nat} {t : TypeId} {p : Option Addr} {m k : Nat} (hb : Boxed W B t (.slice p m k)) {a : Option Addr} {n c : Nat} {xs : List Int} (h : Ints W a n c xs) (v : Value) : Ints (W.setCell ⟨B, 0, none⟩ v) a n c xs :=
  ⟨h.len, h.cap, h.big, h.addr, fun b o e j x hx => by
    have hc := h.cell b o e j x hx
    have hne : b ≠ B := by
      intro e2
      subst e2
      rw [cell_of_row W b _ _ _ _ hb] at hc
      cases hj : o + j with
      | zero => rw [hj] at hc; simp at hc
      | succ q => rw [hj] at hc; simp at hc
    exact (World.cell?_of_block (Below.heap_setCell W ⟨B, 0, none⟩ v b hne)).trans hc, h.bd, h.nil⟩

theorem boxed_on {W W' : World} {b : Nat} {t : TypeId} {v : Value} (h : Boxed W b t v) (hb : Below W.heap.size W W') : Boxed W' b t v := by unfold Boxed; rw [hb.block _ h.lt]; exact h
theorem Ints.clip {W : World} {a : Option Addr} {n c : Nat} {xs : List Int} (h : Ints W a n c xs) : Ints W a n n xs := ⟨h.len, Nat.le_refl _, h.big, h.addr, h.cell, h.bd, fun e => ⟨(h.nil e).1, (h.nil e).1⟩⟩

/-- what the goer's boxes hold -/
structure GoAt (W : World) (B2 B3 B6 : Nat) (ga : Option Addr) (gn gc : Nat) (items : Int) (ha : Option Addr) (hn hc : Nat) : Prop where
  b2 : Boxed W B2 26 (.slice ga gn gc)
  b3 : Boxed W B3 3 (.int .i64 items)
  b6 : Boxed W B6 23 (.slice ha hn hc)
theorem GoAt.step {W W' : World} {B2 B3 B6 : Nat} {ga : Option Addr} {gn gc : Nat} {items : Int} {ha : Option Addr} {hn hc : Nat} (h : GoAt W B2 B3 B6 ga gn gc items ha hn hc) (hb : Below W.heap.size W W') : GoAt W' B2 B3 B6 ga gn gc items ha hn hc :=
  ⟨by unfold Boxed; rw [hb.block _ h.b2.lt]; exact h.b2, by unfold Boxed; rw [hb.block _ h.b3.lt]; exact h.b3, by unfold Boxed; rw [hb.block _ h.b6.lt]; exact h.b6⟩

set_option maxRecDepth 100000 in
set_option maxHeartbeats 1000000 in
/-- one goes: the box holds what it has then -/
theorem mgoes_any (B2 B3 B6 : Nat) (ga ha : Option Addr) (gn gc hn hc f : Nat) (G : List (List Nat)) (items : Int) (has : List Int) (W : World) (hA : GoAt W B2 B3 B6 ga gn gc items ha hn hc) (hne : B2 ≠ B6 ∧ B3 ≠ B6)
    (hg : Rows W ga gn gc (G.map nats)) (hh : Ints W ha hn hc has) (hok : bOk (G.map nats) items has f = true) :
    Calls Tryz.prog 136 #[.int .i64 f, .pointer (some ⟨B2, 0, none⟩), .pointer (some ⟨B3, 0, none⟩), .pointer (some ⟨B6, 0, none⟩)] W fun e W' => (∃ v, e = .returned v) ∧
      ∃ ha' hc', GoAt W' B2 B3 B6 ga gn gc items ha' hn hc' ∧ Ints W' ha' hn hc' ((moreOf G has f).getD has) ∧ ∀ n, n ≤ B6 → n ≤ W.heap.size → Below n W W' := by
  have HM := Lib.hid (More_res ga ha gn gc hn hc f G items has W hg hh hok)
  have c2 := hA.b2.cell
  have c3 := hA.b3.cell
  have c6 := hA.b6.cell
  have HA := Lib.hid hA; clear hA
  have HH := Lib.hid hh; clear hh hg hok
  go_enter Tryz.func136, Tryz.ntmps136
  go_wp2_with fail
  refine HM.out.mono ?_
  intro e W1 hr
  unfold MoreRes at hr
  cases hm : moreOf G has f with
  | none =>
    rw [hm] at hr
    obtain ⟨rfl, hb⟩ := hr
    have HB := Lib.hid hb; clear hb
    have HMM := Lib.hid hm; clear hm
    go_wp2_with fail
    go_end0
    exact ⟨⟨_, rfl⟩, ha, hc, HA.out.step HB.out, by rw [HMM.out]; exact HH.out.below HB.out (Nat.le_refl _), fun n _ h2 => HB.out.mono h2⟩
  | some l =>
    rw [hm] at hr
    obtain ⟨a2, rfl, hi2, hb⟩ := hr
    have hA1 := HA.out.step hb
    have k6 := hA1.b6.cell
    have z6 := hA1.b6.lt
    have f6 := hA1.b6.frozen
    have HA1 := Lib.hid hA1; clear hA1
    have HB := Lib.hid hb; clear hb
    have HI := Lib.hid hi2; clear hi2
    have HMM := Lib.hid hm; clear hm
    go_wp2_with fail
    go_end0
    refine ⟨⟨_, rfl⟩, a2, hn, ⟨HA1.out.b2.other hne.1 _, HA1.out.b3.other hne.2 _, HA1.out.b6.set _⟩, ?_, fun n h1 h2 => (HB.out.mono h2).setCell (p := ⟨B6, 0, none⟩) h1 _⟩
    rw [HMM.out]
    exact HI.out.pastBox HA1.out.b6 _
end Go.Proofs.YtbnjeegicbffeaaGreat

/- Walks: graphs.edges: each bidder with each item that it may have. -/
namespace Go.Proofs.YtbnjeegicbffeaaGreat
open Go.RowKit Go.Shelf

attribute [local go_sem] Oper.semAt_some

def rowEdges (i : Nat) (L : List Nat) : List (Nat × Nat) := L.map fun k => (i, k)
def edgesTo (G : List (List Nat)) (n : Nat) : List (Nat × Nat) := (List.range n).flatMap fun i => rowEdges i (nbOf G i)
def edgesOf (G : List (List Nat)) : List (Nat × Nat) := edgesTo G G.length
theorem edgesTo_succ (G : List (List Nat)) (n : Nat) : edgesTo G (n + 1) = edgesTo G n ++ rowEdges n (nbOf G n) := by
  simp [edgesTo, List.range_succ]
theorem edgesTo_prefix (G : List (List Nat)) : ∀ {n m : Nat}, n ≤ m → edgesTo G n <+: edgesTo G m := by
  intro n m h
  induction m with
  | zero => obtain rfl : n = 0 := by omega
            exact List.prefix_refl _
  | succ m ih =>
    rcases Nat.lt_or_ge n (m + 1) with h1 | h1
    · exact (ih (by omega)).trans (by rw [edgesTo_succ]; exact List.prefix_append _ _)
    · obtain rfl : n = m + 1 := by omega
      exact List.prefix_refl _
theorem row_prefix {G : List (List Nat)} {i : Nat} (hi : i < G.length) (j : Nat) : edgesTo G i ++ rowEdges i ((nbOf G i).take j) <+: edgesOf G := by
  refine List.IsPrefix.trans ?_ (edgesTo_prefix G (n := i + 1) (m := G.length) (by omega))
  rw [edgesTo_succ]
  refine (List.prefix_append_right_inj _).2 ?_
  unfold rowEdges
  rw [List.map_take]
  exact List.take_prefix _ _
theorem row_snoc {G : List (List Nat)} {i j k : Nat} (h : (nbOf G i)[j]? = some k) : edgesTo G i ++ rowEdges i ((nbOf G i).take j) ++ [(i, k)] = edgesTo G i ++ rowEdges i ((nbOf G i).take (j + 1)) := by
  rw [List.take_add_one, h, List.append_assoc]
  simp [rowEdges]
theorem row_lt {G : List (List Nat)} {i j k : Nat} (hi : i < G.length) (h : (nbOf G i)[j]? = some k) : (edgesTo G i ++ rowEdges i ((nbOf G i).take j)).length < (edgesOf G).length := by
  have := (row_prefix hi (j + 1)).length_le
  rw [← row_snoc h, List.length_append] at this
  simp at this ⊢
  omega
theorem mem_edges {G : List (List Nat)} {i k : Nat} : (i, k) ∈ edgesOf G ↔ k ∈ nbOf G i := by
  unfold edgesOf edgesTo rowEdges
  rw [List.mem_flatMap]
  constructor
  · rintro ⟨a, ha, h⟩
    obtain ⟨b, hb, e⟩ := List.mem_map.1 h
    cases e; exact hb
  · intro h
    refine ⟨i, List.mem_range.2 ?_, List.mem_map.2 ⟨k, h, rfl⟩⟩
    rcases Nat.lt_or_ge i G.length with h1 | h1
    · exact h1
    · unfold nbOf at h; rw [List.getElem?_eq_none h1] at h; cases h

abbrev enc2 (p : Nat × Nat) : Array Value := #[.int .i64 p.1, .int .i64 p.2]

set_option maxRecDepth 100000 in
set_option maxHeartbeats 2000000 in
theorem edges1_in (l Bs n₀ : Nat) (ga : Option Addr) (gn gc : Nat) (G : List (List Nat)) (J Jx : List (Nat × Nat) → World → Prop)
    (hY : ∀ pre x W, x ∈ edgesOf G → J pre W → pre.length < (edgesOf G).length → YieldAt Fence.wide 8 Tryz.prog l (enc2 x) W fun e W' =>
      (e = .returned (.bool true) ∧ J (pre ++ [x]) W' ∧ Below n₀ W W') ∨ (e = .returned (.bool false) ∧ Jx (pre ++ [x]) W'))
    (W w0 : World) (hBs : W.cell? ⟨Bs, 0, none⟩ = some (.slice ga gn gc)) (hG : Rows w0 ga gn gc (G.map nats)) (hz : w0.heap.size ≤ n₀) (hb0 : Below w0.heap.size w0 W) (h0 : J [] W) :
    CallsIn Fence.wide 9 Tryz.prog 139 #[.func (.yield l) #[] #[], .pointer (some ⟨Bs, 0, none⟩)] W fun e W' => (∃ v, e = .returned v) ∧
      ((∃ ys, ys = edgesOf G ∧ J ys W') ∨ (∃ pre, pre <+: edgesOf G ∧ Jx pre W')) := by
  have hlen := hG.len
  rw [List.length_map] at hlen
  have hbig := hG.big
  refine callsIn_of_wp Tryz.func139 rfl trivial ?_ rfl
  simp only [Tryz.ntmps139, List.size_toArray, List.length_cons, List.length_nil, Nat.reduceAdd, Nat.reduceSub, Array.replicate_succ, Array.replicate_zero, List.push_toArray, List.append_toArray, List.nil_append, List.cons_append]
  have HG := Lib.hid hG; clear hG
  have HL := Lib.hid hlen; clear hlen
  gi_wp2
  gi_loopg [9] gn (fun g' s9 wr => ∃ i : Nat, i + g' = gn ∧ s9 = .int .i64 i ∧ J (edgesTo G i) wr ∧ Below n₀ W wr)
  case atStart => exact ⟨0, by omega, rfl, h0, Below.refl _ _⟩
  case round =>
    obtain ⟨i, hi, rfl, hJ, hB⟩ := hrel
    have HI := Lib.hid hi; clear hi
    have HJ := Lib.hid hJ; clear hJ
    by_cases hlt : i < gn
    · obtain ⟨row, hrow⟩ := HG.out.get hlt
      obtain ⟨L, hL, rfl⟩ : ∃ L, G[i]? = some L ∧ row = nats L := by
        rw [List.getElem?_map] at hrow
        cases hGw : G[i]? with
        | none => rw [hGw] at hrow; cases hrow
        | some L => rw [hGw] at hrow; cases hrow; exact ⟨L, rfl, rfl⟩
      have hnb : nbOf G i = L := by simp [nbOf, hL]
      obtain ⟨bg, og, rfl⟩ := HG.out.addr (by omega)
      obtain ⟨la, ln, lc, hcl, hli⟩ := HG.out.row (hb0.trans (hB.mono hz)) (Nat.le_refl _) (b := bg) (o := og) (k := i) rfl hrow
      have hll : L.length = ln := by have := hli.len; simpa [nats] using this
      have hlb := hli.big
      have HB := Lib.hid hB; clear hB
      have HLI := Lib.hid hli; clear hli
      have HNB := Lib.hid hnb; clear hnb
      have HLL := Lib.hid hll; clear hll
      have HGL := Lib.hid hL; clear hL
      clear hrow
      gi_wp2
      obtain ⟨wo, rfl⟩ : ∃ wo : World, wo = wr := ⟨_, rfl⟩
      obtain ⟨go, rfl⟩ : ∃ go : Nat, go = gk := ⟨_, rfl⟩
      gi_loopg [16] ln (fun g' s16 wr => ∃ j : Nat, j + g' = ln ∧ s16 = .int .i64 j ∧ J (edgesTo G i ++ rowEdges i (L.take j)) wr ∧ Below n₀ W wr)
      case atStart => exact ⟨0, by omega, rfl, by simpa [rowEdges] using HJ.out, HB.out⟩
      case round =>
        obtain ⟨j, hj, rfl, hJ2, hB2⟩ := hrel
        have HJJ := Lib.hid hj; clear hj
        have HB2 := Lib.hid hB2; clear hB2
        by_cases hlt2 : j < ln
        · obtain ⟨k, hk⟩ : ∃ k, L[j]? = some k := ⟨_, List.getElem?_eq_getElem (by rw [HLL.out]; exact hlt2)⟩
          obtain ⟨lb, lo, rfl⟩ := HLI.out.addr (by omega)
          have hck := (HLI.out.below (hb0.trans (HB2.out.mono hz)) (Nat.le_refl _)).cell lb lo rfl j (k : Int) (by simp [nats, hk])
          obtain ⟨fn, tmps, assign, body, hy, hR⟩ := hY _ (i, k) wr (mem_edges.2 (by rw [HNB.out]; exact List.mem_of_getElem? hk)) hJ2 (by have := row_lt (G := G) (i := i) (j := j) (k := k) (by rw [HL.out]; exact hlt) (by rw [HNB.out]; exact hk); rw [HNB.out] at this; exact this)
          dsimp only [enc2] at hy
          have HK := Lib.hid hk; clear hk
          clear hJ2
          gi_wp2
          refine hR.mono ?_
          rintro e W3 (⟨rfl, hJ3, hk3⟩ | ⟨rfl, hJx3⟩)
          · gi_wp2
            gi_roundg (gk - 1)
            case measure => have := HJJ.out; omega
            case rel => exact ⟨j + 1, by have := HJJ.out; omega, by go_num, by have := row_snoc (G := G) (i := i) (j := j) (k := k) (by rw [HNB.out]; exact HK.out); rw [HNB.out] at this; rw [← this]; exact hJ3, HB2.out.trans hk3⟩
          · gi_wp2
            refine bodyPost_ret (results_none rfl _ _ _) rfl ?_
            refine ⟨⟨_, rfl⟩, .inr ⟨_, ?_, hJx3⟩⟩
            have := row_snoc (G := G) (i := i) (j := j) (k := k) (by rw [HNB.out]; exact HK.out)
            rw [HNB.out] at this
            rw [this]
            have := row_prefix (G := G) (i := i) (by rw [HL.out]; exact hlt) (j + 1)
            rw [HNB.out] at this
            exact this
        · obtain rfl : j = ln := by have := HJJ.out; omega
          rw [List.take_of_length_le (by rw [HLL.out]; exact Nat.le_refl _)] at hJ2
          have HJ2 := Lib.hid hJ2; clear hJ2
          gi_wp2
          gi_roundg (go - 1)
          case measure => have := HI.out; omega
          case rel => exact ⟨i + 1, by have := HI.out; omega, by go_num, by rw [edgesTo_succ, HNB.out]; exact HJ2.out, HB2.out⟩
    · obtain rfl : i = gn := by have := HI.out; omega
      gi_wp2
      go_end0
      exact ⟨⟨_, rfl⟩, .inl ⟨_, by unfold edgesOf; rw [HL.out], HJ.out⟩⟩

/-- an edge -/
abbrev Edge (G : List (List Nat)) := { x : Nat × Nat // x ∈ edgesOf G }
theorem edges_stops (Bs n₀ : Nat) (ga : Option Addr) (gn gc : Nat) (G : List (List Nat)) (w w0 : World) (hBs : Bs < w.heap.size) (hn₀ : n₀ ≤ w.heap.size)
    (hc : w.cell? ⟨Bs, 0, none⟩ = some (.slice ga gn gc)) (hG : Rows w0 ga gn gc (G.map nats)) (hz : w0.heap.size ≤ n₀) (hb0 : Below w0.heap.size w0 w) :
    SeqStopsK Fence.wide 9 Tryz.prog 139 #[.pointer (some ⟨Bs, 0, none⟩)] (fun x : Edge G => enc2 x.1) (Below n₀) (fun ys => ys.map (·.1) = edgesOf G) (fun pre => pre.map (·.1) <+: edgesOf G) (edgesOf G).length w := fun l J Jx W hW _ _ hY h0 => by
  refine (edges1_in l Bs n₀ ga gn gc G (fun l' W => ∃ l2 : List (Edge G), l2.map (·.1) = l' ∧ J l2 W) (fun l' W => ∃ l2 : List (Edge G), l2.map (·.1) = l' ∧ Jx l2 W) ?_ W w0 ((hW.cell (p := ⟨Bs, 0, none⟩) hBs).trans hc) hG hz (hb0.trans (hW.mono (Nat.le_trans hz hn₀))) ⟨[], rfl, h0⟩).mono ?_
  · rintro pre x W1 hx ⟨l2, rfl, hJ⟩ hlen
    obtain ⟨fn, tmps, assign, body, h1, h2⟩ := hY l2 ⟨x, hx⟩ W1 hJ (by simpa using hlen)
    refine ⟨fn, tmps, assign, body, h1, h2.mono ?_⟩
    rintro e W2 (⟨rfl, hJ2, hb⟩ | ⟨rfl, hJ2⟩)
    · exact .inl ⟨rfl, ⟨_, by simp, hJ2⟩, hb⟩
    · exact .inr ⟨rfl, ⟨_, by simp, hJ2⟩⟩
  · rintro e W2 ⟨hv, (⟨ys, rfl, l2, e2, hJ⟩ | ⟨pre, hp, l2, rfl, hJ⟩)⟩
    · exact ⟨hv, .inl ⟨l2, e2, hJ⟩⟩
    · exact ⟨hv, .inr ⟨l2, hp, hJ⟩⟩

theorem edges_any (ga : Option Addr) (gn gc : Nat) (w : World) :
    Calls Tryz.prog 125 #[.slice ga gn gc] w fun e w' => e = .returned (.func (.func 139) #[] #[.pointer (some ⟨w.heap.size, 0, none⟩)]) ∧ w.alloc (.cells #[.slice ga gn gc] 26) = w' := by
  go_enter Tryz.func125, Tryz.ntmps125
  go_wp2_with fail
  go_ret
  exact ⟨rfl, rfl⟩
end Go.Proofs.YtbnjeegicbffeaaGreat

/- Walks: graphs.Near: the items that some may have. -/
namespace Go.Proofs.YtbnjeegicbffeaaGreat
open Go.RowKit Go.Shelf

attribute [local go_sem] Oper.semAt_some

/-- which items some may have -/
def nearOf (G : List (List Nat)) (sm : List Nat) (k : Nat) : Nat := if sm.any (fun i => (nbOf G i).contains k) then 1 else 0
def markOf (sm : List Nat) (pre : List (Nat × Nat)) (k : Nat) : Nat := if pre.any (fun e => sm.contains e.1 && e.2 == k) then 1 else 0
theorem mark_nil (sm : List Nat) : markOf sm [] = fun _ => 0 := by funext k; simp [markOf]
theorem mark_no {sm : List Nat} {pre : List (Nat × Nat)} {e : Nat × Nat} (h : sm.contains e.1 = false) : markOf sm (pre ++ [e]) = markOf sm pre := by
  funext k
  unfold markOf
  rw [List.any_append]
  simp only [List.any_cons, List.any_nil, h, Bool.false_and, Bool.or_false]
theorem mark_yes {sm : List Nat} {pre : List (Nat × Nat)} {e : Nat × Nat} (h : sm.contains e.1 = true) : markOf sm (pre ++ [e]) = Way.mark (markOf sm pre) e.2 1 := by
  funext k
  by_cases ek : k = e.2
  · subst ek
    rw [Way.mark_same]
    unfold markOf
    rw [List.any_append]
    simp only [List.any_cons, List.any_nil, h, Bool.true_and, Bool.or_false, beq_self_eq_true, Bool.or_true, if_true]
  · rw [Way.mark_other ek]
    have : (e.2 == k) = false := by rw [beq_eq_false_iff_ne]; exact fun e' => ek e'.symm
    unfold markOf
    rw [List.any_append]
    simp only [List.any_cons, List.any_nil, this, Bool.and_false, Bool.or_false]
theorem mark_all (G : List (List Nat)) (sm : List Nat) : markOf sm (edgesOf G) = nearOf G sm := by
  funext k
  have h : ((edgesOf G).any fun e => sm.contains e.1 && e.2 == k) = (sm.any fun i => (nbOf G i).contains k) := by
    rw [Bool.eq_iff_iff]
    simp only [List.any_eq_true, Bool.and_eq_true, List.contains_eq_mem, decide_eq_true_eq, beq_iff_eq]
    constructor
    · rintro ⟨⟨i, k'⟩, he, hi, rfl⟩
      exact ⟨i, hi, mem_edges.1 he⟩
    · rintro ⟨i, hi, hk⟩
      exact ⟨(i, k), mem_edges.2 hk, hi, rfl⟩
  unfold markOf nearOf
  rw [h]
theorem near01 (G : List (List Nat)) (sm : List Nat) (k : Nat) : nearOf G sm k = 0 ∨ nearOf G sm k = 1 := by unfold nearOf; split <;> simp

/-- may it be asked? -/
def nearOk (g : List (List Int)) (items : Int) (sm : List Int) : Bool := gcheck g items && risesFrom g.length (-1) sm

set_option maxHeartbeats 1000000 in
theorem Near_no (ga sa : Option Addr) (gn gc sn sc : Nat) (g : List (List Int)) (items : Int) (sm : List Int) (w : World) (hg : Rows w ga gn gc g) (hs : Ints w sa sn sc sm) (hok : nearOk g items sm = false) :
    Calls Tryz.prog 100 #[.slice ga gn gc, .int .i64 items, .slice sa sn sc] w (RetList 1 [] w) := by
  have hl := hg.len
  have HG := Lib.hid hg; clear hg
  have HS := Lib.hid hs; clear hs
  have HL := Lib.hid hl; clear hl
  have HW := Lib.hid (show Below w.heap.size w (w.alloc (.cells #[.slice sa sn sc] 23)) from (Below.refl _ _).alloc (Nat.le_refl _) _)
  refine calls_marks 10 Tryz.func100 rfl ?_
  simp only [Tryz.ntmps100, List.size_toArray, List.length_cons, List.length_nil, Nat.reduceAdd, Nat.reduceSub, Array.replicate_succ, Array.replicate_zero, List.push_toArray, List.append_toArray, List.nil_append, List.cons_append]
  cases hc : gcheck g items with
  | false =>
    have HC := Lib.hid hc; clear hc hok
    go_wp2_with fail
    refine (gcheck_any ga gn gc g items _ (HG.out.below HW.out (Nat.le_refl _))).mono ?_
    rw [HC.out]
    rintro e w1 ⟨rfl, hb⟩
    have HB := Lib.hid (HW.out.trans (hb.mono (by simp))); clear hb
    go_wp2_with fail
    exact marks_ret0 (v := .tuple #[.slice none 0 0, .int .i64 1]) (by simp [results, Tryz.results100, go_sem]) ⟨none, 0, 0, rfl, Ints.empty _ _ _, HB.out⟩
  | true =>
    have hr : risesFrom g.length (-1) sm = false := by simpa [nearOk, hc] using hok
    have HC := Lib.hid hc; clear hc hok
    have HR := Lib.hid hr; clear hr
    go_wp2_with fail
    refine (gcheck_any ga gn gc g items _ (HG.out.below HW.out (Nat.le_refl _))).mono ?_
    rw [HC.out]
    rintro e w1 ⟨rfl, hb⟩
    have hc1 := (bcell hb).1 w.heap.size 0 (by simp)
    have HB := Lib.hid (HW.out.trans (hb.mono (by simp))); clear hb
    simp [go_sem] at hc1
    go_wp2_with fail
    refine (rises_any sa sn sc sm gn w1 (HS.out.below HB.out (Nat.le_refl _))).mono ?_
    rw [← HL.out, HR.out]
    rintro e w2 ⟨rfl, rfl⟩
    go_wp2_with fail
    exact marks_ret0 (v := .tuple #[.slice none 0 0, .int .i64 1]) (by simp [results, Tryz.results100, go_sem]) ⟨none, 0, 0, rfl, Ints.empty _ _ _, HB.out⟩

theorem near_lt {G : List (List Nat)} (h8 : ∀ l, l ∈ G → ∀ k, k ∈ l → k < 8) {i k : Nat} (h : (i, k) ∈ edgesOf G) : k < 8 := by
  have hk := mem_edges.1 h
  unfold nbOf at hk
  cases hG : G[i]? with
  | none => rw [hG] at hk; cases hk
  | some l => rw [hG] at hk; exact h8 l (List.mem_of_getElem? hG) k hk

set_option maxRecDepth 100000 in
set_option maxHeartbeats 2000000 in
theorem Near_yes (ga sa : Option Addr) (gn gc sn sc : Nat) (G : List (List Nat)) (items : Int) (sm : List Nat) (w : World) (hg : Rows w ga gn gc (G.map nats)) (hs : Ints w sa sn sc (nats sm)) (hok : nearOk (G.map nats) items (nats sm) = true) :
    Calls Tryz.prog 100 #[.slice ga gn gc, .int .i64 items, .slice sa sn sc] w (RetList 0 (nats (whatOf (nearOf G sm) 8)) w) := by
  have hl := hg.len
  simp only [nearOk, Bool.and_eq_true] at hok
  have h8 : ∀ l, l ∈ G → ∀ k, k ∈ l → k < 8 := fun l hl k hk => by
    obtain ⟨h1, h2, _, h4⟩ := gcheck_parts hok.1
    have := risesFrom_bd (h4 _ (List.mem_map.2 ⟨l, hl, rfl⟩)) (k : Int) (List.mem_map.2 ⟨k, hk, rfl⟩)
    omega
  have H8 := Lib.hid h8; clear h8
  have HG := Lib.hid hg; clear hg
  have HS := Lib.hid hs; clear hs
  have HL := Lib.hid hl; clear hl
  have HC := Lib.hid hok.1
  have HR := Lib.hid (show risesFrom gn (-1) (nats sm) = true by have := hok.2; rwa [HL.out] at this)
  clear hok
  have HW := Lib.hid (show Below w.heap.size w (w.alloc (.cells #[.slice sa sn sc] 23)) from (Below.refl _ _).alloc (Nat.le_refl _) _)
  have HX := Lib.hid (Boxed.new w 23 (.slice sa sn sc))
  refine calls_marks 10 Tryz.func100 rfl ?_
  simp only [Tryz.ntmps100, List.size_toArray, List.length_cons, List.length_nil, Nat.reduceAdd, Nat.reduceSub, Array.replicate_succ, Array.replicate_zero, List.push_toArray, List.append_toArray, List.nil_append, List.cons_append]
  go_wp2_with fail
  refine (gcheck_any ga gn gc (G.map nats) items _ (HG.out.below HW.out (Nat.le_refl _))).mono ?_
  rw [HC.out]
  rintro e w1 ⟨rfl, hb⟩
  have hx1 : Boxed w1 w.heap.size 23 (.slice sa sn sc) := by unfold Boxed; rw [hb.block _ (by simp)]; exact HX.out
  have HB := Lib.hid (HW.out.trans (hb.mono (by simp))); clear hb
  have hc1 := hx1.cell
  have hz1 := hx1.lt
  have HX1 := Lib.hid hx1; clear hx1
  go_wp2_with fail
  refine (rises_any sa sn sc (nats sm) gn w1 (HS.out.below HB.out (Nat.le_refl _))).mono ?_
  rw [HR.out]
  rintro e w2 ⟨rfl, rfl⟩
  go_wp2_with fail
  refine (edges_any ga gn gc _).mono ?_
  rintro e w3 ⟨rfl, rfl⟩
  go_wp2_with fail
  obtain ⟨WB, hWB⟩ : ∃ WB, WB = (w1.alloc (.cells #[.int .i64 0, .int .i64 0, .int .i64 0, .int .i64 0, .int .i64 0, .int .i64 0, .int .i64 0, .int .i64 0] 88)).alloc (.cells #[.slice ga gn gc] 26) := ⟨_, rfl⟩
  have hV : VRow WB w1.heap.size 88 (arr8 (markOf sm [])) := by
    rw [mark_nil, hWB]
    exact (VRow.new w1 88 (arr8 fun _ => 0)).alloc _
  have hX : Boxed WB w.heap.size 23 (.slice sa sn sc) := by rw [hWB]; exact (HX1.out.alloc _).alloc _
  have hBe : WB.cell? ⟨w1.heap.size + 1, 0, none⟩ = some (.slice ga gn gc) := by rw [hWB]; simp [go_sem]
  have hBB : Below w.heap.size w WB := by rw [hWB]; exact (HB.out.alloc HB.out.size _).alloc (by have := HB.out.size; simp; omega) _
  have hsz : WB.heap.size = w1.heap.size + 2 := by rw [hWB]; simp
  rw [← hWB]
  clear hWB
  refine wp_rangeFunc_U 10 (fun x : Edge G => [(26, .int .i64 x.1.1), (27, .int .i64 x.1.2), (9, .int .i64 x.1.1), (10, .int .i64 x.1.2)]) (by omega) (lb := #[.pointer (some ⟨w1.heap.size + 1, 0, none⟩)]) rfl
    (enters_of Tryz.func139 (by kernel_rfl) rfl) (edges_stops (w1.heap.size + 1) w.heap.size ga gn gc G WB w (by omega) hBB.size hBe HG.out (Nat.le_refl _) hBB) hBB.size (Below.refl _ _) (fun _ => rfl)
    (fun pre W => (VRow W w1.heap.size 88 (arr8 (markOf sm (pre.map (·.1)))) ∧ Boxed W w.heap.size 23 (.slice sa sn sc)) ∧ Below w.heap.size w W) (fun _ _ _ => False)
    (OwnFrom.and (Own.from (fun s A B row hs hg' hr => ⟨hs.1.kept hg' hr, boxed_own w.heap.size 23 (fun _ : Unit => .slice sa sn sc) () A B row hs.2 hg' hr⟩) _) (ownFrom_below (Nat.le_refl _) hBB.size)) (fun _ _ _ _ _ hs _ _ => hs) ⟨⟨hV, hX⟩, hBB⟩ ?assign ?body ?done ?stop
  case assign =>
    intro l x W K hK
    gi_wp2
    exact hK
  case body =>
    rintro l pre ⟨⟨i, k⟩, hx⟩ W ⟨⟨hV, hX⟩, hB⟩ hlt
    have hk8 := near_lt H8.out hx
    have hcx := hX.cell
    have hcn : (nats sm).contains (i : Int) = sm.contains i := by
      rw [Bool.eq_iff_iff]; simp only [List.contains_eq_mem, decide_eq_true_eq]; exact mem_nats
    have HCN := Lib.hid hcn; clear hcn
    have hfz := hV.frozen k
    have hcv := hV.cell (k := k) (v := .int .i64 (markOf sm (pre.map (·.1)) k : Int)) (by simp [arr8, hk8])
    generalize hmk : markOf sm (pre.map (·.1)) k = mk at hcv
    clear hmk
    have hbs := hB.size
    have i1 : (k : Int) < 8 := by omega
    have HV := Lib.hid hV; clear hV
    have HXX := Lib.hid hX; clear hX
    have HB3 := Lib.hid hB; clear hB
    clear hBe hsz
    simp only [List.foldl_cons, List.foldl_nil, List.setIfInBounds_toArray, List.set_cons_zero, List.set_cons_succ]
    cases hc : sm.contains i with
    | true =>
      have HCT := Lib.hid hc; clear hc
      gi_wp2_with fail
      refine ⟨trivial, ?_⟩
      refine (CallsIn.inRound l (callsIn_wide.2 (contains_any sa sn sc (nats sm) (i : Int) W (HS.out.below HB3.out (Nat.le_refl _))))).mono ?_
      rw [HCN.out, HCT.out]
      rintro e w4 ⟨rfl, rfl⟩
      gi_wp2_with fail
      refine ⟨(KeepsOthers.setCell _ _ _).from _, (Below.refl w.heap.size W).setCell (p := ⟨w1.heap.size, k, none⟩) (by simp; omega) _, ⟨?_, by unfold Boxed; rw [heap_setCell_other _ _ _ _ (by simp; omega)]; exact HXX.out⟩, HB3.out.setCell (p := ⟨w1.heap.size, k, none⟩) (by simp; omega) _⟩
      rw [List.map_append, List.map_cons, List.map_nil, mark_yes HCT.out]
      have h2 := HV.out.set k (.int .i64 ((1 : Nat) : Int))
      rw [show (arr8 (markOf sm (pre.map (·.1)))).set k (.int .i64 ((1 : Nat) : Int)) = arr8 (Way.mark (markOf sm (pre.map (·.1))) k 1) from tab8_set hk8] at h2
      exact h2
    | false =>
      have HCT := Lib.hid hc; clear hc
      gi_wp2_with fail
      refine ⟨trivial, ?_⟩
      refine (CallsIn.inRound l (callsIn_wide.2 (contains_any sa sn sc (nats sm) (i : Int) W (HS.out.below HB3.out (Nat.le_refl _))))).mono ?_
      rw [HCN.out, HCT.out]
      rintro e w4 ⟨rfl, rfl⟩
      gi_wp2_with fail
      refine ⟨KeepsFrom.refl _ _, Below.refl _ _, ⟨?_, HXX.out⟩, HB3.out⟩
      rw [List.map_append, List.map_cons, List.map_nil, mark_no HCT.out]
      exact HV.out
  case stop => rintro D c pre W _ _ h _; exact h.elim
  case done =>
    rintro D ys W hD hys ⟨⟨hV, hX⟩, hB⟩ hK
    rw [hys, mark_all] at hV
    have HV := Lib.hid hV; clear hV
    have HB3 := Lib.hid hB; clear hB
    have HK := Lib.hid hK; clear hK
    clear hX hBe hys
    obtain ⟨nf, hnf⟩ : ∃ nf, nf = nearOf G sm := ⟨_, rfl⟩
    have h01 : ∀ k, nf k = 0 ∨ nf k = 1 := fun k => by rw [hnf]; exact near01 G sm k
    rw [← hnf] at HV ⊢
    have H01 := Lib.hid h01; have HNF := Lib.hid hnf; clear h01 hnf
    go_wp2_with (refine wpList_load_row rfl 88 _ rfl w1.heap.size rfl 88 (arr8 nf).toArray (0, 0) _ HV.out Tryz.underlying88 rfl (by kernel_rfl) ?_)
    have HBR := Lib.hid (Below.refl W.heap.size W)
    go_loopg [6, 34] 8 (fun g' s6 s34 wr => ∃ k : Nat, k + g' = 8 ∧ s34 = .int .i64 k ∧ Own wr W.heap.size s6 (nats (whatOf nf k)) ∧ Below W.heap.size W wr)
    case atStart => exact ⟨0, by omega, rfl, Own.nil _ _, HBR.out⟩
    case round =>
      obtain ⟨k, hk, rfl, hO2, hB4⟩ := hrel
      have HKK := Lib.hid hk; clear hk
      have HO2 := Lib.hid hO2; clear hO2
      have HB4 := Lib.hid hB4; clear hB4
      by_cases hlt : k < 8
      · have hix := index8 nf k hlt
        obtain ⟨zs, hzs⟩ : ∃ zs, zs = nats (whatOf nf k) := ⟨_, rfl⟩
        have hzl : zs.length ≤ k := by rw [hzs]; simp only [nats, List.length_map]; exact whatOf_length _ _
        have hsu := whatOf_succ nf k
        have h01 := H01.out k
        obtain ⟨cm, hcm⟩ : ∃ cm, cm = nf k := ⟨_, rfl⟩
        rw [← hcm] at hix hsu h01
        have HCM := Lib.hid hcm; clear hcm
        have HSU := Lib.hid hsu; clear hsu
        have HZ := Lib.hid hzs; clear hzs
        rcases h01 with rfl | rfl
        · go_wp2_with fail
          go_roundg (gk - 1)
          case measure => have := HKK.out; omega
          case rel => exact ⟨k + 1, by have := HKK.out; omega, by go_num, by rw [HSU.out, if_neg (by omega), List.append_nil]; exact HO2.out, HB4.out⟩
        · go_wp2_with (at_builtin; refine app1 _ rfl _ _ rfl W.heap.size _ zs rfl (by rw [HZ.out]; exact HO2.out.alloc _) wr.heap.size 0 1 (k : Int) rfl (by simp [go_sem]) (by omega) (by have := HB4.out.size; simp; omega) ?_)
          intro g' cap' w' hown' hgr' hb'
          have HO3 := Lib.hid hown'; clear hown'
          have HB5 := Lib.hid hb'; clear hb' hgr'
          go_wp2_with fail
          go_roundg (gk - 1)
          case measure => have := HKK.out; omega
          case rel => exact ⟨k + 1, by have := HKK.out; omega, by go_num, by rw [HSU.out, if_pos (by omega), show nats (whatOf nf k ++ [k]) = zs ++ [(k : Int)] by rw [HZ.out]; simp [nats]]; exact HO3.out, (HB4.out.alloc HB4.out.size _).trans HB5.out⟩
      · obtain rfl : k = 8 := by have := HKK.out; omega
        obtain ⟨va, vc, rfl, hmr, hvc⟩ := HO2.out.myRow
        have hcap := hmr.cap
        have hwl : (nats (whatOf nf 8)).length ≤ 8 := by simp only [nats, List.length_map]; exact whatOf_length _ _
        obtain ⟨m, hm⟩ : ∃ m, m = (nats (whatOf nf 8)).length := ⟨_, rfl⟩
        rw [← hm] at hwl HO2 hmr hcap ⊢
        have HMR := Lib.hid hmr; clear hmr
        clear hm
        go_wp2_with fail
        refine (clip_any va m vc wr hcap).mono ?_
        rintro e w4 ⟨rfl, rfl⟩
        go_wp2_with fail
        have hKw : wr.heap[D]? = some (.deferred (some [])) := by rw [HB4.out.block D (Array.getElem?_eq_some_iff.1 HK.out).1]; exact HK.out
        have hin : Ints wr va m m (nats (whatOf nf 8)) := HMR.out.clip.ints (by omega) (fun x hx => by
          obtain ⟨y, hy, rfl⟩ := List.mem_map.1 hx
          have := List.mem_range.1 (List.mem_filter.1 hy).1
          omega)
        exact marks_ret hKw (v := .tuple #[.slice va m m, .int .i64 0]) (by simp [results, Tryz.results100, go_sem]) ⟨va, m, m, rfl, by rw [← HNF.out]; exact hin.putObj _ hKw rfl, (HB3.out.trans (HB4.out.mono HB3.out.size)).trans (Below.put hKw (Nat.le_trans hBB.size hD) _)⟩
end Go.Proofs.YtbnjeegicbffeaaGreat

/- Walks: matchings.Most, All. -/
namespace Go.Proofs.YtbnjeegicbffeaaGreat
open Go.RowKit

set_option maxRecDepth 100000 in
set_option maxHeartbeats 2000000 in
theorem Most_yes (ga : Option Addr) (gn gc : Nat) (G : List (List Nat)) (items : Int) (w : World) (hg : Rows w ga gn gc (G.map nats)) (hok : gcheck (G.map nats) items = true) :
    Calls Tryz.prog 121 #[.slice ga gn gc, .int .i64 items] w fun e w' => ∃ a, e = .returned (.tuple #[.slice a gn gn, .int .i64 0]) ∧ Ints w' a gn gn (mostL G gn) ∧ Below w.heap.size w w' := by
  have hl : G.length = gn := by have := hg.len; simpa using this
  have h8 : gn ≤ 8 := by have := (gcheck_parts hok).2.2.1; rw [List.length_map] at this; omega
  have hb0 : Below w.heap.size w ((w.alloc (.cells #[.slice ga gn gc] 26)).alloc (.cells #[.int .i64 items] 3)) := ((Below.refl _ _).alloc (Nat.le_refl _) _).alloc (by simp) _
  have HG := Lib.hid hg
  have HC := Lib.hid (gcheck_any ga gn gc (G.map nats) items _ (hg.below hb0 (Nat.le_refl _)))
  have x2 : Boxed ((w.alloc (.cells #[.slice ga gn gc] 26)).alloc (.cells #[.int .i64 items] 3)) w.heap.size 26 (.slice ga gn gc) := (Boxed.new w _ _).alloc _
  have x3 : Boxed ((w.alloc (.cells #[.slice ga gn gc] 26)).alloc (.cells #[.int .i64 items] 3)) (w.heap.size + 1) 3 (.int .i64 items) := by
    have := Boxed.new (w.alloc (.cells #[.slice ga gn gc] 26)) 3 (.int .i64 items)
    rwa [show (w.alloc (.cells #[.slice ga gn gc] 26)).heap.size = w.heap.size + 1 by simp] at this
  have HX := Lib.hid (And.intro x2 (And.intro x3 hb0)); clear x2 x3 hb0 hg
  have HOK := Lib.hid hok; clear hok
  have HL := Lib.hid hl; clear hl
  go_enter Tryz.func121, Tryz.ntmps121
  go_wp2_with fail
  refine HC.out.mono ?_
  rw [HOK.out]
  rintro e w1 ⟨rfl, hb⟩
  clear HC
  have h2 := boxed_on HX.out.1 hb
  have h3 := boxed_on HX.out.2.1 hb
  have HB1 := Lib.hid (HX.out.2.2.trans (hb.mono (HX.out.2.2.size))); clear hb
  have c2 := h2.cell
  have z3 := h3.lt
  have H23 := Lib.hid (And.intro h2 h3); clear h2 h3 HX
  have hb2 : Below w1.heap.size w1 (w1.alloc (.cells #[.int .i64 (-1)] 3)) := (Below.refl _ _).alloc (Nat.le_refl _) _
  have c2a := cell_step hb2 c2
  have HBB := Lib.hid hb2; clear hb2
  go_wp2_with fail
  have hb2 := HBB.out
  refine (repeat_any w1.heap.size 0 1 gn (-1) (w1.alloc (.cells #[.int .i64 (-1)] 3)) (by simp [go_sem]) h8 (by omega)).mono ?_
  rintro e w2 ⟨rfl, hi2, hb⟩
  have hb3 := hb2.trans (hb.mono (by simp))
  have h2 := boxed_on H23.out.1 hb3
  have h3 := boxed_on H23.out.2 hb3
  have HB2 := Lib.hid (HB1.out.trans (hb3.mono HB1.out.size)); clear hb hb2 hb3 H23
  rw [show (w1.alloc (.cells #[.int .i64 (-1)] 3)).heap.size = w1.heap.size + 1 by simp] at hi2 ⊢
  have c2 := h2.cell
  have c3 := h3.cell
  have HA := Lib.hid (show GoAt (w2.alloc (.cells #[.slice (some ⟨w1.heap.size + 1, 0, none⟩) gn gn] 23)) w.heap.size (w.heap.size + 1) w2.heap.size ga gn gc items (some ⟨w1.heap.size + 1, 0, none⟩) gn gn from ⟨h2.alloc _, h3.alloc _, Boxed.new w2 _ _⟩)
  have z2 := HB2.out.size
  have hz3 := h3.lt
  have HI := Lib.hid (hi2.below (w' := w2.alloc (.cells #[.slice (some ⟨w1.heap.size + 1, 0, none⟩) gn gn] 23)) ((Below.refl _ _).alloc (Nat.le_refl _) _) (Nat.le_refl _)); clear hi2
  have HB3 := Lib.hid (show Below w.heap.size w (w2.alloc (.cells #[.slice (some ⟨w1.heap.size + 1, 0, none⟩) gn gn] 23)) from HB2.out.alloc HB2.out.size _)
  have k2 := HA.out.b2.cell
  clear h2 h3 z3
  go_wp2_with fail
  go_loopg [20] gn (fun g s20 wr => ∃ i : Nat, i + g = gn ∧ s20 = .int .i64 i ∧ (∃ ha hc, GoAt wr w.heap.size (w.heap.size + 1) w2.heap.size ga gn gc items ha gn hc ∧ Ints wr ha gn hc (mostL G i)) ∧ Below w.heap.size w wr)
  case atStart => exact ⟨0, by omega, rfl, ⟨_, _, HA.out, by rw [most_zero, HL.out]; exact HI.out⟩, HB3.out⟩
  case round =>
    obtain ⟨i, hi, rfl, ⟨ha, hc, hA, hI⟩, hb⟩ := hrel
    have HII := Lib.hid hi; clear hi
    have HB := Lib.hid hb; clear hb
    by_cases hlt : i < gn
    · have HGO := Lib.hid (mgoes_any w.heap.size (w.heap.size + 1) w2.heap.size ga ha gn gc gn hc i G items (mostL G i) wr hA ⟨by omega, by omega⟩ (HG.out.below HB.out (Nat.le_refl _)) hI (most_ok HOK.out (by rw [HL.out]; exact hlt)))
      clear hA hI
      go_wp2_with fail
      refine HGO.out.mono ?_
      rintro e w4 ⟨⟨v, rfl⟩, ha', hc', hA', hI', hb'⟩
      have HA' := Lib.hid hA'; clear hA'
      have HI' := Lib.hid hI'; clear hI'
      have HB' := Lib.hid (HB.out.trans (hb' w.heap.size (by omega) HB.out.size)); clear hb'
      go_wp2_with fail
      go_roundg (gk - 1)
      case measure => have := HII.out; omega
      case rel => exact ⟨i + 1, by have := HII.out; omega, by go_num, ⟨ha', hc', HA'.out, by rw [most_more HOK.out (by rw [HL.out]; exact hlt)]; exact HI'.out⟩, HB'.out⟩
    · obtain rfl : i = gn := by have := HII.out; omega
      have k2 := hA.b2.cell
      have k6 := hA.b6.cell
      have HI' := Lib.hid hI; clear hI hA
      go_wp2_with fail
      refine (clip_any ha i hc wr HI'.out.cap).mono ?_
      rintro e w4 ⟨rfl, rfl⟩
      go_wp2_with fail
      go_ret2
      exact ⟨ha, rfl, HI'.out.clip, HB.out⟩
end Go.Proofs.YtbnjeegicbffeaaGreat

/- Walks: matchings.All. -/
namespace Go.Proofs.YtbnjeegicbffeaaGreat
open Go.RowKit

/-- what some alone may have -/
def aloneG (G : List (List Nat)) (sm : List Nat) : List (List Nat) := (List.range G.length).map fun i => if i ∈ sm then nbOf G i else []
theorem aloneG_length (G : List (List Nat)) (sm : List Nat) : (aloneG G sm).length = G.length := by simp [aloneG]
theorem aloneG_nb (G : List (List Nat)) (sm : List Nat) : nbOf (aloneG G sm) = Way.alone (nbOf G) sm := by
  funext i
  unfold Way.alone
  by_cases hi : i < G.length
  · simp [nbOf, aloneG, hi]
  · have h1 : nbOf G i = [] := by unfold nbOf; rw [List.getElem?_eq_none (by omega)]; rfl
    have h2 : nbOf (aloneG G sm) i = [] := by unfold nbOf; rw [List.getElem?_eq_none (by rw [aloneG_length]; omega)]; rfl
    rw [h1, h2]; simp
theorem aloneG_check {G : List (List Nat)} {items : Int} (sm : List Nat) (h : gcheck (G.map nats) items = true) : gcheck ((aloneG G sm).map nats) items = true := by
  obtain ⟨h1, h2, h3, h4⟩ := gcheck_parts h
  simp only [gcheck, Bool.and_eq_true, decide_eq_true_eq, Bool.not_eq_true', List.any_eq_false]
  refine ⟨⟨⟨h1, h2⟩, by simpa [aloneG] using h3⟩, fun l hl => ?_⟩
  obtain ⟨L, hL, rfl⟩ := List.mem_map.1 hl
  unfold aloneG at hL
  obtain ⟨i, hi, rfl⟩ := List.mem_map.1 hL
  have hi := List.mem_range.1 hi
  by_cases hs : i ∈ sm
  · rw [if_pos hs]
    have := h4 (nats (nbOf G i)) (List.mem_map.2 ⟨_, by unfold nbOf; rw [List.getElem?_eq_getElem hi]; exact List.getElem_mem hi, rfl⟩)
    simp [this]
  · rw [if_neg hs]; simp [nats, risesFrom]
theorem many_list (M : Nat) (h : Nat → Option Nat) : manyOf (listOf M h) = (((List.range M).filter fun i => (h i).isSome).length : Int) := by
  unfold manyOf listOf
  rw [List.filter_map, List.length_map]
  congr 2
  refine List.filter_congr fun i _ => ?_
  simp only [Function.comp]
  cases hh : h i with
  | none => rfl
  | some k => simp [itm]
theorem many_all {G : List (List Nat)} {items : Int} {sm : List Nat} (hg : gcheck (G.map nats) items = true) (hn : sm.Nodup) (hs : ∀ i, i ∈ sm → i < G.length) :
    (manyOf (mostL (aloneG G sm) G.length) == (sm.length : Int)) = Way.allOf (nbOf G) G.length sm := by
  unfold mostL
  rw [aloneG_length, many_list, aloneG_nb, ← Way.allOf_many (g8_of hg) hn hs, Bool.eq_iff_iff, beq_iff_eq, decide_eq_true_eq]
  omega
/-- the first of some, alone -/
structure AloneAt (w wr : World) (B gn : Nat) (G : List (List Nat)) (sm : List Nat) : Prop where
  row : ∃ vals, VRow wr B 23 vals ∧ vals.length = gn ∧ ∀ i, i < gn → ∃ a n c, vals[i]? = some (.slice a n c) ∧ Ints w a n c (nats (if i ∈ sm then nbOf G i else []))
  below : Below w.heap.size w wr
theorem sm_take {sm : List Nat} {j k : Nat} (h : sm[j]? = some k) (i : Nat) : (i ∈ sm.take (j + 1)) ↔ i ∈ sm.take j ∨ i = k := by
  rw [List.take_add_one, h]; simp
theorem all_post {a b : Bool} (h : a = b) : Ending.returned (.tuple #[.bool a, .int .i64 0]) = .returned (.tuple #[.bool b, .int .i64 0]) := by rw [h]
set_option maxRecDepth 100000 in
set_option maxHeartbeats 2000000 in
theorem All_yes (ga sa : Option Addr) (gn gc sn sc : Nat) (G : List (List Nat)) (items : Int) (sm : List Nat) (w : World) (hg : Rows w ga gn gc (G.map nats)) (hs : Ints w sa sn sc (nats sm)) (hok : nearOk (G.map nats) items (nats sm) = true) (hnd : sm.Nodup) (hsM : ∀ i, i ∈ sm → i < gn) :
    Calls Tryz.prog 98 #[.slice ga gn gc, .int .i64 items, .slice sa sn sc] w fun e w' => e = .returned (.tuple #[.bool (Way.allOf (nbOf G) gn sm), .int .i64 0]) ∧ Below w.heap.size w w' := by
  have hl : G.length = gn := by have := hg.len; simpa using this
  have hgc : gcheck (G.map nats) items = true := by simp only [nearOk, Bool.and_eq_true] at hok; exact hok.1
  have h8 : gn ≤ 8 := by have := (gcheck_parts hgc).2.2.1; rw [List.length_map] at this; omega
  have hsl : sm.length = sn := by have := hs.len; simpa [nats] using this
  have hsn : sn ≤ 8 := by
    have := Way.nodup_len hnd (m := List.range gn) fun x hx => List.mem_range.2 (hsM x hx)
    simp at this; omega
  have HN := Lib.hid (Near_yes ga sa gn gc sn sc G items sm w hg hs hok)
  have hmk := mkRows gn (by omega)
  have hma := many_all hgc hnd (by rw [hl]; exact hsM)
  have HMA := Lib.hid hma; clear hma
  have HG := Lib.hid hg; clear hg
  have HS := Lib.hid hs; clear hs
  have HL := Lib.hid hl; clear hl
  have HSL := Lib.hid hsl; clear hsl
  have HC := Lib.hid hgc; clear hgc hok
  have HSM := Lib.hid hsM; clear hsM hnd
  go_enter Tryz.func98, Tryz.ntmps98
  go_wp2_with fail
  refine HN.out.mono ?_
  rintro e w1 ⟨na, nn, nc, rfl, _, hb⟩
  have HB1 := Lib.hid hb; clear hb HN
  go_wp2_with fail
  have HA0 := Lib.hid (show AloneAt w (w1.alloc (.cells (List.replicate gn (Value.slice none 0 0)).toArray 23)) w1.heap.size gn G [] from
    ⟨⟨_, VRow.new w1 _ _, by simp, fun i hi => ⟨none, 0, 0, by simp [hi], by simpa [nats] using Ints.empty w none 0⟩⟩, HB1.out.alloc HB1.out.size _⟩)
  have z1 := HB1.out.size
  clear hmk
  go_loopg [30] sn (fun g s30 wr => ∃ j : Nat, j + g = sn ∧ s30 = .int .i64 j ∧ AloneAt w wr w1.heap.size gn G (sm.take j))
  case atStart => exact ⟨0, by omega, rfl, HA0.out⟩
  case round =>
    obtain ⟨j, hj, rfl, hA⟩ := hrel
    have HJ := Lib.hid hj; clear hj
    by_cases hlt : j < sn
    · obtain ⟨k, hk⟩ : ∃ k, sm[j]? = some k := ⟨_, List.getElem?_eq_getElem (by rw [HSL.out]; exact hlt)⟩
      have hkn := HSM.out k (List.mem_of_getElem? hk)
      obtain ⟨sb, so, rfl⟩ := HS.out.addr (by omega)
      have cs := (HS.out.below hA.below (Nat.le_refl _)).cell sb so rfl j (k : Int) (by simp [nats, hk])
      obtain ⟨gb, go, rfl⟩ := HG.out.addr (by omega)
      have hGk : (G.map nats)[k]? = some (nats (nbOf G k)) := by simp [nbOf, List.getElem?_eq_getElem (show k < G.length by rw [HL.out]; exact hkn)]
      obtain ⟨la, ln, lc, hcl, hli⟩ := HG.out.row hA.below (Nat.le_refl _) (b := gb) (o := go) (k := k) rfl hGk
      obtain ⟨vals, hv, hvl, hvi⟩ := hA.row
      obtain ⟨oa, on, oc, hov, _⟩ := hvi k hkn
      have cov := hv.cell hov
      have fov := hv.frozen k
      have i1 : (k : Int) < (gn : Int) := by omega
      have HV := Lib.hid hv; clear hv
      have HVI := Lib.hid hvi; clear hvi
      have HLI := Lib.hid hli; clear hli
      have HAB := Lib.hid hA.below; clear hA
      have HK := Lib.hid hk; clear hk hGk hov
      have HVL := Lib.hid hvl; clear hvl
      go_wp2_with fail
      go_roundg (gk - 1)
      case measure => have := HJ.out; omega
      case rel =>
        refine ⟨j + 1, by have := HJ.out; omega, by go_num, ⟨⟨_, HV.out.set k (.slice la ln lc), by rw [List.length_set]; exact HVL.out, fun i hi => ?_⟩, HAB.out.setCell (p := ⟨w1.heap.size, k, none⟩) (by simp; omega) _⟩⟩
        by_cases e : i = k
        · subst e
          rw [if_pos ((sm_take HK.out i).2 (.inr rfl))]
          exact ⟨la, ln, lc, by rw [List.getElem?_set, if_pos rfl, if_pos (by rw [HVL.out]; exact hi)], HLI.out⟩
        · obtain ⟨a, n, c, h1, h2⟩ := HVI.out i hi
          refine ⟨a, n, c, by rw [List.getElem?_set, if_neg (fun h => e h.symm)]; exact h1, ?_⟩
          have : (i ∈ sm.take (j + 1)) ↔ i ∈ sm.take j := by rw [sm_take HK.out i]; simp [e]
          simp only [this]; exact h2
    · obtain rfl : j = sn := by have := HJ.out; omega
      rw [List.take_of_length_le (by rw [HSL.out]; exact Nat.le_refl _)] at hA
      obtain ⟨vals, hv, hvl, hvi⟩ := hA.row
      have hR : Rows wr (some ⟨w1.heap.size, 0, none⟩) gn gn ((aloneG G sm).map nats) := by
        have := hv.rows (xss := (aloneG G sm).map nats) (by rw [List.length_map, aloneG_length, HL.out]; omega) fun i xs hi => by
          have hil : i < gn := by have := (List.getElem?_eq_some_iff.1 hi).1; rwa [List.length_map, aloneG_length, HL.out] at this
          obtain ⟨a, n, c, h1, h2⟩ := hvi i hil
          have : xs = nats (if i ∈ sm then nbOf G i else []) := by
            rw [List.getElem?_map] at hi
            unfold aloneG at hi
            rw [List.getElem?_map, List.getElem?_range (by rw [HL.out]; exact hil)] at hi
            simpa using hi.symm
          subst this
          exact ⟨a, n, c, h1, h2.below hA.below (Nat.le_refl _)⟩
        rwa [List.length_map, aloneG_length, HL.out] at this
      have HB := Lib.hid hA.below; clear hA hv hvl hvi
      have HM := Lib.hid (Most_yes (some ⟨w1.heap.size, 0, none⟩) gn gn (aloneG G sm) items wr hR (aloneG_check sm HC.out)); clear hR
      go_wp2_with fail
      refine HM.out.mono ?_
      rintro e w4 ⟨ma, rfl, hmi, hb4⟩
      have HB4 := Lib.hid (HB.out.trans (hb4.mono HB.out.size)); clear hb4
      have HMI := Lib.hid hmi; clear hmi
      go_wp2_with (refine (many_any ma gn gn _ w4 HMI.out).mono ?_; rintro e w5 ⟨rfl, rfl⟩)
      go_ret2
      refine ⟨all_post (?_ : (manyOf (mostL (aloneG G sm) gn) == (j : Int)) = Way.allOf (nbOf G) gn sm), HB4.out⟩
      have := HMA.out
      rw [HL.out, HSL.out] at this
      exact this
end Go.Proofs.YtbnjeegicbffeaaGreat
