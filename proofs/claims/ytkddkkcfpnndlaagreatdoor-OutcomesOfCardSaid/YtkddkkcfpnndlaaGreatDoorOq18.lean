/- More as lists. Walks: matchings.Most. -/
import Derived.Test.YtkddkkcfpnndlaaGreatDoorOq16
import Derived.Test.YtkddkkcfpnndlaaGreatDoorOq15
import Derived.Test.YtkddkkcfpnndlaaGreatDoorOq17
namespace Go.Proofs.YtkddkkcfpnndlaaGreatDoor
open Go.RowKit

/-! ### More as lists -/
def itm (o : Option Nat) : Int := match o with
 | some k => k
 | none => -1
def listOf (n : Nat) (h : Nat → Option Nat) : List Int := (List.range n).map fun i => itm (h i)
theorem listOf_length (n : Nat) (h : Nat → Option Nat) : (listOf n h).length = n := by simp [listOf]
theorem listOf_get {n i : Nat} (h : Nat → Option Nat) (hi : i < n) : (listOf n h)[i]? = some (itm (h i)) := by simp [listOf, hi]
theorem itm_ge (o : Option Nat) : -1 ≤ itm o := by
 cases o with
 | none => exact Int.le_refl _
 | some k => show (-1 : Int) ≤ (k : Int); omega
theorem itm_some (k : Nat) : itm (some k) = (k : Int) := rfl
theorem listOf_hasAt {hs : List Int} {n : Nat} (hl : hs.length = n) (hb : ∀ x, x ∈ hs → -1 ≤ x) : hs = listOf n (hasAt hs) := by
 apply List.ext_getElem?
 intro i
 by_cases hi : i < n
 · obtain ⟨x, hx⟩ : ∃ x, hs[i]? = some x := ⟨_, List.getElem?_eq_getElem (by omega)⟩
   have := hb x (List.mem_of_getElem? hx)
   rw [listOf_get _ hi, hasAt_of hx, hx]
   by_cases e : x = -1
   · rw [if_pos e, e]; rfl
   · rw [if_neg e]; simp only [itm]; congr 1; omega
 · rw [List.getElem?_eq_none (by omega), List.getElem?_eq_none (by rw [listOf_length]; omega)]
theorem hasAt_listOf {h : Nat → Option Nat} {n : Nat} (hn : ∀ i k, h i = some k → i < n) : hasAt (listOf n h) = h := by
 funext i
 by_cases hi : i < n
 · rw [hasAt_of (listOf_get h hi)]
   cases hh : h i with
   | none => rfl
   | some k => rw [itm_some, if_neg (by omega), Int.toNat_natCast]
 · unfold hasAt
   rw [List.getElem?_eq_none (by rw [listOf_length]; omega)]
   cases hh : h i with
   | none => rfl
   | some k => exact absurd (hn i k hh) hi

def moreOf (G : List (List Nat)) (has : List Int) (f : Nat) : Option (List Int) := (Way.more (nbOf G) (Way.holdTo (hasAt has) has.length) (hasAt has) f).map (listOf has.length)
def MoreRes (n : Nat) (r : Option (List Int)) (w : World) (e : Ending) (w' : World) : Prop := match r with
 | none => e = .returned (.tuple #[.slice none 0 0, .bool false, .int .i64 0]) ∧ Below w.heap.size w w'
 | some l => ∃ a, e = .returned (.tuple #[.slice a n n, .bool true, .int .i64 0]) ∧ Ints w' a n n l ∧ Below w.heap.size w w'

theorem More_res (ga ha : Option Addr) (gn gc hn hc f : Nat) (G : List (List Nat)) (items : Int) (has : List Int) (w : World) (hg : Rows w ga gn gc (G.map nats)) (hh : Ints w ha hn hc has) (hok : bOk (G.map nats) items has f = true) :
   Calls Tryz.prog 19 #[.slice ga gn gc, .int .i64 items, .slice ha hn hc, .int .i64 f] w (MoreRes hn (moreOf G has f) w) := by
 refine (More_yes ga ha gn gc hn hc f G items has w hg hh hok).mono ?_
 intro e w' h
 unfold moreOf
 rw [hh.len]
 cases hm : Way.more (nbOf G) (Way.holdTo (hasAt has) hn) (hasAt has) f with
 | none => rw [hm] at h; exact h
 | some h' =>
   rw [hm] at h
   obtain ⟨a, hs, h1, h2, h3, h4, h5⟩ := h
   refine ⟨a, h1, ?_, h5⟩
   rw [← h3, ← listOf_hasAt h2.len fun x hx => (h4 x hx).1]
   exact h2

end Go.Proofs.YtkddkkcfpnndlaaGreatDoor

namespace Go.Proofs.YtkddkkcfpnndlaaGreatDoor
open Go.RowKit

theorem fitsOf {G : List (List Nat)} {items : Int} {l : List Int} (hg : gcheck (G.map nats) items = true) (hl : l.length = G.length) (hge : ∀ x, x ∈ l → -1 ≤ x)
   (hinj : ∀ x y r, hasAt l x = some r → hasAt l y = some r → x = y) (hfit : ∀ x r, hasAt l x = some r → r ∈ nbOf G x) : fitsB (G.map nats) items l = true := by
 simp only [fitsB, Bool.and_eq_true, decide_eq_true_eq]
 refine ⟨⟨hg, by simpa using hl⟩, ?_⟩
 unfold fitTo
 rw [List.all_eq_true]
 intro i hi
 have hil := List.mem_range.1 hi
 have hx : l[i]? = some (l[i]'(by omega)) := by simp
 rw [hx, Option.getD_some]
 obtain ⟨x, hxe⟩ : ∃ x, x = l[i]'(by omega) := ⟨_, rfl⟩
 rw [← hxe] at hx ⊢
 have hx1 := hge x (List.mem_of_getElem? hx)
 by_cases hne : x = -1
 · simp [okFit, hne]
 · obtain ⟨r, rfl⟩ := Int.eq_ofNat_of_zero_le (show 0 ≤ x by omega)
   have hr : hasAt l i = some r := by rw [hasAt_of hx, if_neg hne, Int.toNat_natCast]
   have h1 := hfit i r hr
   have h2 : (r : Int) ∉ l.take i := by
     intro hm
     obtain ⟨j, hj⟩ := List.mem_iff_getElem?.1 hm
     have hji : j < i := by have := (List.getElem?_eq_some_iff.1 hj).1; simp at this; omega
     rw [List.getElem?_take_of_lt hji] at hj
     have hr2 : hasAt l j = some r := by rw [hasAt_of hj, if_neg hne, Int.toNat_natCast]
     have := hinj i j r hr hr2
     omega
   have h3 : (r : Int) ∈ ((G.map nats)[i]?.getD []) := by rw [nbOf_map]; exact mem_nats.2 h1
   simp only [okFit, List.contains_eq_mem, h3, h2, decide_true, decide_false, Bool.not_false, Bool.and_self, Bool.or_true]


def mostL (G : List (List Nat)) (i : Nat) : List Int := listOf G.length (Way.mostTo (nbOf G) G.length i)
theorem g8_of {G : List (List Nat)} {items : Int} (hg : gcheck (G.map nats) items = true) : ∀ w, w < G.length → ∀ k, k ∈ nbOf G w → k < 8 := fun w hw k hk => by
 obtain ⟨h1, h2, _, h4⟩ := gcheck_parts hg
 unfold nbOf at hk
 rw [List.getElem?_eq_getElem hw] at hk
 have := risesFrom_bd (h4 _ (List.mem_map.2 ⟨G[w], List.getElem_mem hw, rfl⟩)) (k : Int) (List.mem_map.2 ⟨k, hk, rfl⟩)
 omega
theorem most_mat {G : List (List Nat)} {items : Int} (hg : gcheck (G.map nats) items = true) {i : Nat} (hi : i ≤ G.length) : Way.Mat (nbOf G) i (Way.mostTo (nbOf G) G.length i) := Way.mostTo_mat (g8_of hg) i hi
theorem most_has {G : List (List Nat)} {items : Int} (hg : gcheck (G.map nats) items = true) {i : Nat} (hi : i ≤ G.length) : hasAt (mostL G i) = Way.mostTo (nbOf G) G.length i :=
 hasAt_listOf fun w k h => by have := (most_mat hg hi).lt w k h; omega
theorem most_ok {G : List (List Nat)} {items : Int} (hg : gcheck (G.map nats) items = true) {i : Nat} (hi : i < G.length) : bOk (G.map nats) items (mostL G i) i = true := by
 have hm := most_mat hg (Nat.le_of_lt hi)
 have hh := most_has hg (Nat.le_of_lt hi)
 have hf : fitsB (G.map nats) items (mostL G i) = true := fitsOf hg (listOf_length _ _) (fun x hx => by
   obtain ⟨j, _, rfl⟩ := List.mem_map.1 hx
   exact itm_ge _) (fun x y r h1 h2 => by rw [hh] at h1 h2; exact hm.inj x y r h1 h2) (fun x r h => by rw [hh] at h; exact hm.fits x r h)
 have hn : Way.mostTo (nbOf G) G.length i i = none := by
   cases h : Way.mostTo (nbOf G) G.length i i with
   | none => rfl
   | some k => have := hm.lt i k h; omega
 simp only [bOk, Bool.and_eq_true, decide_eq_true_eq]
 refine ⟨⟨⟨hf, by omega⟩, by simp; omega⟩, ?_⟩
 rw [Int.toNat_natCast, mostL, listOf_get _ hi, hn]; rfl
theorem most_more {G : List (List Nat)} {items : Int} (hg : gcheck (G.map nats) items = true) {i : Nat} (hi : i < G.length) : mostL G (i + 1) = (moreOf G (mostL G i) i).getD (mostL G i) := by
 unfold moreOf
 rw [most_has hg (Nat.le_of_lt hi), show (mostL G i).length = G.length from listOf_length _ _]
 show listOf G.length ((Way.more _ _ _ i).getD _) = _
 cases Way.more (nbOf G) (Way.holdTo (Way.mostTo (nbOf G) G.length i) G.length) (Way.mostTo (nbOf G) G.length i) i with
 | none => rfl
 | some h => rfl
theorem most_zero (G : List (List Nat)) : mostL G 0 = List.replicate G.length (-1) := by
 unfold mostL listOf
 apply List.ext_getElem?
 intro j
 by_cases hj : j < G.length
 · simp [hj, Way.mostTo, itm]
 · rw [List.getElem?_eq_none (by simp; omega), List.getElem?_eq_none (by simp; omega)]

theorem Ints.pastBox {W : World} {B : Nat} {t : TypeId} {p : Option Addr} {m k : Nat} (hb : Boxed W B t (.slice p m k)) {a : Option Addr} {n c : Nat} {xs : List Int} (h : Ints W a n c xs) (v : Value) : Ints (W.setCell ⟨B, 0, none⟩ v) a n c xs :=
 ⟨h.len, h.cap, h.big, h.addr, fun b o e j x hx => by
   have hc := h.cell b o e j x hx
   have hne : b ≠ B := by
     intro e2
     subst e2
     rw [cell_of_row W b _ _ _ _ hb] at hc
     cases hj : o + j with
     | zero => rw [hj] at hc; simp at hc
     | succ q => rw [hj] at hc; simp at hc
   exact (World.cell?_of_block (Below.heap_setCell W ⟨B, 0, none⟩ v b hne)).trans hc, h.bd, h.nil⟩

theorem boxed_on {W W' : World} {b : Nat} {t : TypeId} {v : Value} (h : Boxed W b t v) (hb : Below W.heap.size W W') : Boxed W' b t v := by unfold Boxed; rw [hb.block _ h.lt]; exact h
theorem Ints.clip {W : World} {a : Option Addr} {n c : Nat} {xs : List Int} (h : Ints W a n c xs) : Ints W a n n xs := ⟨h.len, Nat.le_refl _, h.big, h.addr, h.cell, h.bd, fun e => ⟨(h.nil e).1, (h.nil e).1⟩⟩

structure GoAt (W : World) (B2 B3 B6 : Nat) (ga : Option Addr) (gn gc : Nat) (items : Int) (ha : Option Addr) (hn hc : Nat) : Prop where
 b2 : Boxed W B2 22 (.slice ga gn gc)
 b3 : Boxed W B3 3 (.int .i64 items)
 b6 : Boxed W B6 25 (.slice ha hn hc)
theorem GoAt.step {W W' : World} {B2 B3 B6 : Nat} {ga : Option Addr} {gn gc : Nat} {items : Int} {ha : Option Addr} {hn hc : Nat} (h : GoAt W B2 B3 B6 ga gn gc items ha hn hc) (hb : Below W.heap.size W W') : GoAt W' B2 B3 B6 ga gn gc items ha hn hc :=
 ⟨by unfold Boxed; rw [hb.block _ h.b2.lt]; exact h.b2, by unfold Boxed; rw [hb.block _ h.b3.lt]; exact h.b3, by unfold Boxed; rw [hb.block _ h.b6.lt]; exact h.b6⟩

set_option maxRecDepth 100000 in
set_option maxHeartbeats 1000000 in
/-- one goes: the box holds what it has then -/
theorem mgoes_any (B2 B3 B6 : Nat) (ga ha : Option Addr) (gn gc hn hc f : Nat) (G : List (List Nat)) (items : Int) (has : List Int) (W : World) (hA : GoAt W B2 B3 B6 ga gn gc items ha hn hc) (hne : B2 ≠ B6 ∧ B3 ≠ B6)
   (hg : Rows W ga gn gc (G.map nats)) (hh : Ints W ha hn hc has) (hok : bOk (G.map nats) items has f = true) :
   Calls Tryz.prog 237 #[.int .i64 f, .pointer (some ⟨B2, 0, none⟩), .pointer (some ⟨B3, 0, none⟩), .pointer (some ⟨B6, 0, none⟩)] W fun e W' => (∃ v, e = .returned v) ∧
     ∃ ha' hc', GoAt W' B2 B3 B6 ga gn gc items ha' hn hc' ∧ Ints W' ha' hn hc' ((moreOf G has f).getD has) ∧ ∀ n, n ≤ B6 → n ≤ W.heap.size → Below n W W' := by
 have HM := Lib.hid (More_res ga ha gn gc hn hc f G items has W hg hh hok)
 have c2 := hA.b2.cell
 have c3 := hA.b3.cell
 have c6 := hA.b6.cell
 have HA := Lib.hid hA; clear hA
 have HH := Lib.hid hh; clear hh hg hok
 go_enter Tryz.func237, Tryz.ntmps237
 go_wp2_with fail
 refine HM.out.mono ?_
 intro e W1 hr
 unfold MoreRes at hr
 cases hm : moreOf G has f with
 | none =>
   rw [hm] at hr
   obtain ⟨rfl, hb⟩ := hr
   have HB := Lib.hid hb; clear hb
   have HMM := Lib.hid hm; clear hm
   go_wp2_with fail
   go_end0
   exact ⟨⟨_, rfl⟩, ha, hc, HA.out.step HB.out, by rw [HMM.out]; exact HH.out.below HB.out (Nat.le_refl _), fun n _ h2 => HB.out.mono h2⟩
 | some l =>
   rw [hm] at hr
   obtain ⟨a2, rfl, hi2, hb⟩ := hr
   have hA1 := HA.out.step hb
   have k6 := hA1.b6.cell
   have z6 := hA1.b6.lt
   have f6 := hA1.b6.frozen
   have HA1 := Lib.hid hA1; clear hA1
   have HB := Lib.hid hb; clear hb
   have HI := Lib.hid hi2; clear hi2
   have HMM := Lib.hid hm; clear hm
   go_wp2_with fail
   go_end0
   refine ⟨⟨_, rfl⟩, a2, hn, ⟨HA1.out.b2.other hne.1 _, HA1.out.b3.other hne.2 _, HA1.out.b6.set _⟩, ?_, fun n h1 h2 => (HB.out.mono h2).setCell (p := ⟨B6, 0, none⟩) h1 _⟩
   rw [HMM.out]
   exact HI.out.pastBox HA1.out.b6 _
end Go.Proofs.YtkddkkcfpnndlaaGreatDoor
