/- Walks: views.Mine, its bid in memory of its own. Walks: rises.Least once more: the prices lie in memory of their own. -/
import Derived.Test.YtkddkkcfpnndlaaGreatDoorOq35
import Derived.Test.YtkddkkcfpnndlaaGreatDoorOq29
import Derived.Test.YtkddkkcfpnndlaaGreatDoorOq39
import Derived.Test.YtkddkkcfpnndlaaGreatDoorOq40
import Derived.Deep.RegionHeld3
import Derived.BigRegion
namespace Go.Proofs.YtkddkkcfpnndlaaGreatDoor
open Go.RowKit Sale

theorem cloneL_any (a : Option Addr) (n c : Nat) (xs : List Int) (w : World) (h : Ints w a n c xs) (hsz : n < 17592186044000) :
   Calls Tryz.prog 111 #[.slice a n c] w fun e w' => ∃ a c, e = .returned (.slice a n c) ∧ n ≤ c ∧ Ints w' a n c xs ∧ Lot 3 w' w.heap.size a n c ∧ (∀ b o, a = some ⟨b, o, none⟩ → w.heap.size ≤ b ∧ b < w'.heap.size) ∧ Below w.heap.size w w' := by
 refine (clone_any a n c xs w h hsz).mono ?_
 rintro e w' ⟨v, rfl, ho, hb⟩
 obtain ⟨a2, c2, rfl, hi⟩ := ho.ints (by rw [h.len]; exact h.big) h.bd
 rw [h.len] at hi ho ⊢
 refine ⟨a2, c2, rfl, hi.cap, hi, Lot.own ho, fun b o e => ?_, hb⟩
 subst e
 exact World.ownsRow.lt ho b rfl
end Go.Proofs.YtkddkkcfpnndlaaGreatDoor

namespace Go.Proofs.YtkddkkcfpnndlaaGreatDoor
open Go.RowKit Go.Shelf Sale

attribute [local go_sem] Oper.semAt_some

theorem own_lot {β : Type} (B : Nat) (T : TypeId) (lo : Nat) (a : Option Addr) (n c : Nat) : OwnFrom B (fun (_ : β) W => Lot T W lo a n c) := fun _ W W' row hs hg hr => by
 rcases hs with h | ⟨b, o, cur, e, hb, hh, hc, hn⟩
 · exact .inl h
 · refine .inr ⟨b, o, cur, e, hb, ?_, hc, hn⟩
   have hne : row ≠ some b := fun e' => by
     obtain ⟨o', ho, hc'⟩ := (hr b e').2
     rw [hh] at ho; cases ho; cases hc'
   rw [hg.block b (Array.getElem?_eq_some_iff.1 hh).1 (fun e => hne e.symm)]; exact hh

set_option maxRecDepth 100000 in
set_option maxHeartbeats 4000000 in
theorem Least_lot (ra ba oa : Option Addr) (rn rc bn bc on oc : Nat) (m : Mkt) (w : World) (hm : MktAt w ra ba oa rn rc bn bc on oc m) (hc : mcheck m = true) :
   Calls Tryz.prog 118 #[.agg #[.slice ra rn rc, .slice ba bn bc, .slice oa on oc]] w fun e w' => ∃ a n, e = .returned (.tuple #[.slice a n n, .int .i64 0]) ∧ Ints w' a n n (leastM m) ∧ Lot 3 w' w.heap.size a n n ∧ Below w.heap.size w w' := by
 have hb0 : Below w.heap.size w (least0 w ra ba oa rn rc bn bc on oc) := ((Below.refl _ _).alloc (Nat.le_refl _) _).alloc (by simp) _
 have hbx : Boxed (least0 w ra ba oa rn rc bn bc on oc) (w.heap.size + 1) 25 (.slice none 0 0) := boxed_new _ _ (by simp [mw]) _ _
 have hmr : (least0 w ra ba oa rn rc bn bc on oc).heap[w.heap.size]? = some (.cells #[.slice ra rn rc, .slice ba bn bc, .slice oa on oc] 57 (0, 0)) := by
   unfold least0 mw
   rw [Below.heap_alloc _ _ _ (by simp)]; exact heap_alloc_new w _
 have hm1 := hm.below hb0 (Nat.le_refl _)
 have HK := Lib.hid (mcheck_any ra ba oa rn rc bn bc on oc m (least0 w ra ba oa rn rc bn bc on oc) hm1.res hm1.bids hm1.ord)
 have hs0 : (least0 w ra ba oa rn rc bn bc on oc).heap.size = w.heap.size + 2 := by simp [least0, mw]
 have HM := Lib.hid (And.intro hm hc)
 have HB0 := Lib.hid (And.intro hb0 (And.intro hbx hmr)); clear hb0 hbx hm hm1 hmr
 have HC := Lib.hid hc; clear hc
 refine calls_marks 9 Tryz.func118 rfl ?_
 simp only [Tryz.ntmps118, List.size_toArray, List.length_cons, List.length_nil, Nat.reduceAdd, Nat.reduceSub, Array.replicate_succ, Array.replicate_zero, List.push_toArray, List.append_toArray, List.nil_append, List.cons_append]
 go_wp2_with fail
 refine HK.out.mono ?_
 rw [HC.out]
 rintro e w1 ⟨rfl, hb1⟩
 have hmr1 : w1.heap[w.heap.size]? = some (.cells #[.slice ra rn rc, .slice ba bn bc, .slice oa on oc] 57 (0, 0)) := (hb1.block _ (by omega)).trans HB0.out.2.2
 have k0 : w1.cell? ⟨w.heap.size, 0, none⟩ = some (.slice ra rn rc) := cells_of_rowK hmr1 (k := 0) rfl
 have k1 : w1.cell? ⟨w.heap.size, 1, none⟩ = some (.slice ba bn bc) := cells_of_rowK hmr1 (k := 1) rfl
 have k2 : w1.cell? ⟨w.heap.size, 2, none⟩ = some (.slice oa on oc) := cells_of_rowK hmr1 (k := 2) rfl
 have hz1 := hb1.size
 rw [hs0] at hz1
 have HB1 := Lib.hid (And.intro (HB0.out.1.trans (hb1.mono HB0.out.1.size)) (boxed_on HB0.out.2.1 hb1)); clear hb1 hmr1 HK HB0 hs0
 go_wp2_with fail
 refine (steps_fn ra ba oa rn rc bn bc on oc w1).mono ?_
 rintro e w2 ⟨rfl, rfl⟩
 have hb2 : Below w1.heap.size w1 (mw w1 ra ba oa rn rc bn bc on oc) := (Below.refl _ _).alloc (Nat.le_refl _) _
 have hs2 : (mw w1 ra ba oa rn rc bn bc on oc).heap.size = w1.heap.size + 1 := by simp [mw]
 have hr2 : (mw w1 ra ba oa rn rc bn bc on oc).heap[w1.heap.size]? = some (.cells #[.slice ra rn rc, .slice ba bn bc, .slice oa on oc] 57 (0, 0)) := heap_alloc_new w1 _
 have hB2 := HB1.out.1.trans (hb2.mono HB1.out.1.size)
 have hseq := steps_seq w1.heap.size ra ba oa rn rc bn bc on oc m (fun b => b = w.heap.size + 1) w (mw w1 ra ba oa rn rc bn bc on oc) HM.out.1 HM.out.2 hB2 hr2 (fun b h => by omega) (fun b h => by omega) (by omega)
 have hbx2 := boxed_on HB1.out.2 hb2
 obtain ⟨W9, hW9⟩ : ∃ W9, W9 = mw w1 ra ba oa rn rc bn bc on oc := ⟨_, rfl⟩
 go_wp2_with fail
 rw [← hW9] at hseq hB2 hbx2 hs2 ⊢
 clear hW9 hr2 hb2
 have HSQ := Lib.hid hseq; clear hseq
 refine wp_rangeFunc_M (fun x : Pl => [(10, .slice x.a x.n x.c), (4, .slice x.a x.n x.c)]) (lb := #[.pointer (some ⟨w1.heap.size, 0, none⟩)]) rfl
   (enters_of Tryz.func185 (by kernel_rfl) rfl) HSQ.out (fun b h => by omega) (Below.refl _ _) (fun _ => rfl) (fun x => own_gp _ _ x)
   (fun pre W' => LastAt w.heap.size pre W' ∧ Below w.heap.size w W') (fun _ _ _ => False) ?hI (fun _ _ _ _ _ h _ _ => h) ⟨⟨⟨_, hbx2⟩, fun x h => by cases h⟩, hB2⟩ ?assign ?body ?done (fun _ _ _ _ _ _ h => h.elim)
 case hI => exact OwnFrom.and (last_own _ _) (ownFrom_below (Nat.le_refl _) (by have := hB2.size; omega))
 case assign =>
   intro l x W K hK
   gi_wp2
   exact hK
 case body =>
   rintro l pre x W hG ⟨⟨⟨v, hv⟩, _⟩, hB⟩ hlt
   have kv := hv.cell
   have fv := hv.frozen
   have HH := Lib.hid (And.intro hv (And.intro hB hG)); clear hv hB hG
   simp only [List.foldl_cons, List.foldl_nil, List.setIfInBounds_toArray, List.set_cons_zero, List.set_cons_succ]
   gi_wp2
   refine ⟨Kx.setCell (X := fun b => b = w.heap.size + 1) (a := ⟨w.heap.size + 1, 0, none⟩) rfl _, ⟨⟨_, HH.out.1.set _⟩, fun y hy => ?_⟩, HH.out.2.1.setCell (p := ⟨w.heap.size + 1, 0, none⟩) (by simp) _⟩
   rw [List.getLast?_append] at hy
   simp only [List.getLast?_singleton, Option.some_or] at hy
   cases hy
   refine ⟨HH.out.1.set _, ?_⟩
   have hi : Ints W x.a x.n x.c x.l := HH.out.2.2.1
   exact hi.far (fun hn b o e => by have : W9.heap.size ≤ b := HH.out.2.2.2 b o e; show b ≠ w.heap.size + 1; omega) _
 case done =>
   rintro D xs W5 hD hS ⟨⟨_, hlast⟩, hB5⟩ hK5
   obtain ⟨x, hx, hxl⟩ := Option.map_eq_some_iff.1 hS
   obtain ⟨hb5, hi5⟩ := hlast x hx
   rw [hxl] at hi5
   have hmk : Marks (w.heap.size + 2) [{ target := .collected D, args := #[] }] W5 := Marks.new (ds := []) (by trivial) (by omega) hK5 (fun _ h => by cases h)
   have kx := hb5.cell
   have hl8 : x.n ≤ 8 := by rw [← hi5.len]; have h1 := (leastM_on (mcheck_ok HM.out.2)).len; have h2 := (mcheck_ok HM.out.2).n8; omega
   have HCL := Lib.hid (cloneL_any x.a x.n x.c (leastM m) W5 hi5 (by omega))
   have HB5 := Lib.hid (And.intro hb5 (And.intro hB5 hmk)); clear hlast hx hxl hb5 hi5 hK5 hS hB5 hmk
   go_wp2_with fail
   refine HCL.out.mono ?_
   rintro e w6 ⟨a6, c6, rfl, hc6, hi6, hl6, hf6, hb6⟩
   have hbx6 := boxed_on HB5.out.1 hb6
   have k6 := hbx6.cell
   have f6 := hbx6.frozen
   have hmk6 := HB5.out.2.2.kx (X := fun _ => False) (Kx.below hb6) (fun _ h => h.elim)
   have hz5 := HB5.out.1.lt
   have HL6 := Lib.hid ((hl6.lower (lo' := w.heap.size) HB5.out.2.1.size).clip)
   have HH := Lib.hid (And.intro hbx6 (And.intro hi6 (And.intro hf6 (And.intro hmk6 (HB5.out.2.1.trans (hb6.mono HB5.out.2.1.size)))))); clear hbx6 hi6 hf6 hmk6 hb6 HB5 kx hl6
   go_wp2_with fail
   refine (clip_any _ _ _ _ hc6).mono ?_
   rintro e w6' ⟨rfl, rfl⟩
   go_wp2_with fail
   refine leaves_marks (B := w.heap.size + 2) (v := .tuple #[.slice a6 x.n x.n, .int .i64 0]) (Z := fun _ W' => (Boxed W' (w.heap.size + 1) 25 (.slice a6 x.n x.n) ∧ Ints W' a6 x.n x.n (leastM m) ∧ Lot 3 W' w.heap.size a6 x.n x.n) ∧ Below w.heap.size w W') ?hZ ?hr ?hR _ _ (HH.out.2.2.2.1.kx' (Kx.setCell (X := fun b => b = w.heap.size + 1) (a := ⟨w.heap.size + 1, 0, none⟩) rfl _) (fun D' hD' h => by have := HH.out.2.2.2.1.at' D' hD'; omega))
     ⟨⟨HH.out.1.set _, (HH.out.2.1.toClip).far (fun hn b o e => by have := (HH.out.2.2.1 b o e).1; show b ≠ w.heap.size + 1; omega) _, HL6.out.fr (Fr.set (S := fun b => b = w.heap.size + 1) _ _ rfl _) (fun b o e h => by have h1 := (HH.out.2.2.1 b o e).1; have h2 : b = w.heap.size + 1 := h; omega)⟩, HH.out.2.2.2.2.setCell (p := ⟨w.heap.size + 1, 0, none⟩) (by simp) _⟩
   case hZ => exact OwnFrom.and (OwnFrom.and (Own.from (boxed_own _ _ _) _) (OwnFrom.and (own_ints _ _ _ _ _) (own_lot _ _ _ _ _ _))) (ownFrom_below (Nat.le_refl _) (by omega))
   case hr => exact fun W' h => least_results rfl rfl W' h.1.1
   case hR => exact fun W' h => ⟨a6, x.n, rfl, h.1.2.1, h.1.2.2, h.2⟩
end Go.Proofs.YtkddkkcfpnndlaaGreatDoor
