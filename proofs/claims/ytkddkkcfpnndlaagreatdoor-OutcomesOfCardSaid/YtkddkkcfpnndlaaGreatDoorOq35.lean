/- Walks: the steps of a rise, one after the other. Walks: rises.Least: the prices at which it ends. Walks: outcomes.Of. -/
import Derived.Test.YtkddkkcfpnndlaaGreatDoorOq29
namespace Go.Proofs.YtkddkkcfpnndlaaGreatDoor
open Go.RowKit Go.Shelf Sale

/-! ### what is read stays where its cells stay -/
theorem Ints.on {w w' : World} {a : Option Addr} {n c : Nat} {xs : List Int} (h : Ints w a n c xs) (hc : ∀ (b o : Nat) (v : Value), w.cell? ⟨b, o, Option.none⟩ = some v → w'.cell? ⟨b, o, Option.none⟩ = some v) : Ints w' a n c xs :=
 ⟨h.len, h.cap, h.big, h.addr, fun b o e k x hx => hc _ _ _ (h.cell b o e k x hx), h.bd, h.nil⟩
theorem Rows.on {w w' : World} {a : Option Addr} {n c : Nat} {xss : List (List Int)} (h : Rows w a n c xss) (hc : ∀ (b o : Nat) (v : Value), w.cell? ⟨b, o, Option.none⟩ = some v → w'.cell? ⟨b, o, Option.none⟩ = some v) : Rows w' a n c xss :=
 ⟨h.len, h.cap, h.big, h.addr, fun b o e k xs hx => by
   obtain ⟨a', n', c', h1, h2⟩ := h.cell b o e k xs hx
   exact ⟨a', n', c', hc _ _ _ h1, h2.on hc⟩⟩
theorem MktAt.on {w w' : World} {ra ba oa : Option Addr} {rn rc bn bc on oc : Nat} {m : Mkt} (h : MktAt w ra ba oa rn rc bn bc on oc m) (hc : ∀ (b o : Nat) (v : Value), w.cell? ⟨b, o, Option.none⟩ = some v → w'.cell? ⟨b, o, Option.none⟩ = some v) : MktAt w' ra ba oa rn rc bn bc on oc m :=
 ⟨h.res.on hc, h.bids.on hc, h.ord.on hc⟩

structure Pl where
 a : Option Addr
 n : Nat
 c : Nat
 l : List Int
abbrev encP (x : Pl) : Array Value := #[.slice x.a x.n x.c]
def GP (B0 : Nat) (x : Pl) (W : World) : Prop := Ints W x.a x.n x.c x.l ∧ ∀ b o, x.a = some ⟨b, o, none⟩ → B0 ≤ b
theorem own_gp (B B0 : Nat) (x : Pl) : OwnFrom B (fun (_ : Unit) W => GP B0 x W) := OwnFrom.and (own_ints _ _ _ _ _) (ownFrom_pure _ _)

theorem steps_fn (ra ba oa : Option Addr) (rn rc bn bc on oc : Nat) (w : World) :
   Calls Tryz.prog 160 #[.agg #[.slice ra rn rc, .slice ba bn bc, .slice oa on oc]] w fun e w' => e = .returned (.func (.func 185) #[] #[.pointer (some ⟨w.heap.size, 0, none⟩)]) ∧ mw w ra ba oa rn rc bn bc on oc = w' := by
 go_enter Tryz.func160, Tryz.ntmps160
 go_wp2_with fail
 go_ret
 exact ⟨rfl, rfl⟩

theorem rise_count {m : Mkt} (hm : MOk m) {j : Nat} (h : ∀ j', j' < j → stepL m (riseL m j' m.res) ≠ none) : j ≤ 8000000 := by
 obtain ⟨h1, h2⟩ := riseL_on hm j
 rcases h2 with ⟨n', hn, e⟩ | h2
 · exact absurd e (h n' hn)
 · have := (h1.sum hm).2
   omega

def StepsAt (m : Mkt) (J : List Pl → World → Prop) (X : Nat → Prop) (W : World) (B : Nat) (g : Nat) (s3 s4 : Value) (wr : World) : Prop :=
 ∃ (j : Nat) (ys : List Pl), J ys wr ∧ Kx X W wr ∧ ys.length = j ∧
   ((s4 = .bool true ∧ (∃ a n c, s3 = .slice a n c ∧ Ints wr a n c (riseL m j m.res) ∧ ∀ b o, a = some ⟨b, o, none⟩ → B ≤ b) ∧ j + g = 8000002 ∧ ∀ j', j' < j → stepL m (riseL m j' m.res) ≠ none) ∨
     (s4 = .bool false ∧ (∃ a n c, s3 = .slice a n c) ∧ ys.getLast?.map (·.l) = some (leastM m)))

set_option maxRecDepth 100000 in
set_option maxHeartbeats 4000000 in
theorem steps_seq (bM : Nat) (ra ba oa : Option Addr) (rn rc bn bc on oc : Nat) (m : Mkt) (X : Nat → Prop) (w0 w : World) (hmk : MktAt w0 ra ba oa rn rc bn bc on oc m) (hc : mcheck m = true) (hw : Below w0.heap.size w0 w)
   (hM : w.heap[bM]? = some (.cells #[.slice ra rn rc, .slice ba bn bc, .slice oa on oc] 57 (0, 0))) (hX0 : ∀ b, X b → w0.heap.size ≤ b) (hXw : ∀ b, X b → b < w.heap.size) (hXM : ¬ X bM) :
   SeqM Tryz.prog 185 #[.pointer (some ⟨bM, 0, none⟩)] encP X (GP w.heap.size) (fun ys => ys.getLast?.map (·.l) = some (leastM m)) (fun _ => True) 8000001 w := by
 intro l J Jx W hW hl hlt hJ hJx hY h0
 have hok := mcheck_ok hc
 have hrl := hmk.res.len
 have hsz0 := hw.size
 have hMl : bM < w.heap.size := (Array.getElem?_eq_some_iff.1 hM).1
 have hM1 : W.heap[bM]? = some (.cells #[.slice ra rn rc, .slice ba bn bc, .slice oa on oc] 57 (0, 0)) := (hW.block _ hMl).trans hM
 have hXM' : ¬ (bM = l ∨ X bM) := fun h => h.elim (fun e => by omega) hXM
 have hon : ∀ wr, Kx (fun b => b = l ∨ X b) W wr → ∀ (b o : Nat) (v : Value), w0.cell? ⟨b, o, none⟩ = some v → wr.cell? ⟨b, o, none⟩ = some v := fun wr hk b o v hv => by
   have hb : b < w0.heap.size := by simpa using block_lt_of_cell hv
   have h1 : W.cell? ⟨b, o, none⟩ = some v := by
     rw [hW.cell (p := ⟨b, o, none⟩) (by show b < w.heap.size; omega), hw.cell (p := ⟨b, o, none⟩) (by show b < w0.heap.size; omega)]; exact hv
   exact hk.cell h1 (fun h => h.elim (fun (e : b = l) => by omega) (fun h => by have : w0.heap.size ≤ b := hX0 _ h; omega))
 have hXp : ∀ b, W.heap.size ≤ b → ¬ (b = l ∨ X b) := fun b hb h => h.elim (fun e => by omega) (fun h => by have := hXw _ h; have := hW.size; omega)
 have hnew : ∀ wr wr' : World, Below wr.heap.size wr wr' → ∀ ys, J ys wr → J ys wr' := fun wr wr' hb ys h => OwnFrom.fresh hJ h hb
 have hres := hmk.res.on (hon W (Kx.refl _ _))
 have c0 : W.cell? ⟨bM, 0, none⟩ = some (.slice ra rn rc) := cells_of_rowK hM1 (k := 0) rfl
 have HM1 := Lib.hid hM1; clear hM1
 have HON := Lib.hid hon; clear hon
 have HXP := Lib.hid hXp; clear hXp
 have HNEW := Lib.hid hnew; clear hnew
 have HXM := Lib.hid hXM'; clear hXM'
 have HMK := Lib.hid (And.intro hmk (And.intro hc hok)); clear hmk hc hok
 have HY := Lib.hid hY; clear hY
 have HJ0 := Lib.hid h0; clear h0
 have HRL := Lib.hid hrl; clear hrl
 have hn8 : rn ≤ 8 := by have := HMK.out.2.2.n8; have := HRL.out; omega
 have HCL := Lib.hid (cloned_any ra rn rc m.res W hres (by omega)); clear hres
 have hWs := hW.size
 clear hM hX0 hXw hXM hJ hJx hW hw
 refine callsIn_of_wp Tryz.func185 rfl trivial ?_ rfl
 simp only [Tryz.ntmps185, List.size_toArray, List.length_cons, List.length_nil, Nat.reduceAdd, Nat.reduceSub, Array.replicate_succ, Array.replicate_zero, List.push_toArray, List.append_toArray, List.nil_append, List.cons_append]
 gi_wp2_with fail
 refine ⟨trivial, ?_⟩
 refine (callsIn_wide.2 HCL.out).mono ?_
 rintro e w1 ⟨a1, c1, rfl, hc1, hi1, hf1, hb1⟩
 have HST := Lib.hid (show StepsAt m J (fun b => b = l ∨ X b) W W.heap.size 8000002 (.slice a1 rn c1) (.bool true) w1 from
   ⟨0, [], HNEW.out W w1 hb1 [] HJ0.out, Kx.below hb1, rfl, .inl ⟨rfl, ⟨a1, rn, c1, rfl, hi1, fun b o e => (hf1 b o e).1⟩, rfl, fun j' h => by omega⟩⟩)
 clear hc1 hi1 hf1 hb1 c0
 gi_wp2_with fail
 gi_loopg [3, 4] 8000002 (fun g s3 s4 wr => StepsAt m J (fun b => b = l ∨ X b) W W.heap.size g s3 s4 wr)
 case atStart => exact HST.out
 case round =>
   obtain ⟨j, ys, hJy, hk, hyl, (⟨rfl, ⟨a, n, c, rfl, hi, hf⟩, hjg, hst⟩ | ⟨rfl, ⟨a, n, c, rfl⟩, hlast⟩)⟩ := hrel
   · have hjb := rise_count HMK.out.2.2 hst
     obtain ⟨fn, tmps, assign, body, hy, hR⟩ := HY.out ys ⟨a, n, c, riseL m j m.res⟩ wr ⟨hi, fun b o e => by have := hf b o e; omega⟩ hJy (by omega)
     dsimp only [encP] at hy
     have HR := Lib.hid (And.intro hk (And.intro hyl (And.intro hi (And.intro hf (And.intro hjg hst))))); clear hk hyl hi hf hjg hst hJy
     gi_wp2_with fail
     refine hR.mono ?_
     rintro e W3 ⟨(⟨rfl, hJ3⟩ | ⟨rfl, hJ3⟩), hk3⟩
     · have hk2 : Kx (fun b => b = l ∨ X b) W W3 := HR.out.1.trans hk3
       have hM3 := hk2.same _ _ HM1.out HXM.out
       have k0 : W3.cell? ⟨bM, 0, none⟩ = some (.slice ra rn rc) := cells_of_rowK hM3 (k := 0) rfl
       have k1 : W3.cell? ⟨bM, 1, none⟩ = some (.slice ba bn bc) := cells_of_rowK hM3 (k := 1) rfl
       have k2 : W3.cell? ⟨bM, 2, none⟩ = some (.slice oa on oc) := cells_of_rowK hM3 (k := 2) rfl
       have hmk3 := HMK.out.1.on (HON.out W3 hk2)
       have hi3 := hk3.ints HR.out.2.2.1 (fun b o e _ => HXP.out b (HR.out.2.2.2.1 b o e))
       have hway := (riseL_on HMK.out.2.2 j).1
       have hpr := hway.pr HMK.out.2.2
       have hnn : n = rn := by rw [← hi3.len, hway.len]; exact HRL.out
       have HAT := Lib.hid (At_made ra ba oa a rn rc bn bc on oc n c m (riseL m j m.res) W3 hmk3 HMK.out.2.1 hi3 hnn (hpr.all HMK.out.2.2))
       have HPR := Lib.hid hpr; clear hpr
       have HK2 := Lib.hid hk2; clear hk2
       have HJ3 := Lib.hid hJ3; clear hJ3
       clear hM3 hmk3 hi3 hway hnn hk3 hR hy
       gi_wp2_with fail
       refine ⟨trivial, ?_⟩
       refine (callsIn_wide.2 HAT.out).mono ?_
       rintro e w4 ⟨S, qa, wa, ua, qc, un, uc, rfl, hst4, hb4⟩
       have HSP := Lib.hid (step_any hst4 HMK.out.2.2 HPR.out)
       have HB4 := Lib.hid hb4; clear hst4 hb4
       cases hsl : stepL m (riseL m j m.res) with
       | none =>
         have HSL := Lib.hid hsl; clear hsl
         gi_wp2_with fail
         refine ⟨trivial, ?_⟩
         refine (callsIn_wide.2 HSP.out).mono ?_
         unfold StepRes
         rw [HSL.out]
         rintro e w5 ⟨hb5, a5, n5, rfl, hi5, hf5⟩
         have HB5 := Lib.hid (HB4.out.trans (hb5.mono HB4.out.size)); clear hb5 hi5 hf5
         gi_wp2_with fail
         gi_roundg (gk - 1)
         case measure => have := HR.out.2.2.2.2.1; omega
         case rel =>
           refine ⟨j + 1, ys ++ [⟨a, n, c, riseL m j m.res⟩], HNEW.out W3 _ HB5.out _ HJ3.out, HK2.out.trans (Kx.below HB5.out), by rw [List.length_append]; simp [HR.out.2.1], .inr ⟨rfl, ⟨_, _, _, rfl⟩, ?_⟩⟩
           rw [List.getLast?_append]
           simp only [List.getLast?_singleton, Option.some_or, Option.map_some]
           rw [leastM_end HMK.out.2.2 HSL.out]
       | some p' =>
         have HSL := Lib.hid hsl; clear hsl
         gi_wp2_with fail
         refine ⟨trivial, ?_⟩
         refine (callsIn_wide.2 HSP.out).mono ?_
         unfold StepRes
         rw [HSL.out]
         rintro e w5 ⟨hb5, a5, n5, rfl, hi5, hf5⟩
         have HB5 := Lib.hid (And.intro (HB4.out.trans (hb5.mono HB4.out.size)) (And.intro hi5 hf5)); clear hb5 hi5 hf5
         gi_wp2_with fail
         gi_roundg (gk - 1)
         case measure => have := HR.out.2.2.2.2.1; omega
         case rel =>
           have hmore := riseL_more (m := m) j m.res
           rw [HSL.out] at hmore
           have hmore : riseL m (j + 1) m.res = p' := hmore
           refine ⟨j + 1, ys ++ [⟨a, n, c, riseL m j m.res⟩], HNEW.out W3 _ HB5.out.1 _ HJ3.out, HK2.out.trans (Kx.below HB5.out.1), by rw [List.length_append]; simp [HR.out.2.1], .inl ⟨rfl, ⟨_, _, _, rfl, by rw [hmore]; exact HB5.out.2.1, fun b o e => by have := HB5.out.2.2 b o e; have := HB4.out.size; have := HK2.out.size; omega⟩, by have := HR.out.2.2.2.2.1; omega, fun j' hj' => ?_⟩⟩
           by_cases e : j' < j
           · exact HR.out.2.2.2.2.2 j' e
           · obtain rfl : j' = j := by omega
             rw [HSL.out]; simp
     · have HJ3 := Lib.hid hJ3; clear hJ3
       gi_wp2_with fail
       go_end0
       exact ⟨⟨_, rfl⟩, .inr ⟨_, trivial, HJ3.out⟩⟩
   · have HL := Lib.hid (And.intro hJy hlast); clear hJy hlast
     gi_wp2_with fail
     refine ⟨(fun _ h => (by cases h)), ?_⟩
     gi_wp2_with fail
     go_end0
     exact ⟨⟨_, rfl⟩, .inl ⟨_, HL.out.2, HL.out.1⟩⟩
end Go.Proofs.YtkddkkcfpnndlaaGreatDoor

namespace Go.Proofs.YtkddkkcfpnndlaaGreatDoor
open Go.RowKit Go.Shelf Sale

attribute [local go_sem] Oper.semAt_some

theorem least_results {h : Nat} {v : Value} {tmps : Array Value} {e : Int} (t2 : tmps[2]?.getD undef = .pointer (some ⟨h + 1, 0, none⟩)) (t3 : tmps[3]?.getD undef = .int .i64 e) (W : World) (hO : Boxed W (h + 1) 25 v) :
   (results Tryz.f118 tmps).run Tryz.prog W = .ok (.tuple #[v, .int .i64 e]) W := by
 have c2 := hO.cell
 simp [results, Tryz.results118, go_sem, t2, t3, c2]
def least0 (w : World) (ra ba oa : Option Addr) (rn rc bn bc on oc : Nat) : World := (mw w ra ba oa rn rc bn bc on oc).alloc (.cells #[.slice none 0 0] 25)

def LastAt (h : Nat) (pre : List Pl) (W : World) : Prop := (∃ v, Boxed W (h + 1) 25 v) ∧ ∀ x, pre.getLast? = some x → Boxed W (h + 1) 25 (.slice x.a x.n x.c) ∧ Ints W x.a x.n x.c x.l
theorem last_own (B h : Nat) : OwnFrom B (LastAt h) := fun pre A C row hs hg hr => by
 obtain ⟨⟨v, h1⟩, h2⟩ := hs
 refine ⟨⟨v, (boxed_own (h + 1) 25 (fun _ : Unit => v)) () A C row h1 hg (fun r e => (hr r e).2)⟩, fun x hx => ?_⟩
 obtain ⟨h3, h4⟩ := h2 x hx
 exact ⟨(boxed_own (h + 1) 25 (fun _ : Unit => Value.slice x.a x.n x.c)) () A C row h3 hg (fun r e => (hr r e).2), own_ints (β := Unit) B _ _ _ _ () A C row h4 hg hr⟩

set_option maxRecDepth 100000 in
set_option maxHeartbeats 4000000 in
theorem Least_yes (ra ba oa : Option Addr) (rn rc bn bc on oc : Nat) (m : Mkt) (w : World) (hm : MktAt w ra ba oa rn rc bn bc on oc m) (hc : mcheck m = true) :
   Calls Tryz.prog 118 #[.agg #[.slice ra rn rc, .slice ba bn bc, .slice oa on oc]] w fun e w' => ∃ a n, e = .returned (.tuple #[.slice a n n, .int .i64 0]) ∧ Ints w' a n n (leastM m) ∧ Below w.heap.size w w' := by
 have hb0 : Below w.heap.size w (least0 w ra ba oa rn rc bn bc on oc) := ((Below.refl _ _).alloc (Nat.le_refl _) _).alloc (by simp) _
 have hbx : Boxed (least0 w ra ba oa rn rc bn bc on oc) (w.heap.size + 1) 25 (.slice none 0 0) := boxed_new _ _ (by simp [mw]) _ _
 have hmr : (least0 w ra ba oa rn rc bn bc on oc).heap[w.heap.size]? = some (.cells #[.slice ra rn rc, .slice ba bn bc, .slice oa on oc] 57 (0, 0)) := by
   unfold least0 mw
   rw [Below.heap_alloc _ _ _ (by simp)]; exact heap_alloc_new w _
 have hm1 := hm.below hb0 (Nat.le_refl _)
 have HK := Lib.hid (mcheck_any ra ba oa rn rc bn bc on oc m (least0 w ra ba oa rn rc bn bc on oc) hm1.res hm1.bids hm1.ord)
 have hs0 : (least0 w ra ba oa rn rc bn bc on oc).heap.size = w.heap.size + 2 := by simp [least0, mw]
 have HM := Lib.hid (And.intro hm hc)
 have HB0 := Lib.hid (And.intro hb0 (And.intro hbx hmr)); clear hb0 hbx hm hm1 hmr
 have HC := Lib.hid hc; clear hc
 refine calls_marks 9 Tryz.func118 rfl ?_
 simp only [Tryz.ntmps118, List.size_toArray, List.length_cons, List.length_nil, Nat.reduceAdd, Nat.reduceSub, Array.replicate_succ, Array.replicate_zero, List.push_toArray, List.append_toArray, List.nil_append, List.cons_append]
 go_wp2_with fail
 refine HK.out.mono ?_
 rw [HC.out]
 rintro e w1 ⟨rfl, hb1⟩
 have hmr1 : w1.heap[w.heap.size]? = some (.cells #[.slice ra rn rc, .slice ba bn bc, .slice oa on oc] 57 (0, 0)) := (hb1.block _ (by omega)).trans HB0.out.2.2
 have k0 : w1.cell? ⟨w.heap.size, 0, none⟩ = some (.slice ra rn rc) := cells_of_rowK hmr1 (k := 0) rfl
 have k1 : w1.cell? ⟨w.heap.size, 1, none⟩ = some (.slice ba bn bc) := cells_of_rowK hmr1 (k := 1) rfl
 have k2 : w1.cell? ⟨w.heap.size, 2, none⟩ = some (.slice oa on oc) := cells_of_rowK hmr1 (k := 2) rfl
 have hz1 := hb1.size
 rw [hs0] at hz1
 have HB1 := Lib.hid (And.intro (HB0.out.1.trans (hb1.mono HB0.out.1.size)) (boxed_on HB0.out.2.1 hb1)); clear hb1 hmr1 HK HB0 hs0
 go_wp2_with fail
 refine (steps_fn ra ba oa rn rc bn bc on oc w1).mono ?_
 rintro e w2 ⟨rfl, rfl⟩
 have hb2 : Below w1.heap.size w1 (mw w1 ra ba oa rn rc bn bc on oc) := (Below.refl _ _).alloc (Nat.le_refl _) _
 have hs2 : (mw w1 ra ba oa rn rc bn bc on oc).heap.size = w1.heap.size + 1 := by simp [mw]
 have hr2 : (mw w1 ra ba oa rn rc bn bc on oc).heap[w1.heap.size]? = some (.cells #[.slice ra rn rc, .slice ba bn bc, .slice oa on oc] 57 (0, 0)) := heap_alloc_new w1 _
 have hB2 := HB1.out.1.trans (hb2.mono HB1.out.1.size)
 have hseq := steps_seq w1.heap.size ra ba oa rn rc bn bc on oc m (fun b => b = w.heap.size + 1) w (mw w1 ra ba oa rn rc bn bc on oc) HM.out.1 HM.out.2 hB2 hr2 (fun b h => by omega) (fun b h => by omega) (by omega)
 have hbx2 := boxed_on HB1.out.2 hb2
 obtain ⟨W9, hW9⟩ : ∃ W9, W9 = mw w1 ra ba oa rn rc bn bc on oc := ⟨_, rfl⟩
 go_wp2_with fail
 rw [← hW9] at hseq hB2 hbx2 hs2 ⊢
 clear hW9 hr2 hb2
 have HSQ := Lib.hid hseq; clear hseq
 refine wp_rangeFunc_M (fun x : Pl => [(10, .slice x.a x.n x.c), (4, .slice x.a x.n x.c)]) (lb := #[.pointer (some ⟨w1.heap.size, 0, none⟩)]) rfl
   (enters_of Tryz.func185 (by kernel_rfl) rfl) HSQ.out (fun b h => by omega) (Below.refl _ _) (fun _ => rfl) (fun x => own_gp _ _ x)
   (fun pre W' => LastAt w.heap.size pre W' ∧ Below w.heap.size w W') (fun _ _ _ => False) ?hI (fun _ _ _ _ _ h _ _ => h) ⟨⟨⟨_, hbx2⟩, fun x h => by cases h⟩, hB2⟩ ?assign ?body ?done (fun _ _ _ _ _ _ h => h.elim)
 case hI => exact OwnFrom.and (last_own _ _) (ownFrom_below (Nat.le_refl _) (by have := hB2.size; omega))
 case assign =>
   intro l x W K hK
   gi_wp2
   exact hK
 case body =>
   rintro l pre x W hG ⟨⟨⟨v, hv⟩, _⟩, hB⟩ hlt
   have kv := hv.cell
   have fv := hv.frozen
   have HH := Lib.hid (And.intro hv (And.intro hB hG)); clear hv hB hG
   simp only [List.foldl_cons, List.foldl_nil, List.setIfInBounds_toArray, List.set_cons_zero, List.set_cons_succ]
   gi_wp2
   refine ⟨Kx.setCell (X := fun b => b = w.heap.size + 1) (a := ⟨w.heap.size + 1, 0, none⟩) rfl _, ⟨⟨_, HH.out.1.set _⟩, fun y hy => ?_⟩, HH.out.2.1.setCell (p := ⟨w.heap.size + 1, 0, none⟩) (by simp) _⟩
   rw [List.getLast?_append] at hy
   simp only [List.getLast?_singleton, Option.some_or] at hy
   cases hy
   refine ⟨HH.out.1.set _, ?_⟩
   have hi : Ints W x.a x.n x.c x.l := HH.out.2.2.1
   exact hi.far (fun hn b o e => by have : W9.heap.size ≤ b := HH.out.2.2.2 b o e; show b ≠ w.heap.size + 1; omega) _
 case done =>
   rintro D xs W5 hD hS ⟨⟨_, hlast⟩, hB5⟩ hK5
   obtain ⟨x, hx, hxl⟩ := Option.map_eq_some_iff.1 hS
   obtain ⟨hb5, hi5⟩ := hlast x hx
   rw [hxl] at hi5
   have hmk : Marks (w.heap.size + 2) [{ target := .collected D, args := #[] }] W5 := Marks.new (ds := []) (by trivial) (by omega) hK5 (fun _ h => by cases h)
   have kx := hb5.cell
   have hl8 : x.n ≤ 8 := by rw [← hi5.len]; have h1 := (leastM_on (mcheck_ok HM.out.2)).len; have h2 := (mcheck_ok HM.out.2).n8; omega
   have HCL := Lib.hid (cloned_any x.a x.n x.c (leastM m) W5 hi5 (by omega))
   have HB5 := Lib.hid (And.intro hb5 (And.intro hB5 hmk)); clear hlast hx hxl hb5 hi5 hK5 hS hB5 hmk
   go_wp2_with fail
   refine HCL.out.mono ?_
   rintro e w6 ⟨a6, c6, rfl, hc6, hi6, hf6, hb6⟩
   have hbx6 := boxed_on HB5.out.1 hb6
   have k6 := hbx6.cell
   have f6 := hbx6.frozen
   have hmk6 := HB5.out.2.2.kx (X := fun _ => False) (Kx.below hb6) (fun _ h => h.elim)
   have hz5 := HB5.out.1.lt
   have HH := Lib.hid (And.intro hbx6 (And.intro hi6 (And.intro hf6 (And.intro hmk6 (HB5.out.2.1.trans (hb6.mono HB5.out.2.1.size)))))); clear hbx6 hi6 hf6 hmk6 hb6 HB5 kx
   go_wp2_with fail
   refine (clip_any _ _ _ _ hc6).mono ?_
   rintro e w6' ⟨rfl, rfl⟩
   go_wp2_with fail
   refine leaves_marks (B := w.heap.size + 2) (v := .tuple #[.slice a6 x.n x.n, .int .i64 0]) (Z := fun _ W' => (Boxed W' (w.heap.size + 1) 25 (.slice a6 x.n x.n) ∧ Ints W' a6 x.n x.n (leastM m)) ∧ Below w.heap.size w W') ?hZ ?hr ?hR _ _ (HH.out.2.2.2.1.kx' (Kx.setCell (X := fun b => b = w.heap.size + 1) (a := ⟨w.heap.size + 1, 0, none⟩) rfl _) (fun D' hD' h => by have := HH.out.2.2.2.1.at' D' hD'; omega))
     ⟨⟨HH.out.1.set _, (HH.out.2.1.toClip).far (fun hn b o e => by have := (HH.out.2.2.1 b o e).1; show b ≠ w.heap.size + 1; omega) _⟩, HH.out.2.2.2.2.setCell (p := ⟨w.heap.size + 1, 0, none⟩) (by simp) _⟩
   case hZ => exact OwnFrom.and (OwnFrom.and (Own.from (boxed_own _ _ _) _) (own_ints _ _ _ _ _)) (ownFrom_below (Nat.le_refl _) (by omega))
   case hr => exact fun W' h => least_results rfl rfl W' h.1.1
   case hR => exact fun W' h => ⟨a6, x.n, rfl, h.1.2, h.2⟩
end Go.Proofs.YtkddkkcfpnndlaaGreatDoor

namespace Go.Proofs.YtkddkkcfpnndlaaGreatDoor
open Go.RowKit Sale

def oc0 (w : World) (ra ba oa : Option Addr) (rn rc bn bc on oc : Nat) : World := (mw w ra ba oa rn rc bn bc on oc).alloc (.cells #[.slice none 0 0, .slice none 0 0] 70)
theorem oc0_at (w : World) (ra ba oa : Option Addr) (rn rc bn bc on oc : Nat) : VRow (oc0 w ra ba oa rn rc bn bc on oc) w.heap.size 57 [.slice ra rn rc, .slice ba bn bc, .slice oa on oc] ∧
   VRow (oc0 w ra ba oa rn rc bn bc on oc) (w.heap.size + 1) 70 [.slice none 0 0, .slice none 0 0] ∧ Below w.heap.size w (oc0 w ra ba oa rn rc bn bc on oc) := by
 have h1 := VRow.new w 57 [.slice ra rn rc, .slice ba bn bc, .slice oa on oc]
 have h2 := VRow.new (mw w ra ba oa rn rc bn bc on oc) 70 [.slice none 0 0, .slice none 0 0]
 rw [show (mw w ra ba oa rn rc bn bc on oc).heap.size = w.heap.size + 1 by simp [mw]] at h2
 exact ⟨h1.alloc _, h2, ((Below.refl _ _).alloc (Nat.le_refl _) _).alloc (by simp) _⟩

theorem oof_results {h : Nat} {v0 v1 : Value} {tmps : Array Value} {e : Int} (t2 : tmps[2]?.getD undef = .pointer (some ⟨h + 1, 0, none⟩)) (t3 : tmps[3]?.getD undef = .int .i64 e) (W : World) (hO : VRow W (h + 1) 70 [v0, v1]) :
   (results Tryz.f48 tmps).run Tryz.prog W = .ok (.tuple #[.agg #[v0, v1], .int .i64 e]) W := by
 have c0 := hO.cell (k := 0) rfl
 have c1 := hO.cell (k := 1) rfl
 simp [results, Tryz.results48, go_sem, t2, t3, c0, c1]

theorem vrow_far {w : World} {B : Nat} {T : TypeId} {vals : List Value} (h : VRow w B T vals) {a : Addr} (ha : B ≠ a.block) (v : Value) : VRow (w.setCell a v) B T vals := by
 unfold VRow; rw [heap_setCell_other w a B v ha]; exact h
set_option maxRecDepth 100000 in
set_option maxHeartbeats 2000000 in
theorem Oof_no (ra ba oa : Option Addr) (rn rc bn bc on oc : Nat) (m : Mkt) (w : World) (hm : MktAt w ra ba oa rn rc bn bc on oc m) (hc : mcheck m = false) :
   Calls Tryz.prog 48 #[.agg #[.slice ra rn rc, .slice ba bn bc, .slice oa on oc]] w fun e w' => e = .returned (.tuple #[.agg #[.slice none 0 0, .slice none 0 0], .int .i64 1]) ∧ Below w.heap.size w w' := by
 obtain ⟨hv1, hv2, hb0⟩ := oc0_at w ra ba oa rn rc bn bc on oc
 have HG := Lib.hid (Gains_no ra ba oa rn rc bn bc on oc m _ (hm.below hb0 (Nat.le_refl _)) hc)
 have HV := Lib.hid (And.intro hv2 hb0); clear hv1 hv2 hb0 hm hc
 go_enter Tryz.func48, Tryz.ntmps48
 go_wp2_with fail
 refine HG.out.mono ?_
 rintro e w1 ⟨rfl, hb1⟩
 have hv1 := HV.out.1.below hb1 HV.out.1.lt
 have k0 := hv1.cell (k := 0) rfl
 have k1 := hv1.cell (k := 1) rfl
 have f0 := hv1.frozen 0
 have f1 := hv1.frozen 1
 have hv2 := hv1.set 0 (.slice none 0 0)
 have g1 := hv2.cell (k := 1) rfl
 have h1 := hv2.frozen 1
 have HB1 := Lib.hid (And.intro (HV.out.2.trans (hb1.mono HV.out.2.size)) ((hv2.set 1 (.slice none 0 0)))); clear hb1 hv1 hv2
 go_wp2_with fail
 exact bodyPost_ret (oof_results rfl rfl _ HB1.out.2) rfl ⟨rfl, (HB1.out.1.setCell (p := ⟨w.heap.size + 1, 0, none⟩) (by simp) _).setCell (p := ⟨w.heap.size + 1, 1, none⟩) (by simp) _⟩

set_option maxRecDepth 100000 in
set_option maxHeartbeats 2000000 in
theorem Oof_yes (ra ba oa : Option Addr) (rn rc bn bc on oc : Nat) (m : Mkt) (w : World) (hm : MktAt w ra ba oa rn rc bn bc on oc m) (hc : mcheck m = true) :
   Calls Tryz.prog 48 #[.agg #[.slice ra rn rc, .slice ba bn bc, .slice oa on oc]] w fun e w' => ∃ ha pa hcp, e = .returned (.tuple #[.agg #[.slice ha bn hcp, .slice pa rn rn], .int .i64 0]) ∧ OutAt w' ha pa bn hcp rn rn (outM m) ∧ Below w.heap.size w w' := by
 obtain ⟨hv1, hv2, hb0⟩ := oc0_at w ra ba oa rn rc bn bc on oc
 have hok := mcheck_ok hc
 have hrl := hm.res.len
 have hbl := hm.bids.len
 have HG := Lib.hid (Gains_yes ra ba oa rn rc bn bc on oc m _ (hm.below hb0 (Nat.le_refl _)) hc)
 have HV := Lib.hid (And.intro hv1 (And.intro hv2 hb0)); clear hv1 hv2 hb0
 have HM := Lib.hid (And.intro hm (And.intro hc hok)); clear hm hc hok
 have HRL := Lib.hid hrl; clear hrl
 have HBL := Lib.hid hbl; clear hbl
 go_enter Tryz.func48, Tryz.ntmps48
 go_wp2_with fail
 refine HG.out.mono ?_
 rintro e w1 ⟨ga, rfl, hg, hb1⟩
 have hm1 := HV.out.1.below hb1 HV.out.1.lt
 have ho1 := HV.out.2.1.below hb1 HV.out.2.1.lt
 have hB1 := HV.out.2.2.trans (hb1.mono HV.out.2.2.size)
 have k0 := hm1.cell (k := 0) rfl
 have k2 := hm1.cell (k := 2) rfl
 have hF := FirstM HM.out.2.2 ga oa bn bn on oc w1 hg (HM.out.1.ord.below hB1 (Nat.le_refl _))
 rw [HRL.out] at hF
 have HF := Lib.hid hF; clear hF hg hb1
 have H1 := Lib.hid (And.intro hm1 (And.intro ho1 hB1)); clear hm1 ho1 hB1 HG
 go_wp2_with fail
 refine HF.out.mono ?_
 rintro e w2 ⟨ha, hn, hcp, rfl, hi2, hb2⟩
 have hhn : hn = bn := by rw [← hi2.len, hasM_length]; exact HBL.out
 subst hhn
 have hm2 := H1.out.1.below hb2 H1.out.1.lt
 have ho2 := H1.out.2.1.below hb2 H1.out.2.1.lt
 have hB2 := H1.out.2.2.trans (hb2.mono H1.out.2.2.size)
 have p0 := ho2.cell (k := 0) rfl
 have fp0 := ho2.frozen 0
 have ho3 := ho2.set 0 (.slice ha hn hcp)
 have hm3 : VRow (w2.setCell ⟨w.heap.size + 1, 0, none⟩ (.slice ha hn hcp)) w.heap.size 57 [.slice ra rn rc, .slice ba hn bc, .slice oa on oc] := vrow_far hm2 (by show w.heap.size ≠ w.heap.size + 1; omega) _
 have hB3 := hB2.setCell (p := ⟨w.heap.size + 1, 0, none⟩) (by simp) (.slice ha hn hcp)
 have hi3 : Ints (w2.setCell ⟨w.heap.size + 1, 0, none⟩ (.slice ha hn hcp)) ha hn hcp (hasM m) :=
   hi2.far (hi2.apartV ho2 (fun v hv => ⟨none, 0, 0, by simpa using hv⟩)) _
 have q0 := hm3.cell (k := 0) rfl
 have q1 := hm3.cell (k := 1) rfl
 have q2 := hm3.cell (k := 2) rfl
 have H2 := Lib.hid (And.intro hm3 (And.intro ho3 (And.intro hB3 hi3))); clear hm2 ho2 hB2 hm3 ho3 hB3 hi3 hi2 hb2 k0 k2 H1 HF
 have HL := Lib.hid (Least_yes ra ba oa rn rc hn bc on oc m _ (HM.out.1.below H2.out.2.2.1 (Nat.le_refl _)) HM.out.2.1)
 go_wp2_with fail
 refine HL.out.mono ?_
 rintro e w4 ⟨pa, pn, rfl, hi4, hb4⟩
 have hpn : pn = rn := by rw [← hi4.len, (leastM_on HM.out.2.2).len]; exact HRL.out
 subst hpn
 have ho4 := H2.out.2.1.below hb4 H2.out.2.1.lt
 have hB4 := H2.out.2.2.1.trans (hb4.mono H2.out.2.2.1.size)
 have hi5 := H2.out.2.2.2.below hb4 (Nat.le_refl _)
 have hs4 : ∀ v, v ∈ ([.slice none 0 0, .slice none 0 0] : List Value).set 0 (.slice ha hn hcp) → ∃ a n c, v = .slice a n c := fun v hv => by
   simp at hv
   rcases hv with rfl | rfl
   · exact ⟨_, _, _, rfl⟩
   · exact ⟨_, _, _, rfl⟩
 have far1 := hi5.apartV ho4 hs4
 have far2 := hi4.apartV ho4 hs4
 have p1 := ho4.cell (k := 1) rfl
 have fp1 := ho4.frozen 1
 have ho5 := ho4.set 1 (.slice pa pn pn)
 have r0 := ho5.cell (k := 0) rfl
 have r1 := ho5.cell (k := 1) rfl
 have fr0 := ho5.frozen 0
 have ho6 := ho5.set 0 (.slice ha hn hcp)
 have fr1 := ho6.frozen 1
 have r2 := ho6.cell (k := 1) rfl
 have ho7 := ho6.set 1 (.slice pa pn pn)
 have H4 := Lib.hid (And.intro ho7 (And.intro hB4 (And.intro hi5 (And.intro hi4 (And.intro far1 far2))))); clear ho4 ho5 ho6 ho7 hB4 hi5 hi4 far1 far2 hb4 hs4 q0 q1 q2 p0 fp0
 go_wp2_with fail
 refine bodyPost_ret (oof_results rfl rfl _ H4.out.1) rfl ⟨ha, pa, hcp, rfl, ⟨?_, ?_⟩, ?_⟩
 · exact ((H4.out.2.2.1.far H4.out.2.2.2.2.1 _).far H4.out.2.2.2.2.1 _).far H4.out.2.2.2.2.1 _
 · exact ((H4.out.2.2.2.1.far H4.out.2.2.2.2.2 _).far H4.out.2.2.2.2.2 _).far H4.out.2.2.2.2.2 _
 · exact ((H4.out.2.1.setCell (p := ⟨w.heap.size + 1, 1, none⟩) (by simp) _).setCell (p := ⟨w.heap.size + 1, 0, none⟩) (by simp) _).setCell (p := ⟨w.heap.size + 1, 1, none⟩) (by simp) _
end Go.Proofs.YtkddkkcfpnndlaaGreatDoor
