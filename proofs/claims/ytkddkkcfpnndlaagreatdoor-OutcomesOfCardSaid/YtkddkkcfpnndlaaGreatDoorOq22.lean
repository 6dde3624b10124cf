/- Walks: halls.sets: the sets of so many of the items from some one on. Walks: halls.sets, the step: one item more. -/
import Derived.Test.YtkddkkcfpnndlaaGreatDoorOq17
import Derived.Test.YtkddkkcfpnndlaaGreatDoorOq13
import Derived.Test.YtkddkkcfpnndlaaGreatDoorOq10
import Derived.Test.YtkddkkcfpnndlaaGreatDoorOq16
namespace Go.Proofs.YtkddkkcfpnndlaaGreatDoor
open Go.RowKit Go.Shelf

attribute [local go_sem] Oper.semAt_some

structure Sl where
 a : Option Addr
 n : Nat
 c : Nat
 l : List Nat
abbrev encS (x : Sl) : Array Value := #[.slice x.a x.n x.c]
def GS (m : Nat) (x : Sl) (W : World) : Prop := Ints W x.a x.n x.c (nats x.l) ∧ x.l.length = m
theorem own_gs (B m : Nat) (x : Sl) : OwnFrom B (fun (_ : Unit) W => GS m x W) := OwnFrom.and (own_ints _ _ _ _ _) (ownFrom_pure _ _)

theorem sets_any (aa : Option Addr) (an ac : Nat) (start items many : Int) (w : World) :
   Calls Tryz.prog 217 #[.slice aa an ac, .int .i64 start, .int .i64 items, .int .i64 many] w fun e w' =>
     e = .returned (.func (.func 229) #[] #[.pointer (some ⟨w.heap.size + 1 + 1 + 1, 0, none⟩), .pointer (some ⟨w.heap.size, 0, none⟩), .pointer (some ⟨w.heap.size + 1, 0, none⟩), .pointer (some ⟨w.heap.size + 1 + 1, 0, none⟩)]) ∧
     (((w.alloc (.cells #[.slice aa an ac] 25)).alloc (.cells #[.int .i64 start] 3)).alloc (.cells #[.int .i64 items] 3)).alloc (.cells #[.int .i64 many] 3) = w' := by
 go_enter Tryz.func217, Tryz.ntmps217
 go_wp2_with fail
 go_ret
 exact ⟨rfl, rfl⟩

def SetsOk (N c : Nat) : Prop := ∀ (start : Nat) (ahead : List Nat) (bm ba bf bi : Nat) (aa : Option Addr) (an ac : Nat) (X : Nat → Prop) (w : World),
 Boxed w bm 3 (.int .i64 c) → Boxed w ba 25 (.slice aa an ac) → Boxed w bf 3 (.int .i64 start) → Boxed w bi 3 (.int .i64 N) → Ints w aa an ac (nats ahead) → ahead.length + c ≤ 8 → start ≤ 8 →
 (∀ b, X b → b < w.heap.size) → (∀ b o, aa = some ⟨b, o, none⟩ → 0 < an → ¬ X b) → ¬ X bm → ¬ X ba → ¬ X bf → ¬ X bi →
 SeqM Tryz.prog 229 #[.pointer (some ⟨bm, 0, none⟩), .pointer (some ⟨ba, 0, none⟩), .pointer (some ⟨bf, 0, none⟩), .pointer (some ⟨bi, 0, none⟩)] encS X (GS (ahead.length + c))
   (fun ys => ys.map (·.l) = Way.sets N c start ahead) (fun pre => pre.map (·.l) <+: Way.sets N c start ahead) (Way.sets N c start ahead).length w

theorem boxed_past {w W : World} {B b : Nat} {t : TypeId} {v : Value} (h : Boxed w b t v) (hb : Below B w W) (hB : w.heap.size ≤ B) : Boxed W b t v := by
 unfold Boxed at *
 have := (Array.getElem?_eq_some_iff.1 h).1
 rw [hb.block b (by omega)]; exact h

set_option maxRecDepth 100000 in
set_option maxHeartbeats 1000000 in
theorem sets_zero (N : Nat) : SetsOk N 0 := by
 intro start ahead bm ba bf bi aa an ac X w hm ha hf hi hI hlen hst hXw hXa hXm hXb hXf hXi l J Jx W hW hl hlt hJ hJx hY h0
 have hm1 := (boxed_past hm hW (Nat.le_refl _)).cell
 have ha1 := (boxed_past ha hW (Nat.le_refl _)).cell
 have hI1 := hI.below hW (Nat.le_refl _)
 have hmz := (boxed_past hm hW (Nat.le_refl _)).lt
 have haz := (boxed_past ha hW (Nat.le_refl _)).lt
 have hb1 : Below W.heap.size W (W.alloc (.cells #[.func (.yield l) #[] #[]] 128)) := (Below.refl _ _).alloc (Nat.le_refl _) _
 obtain ⟨fn, tmps, assign, body, hy, hR⟩ := hY [] ⟨aa, an, ac, ahead⟩ (W.alloc (.cells #[.func (.yield l) #[] #[]] 128)) ⟨hI1.below hb1 (Nat.le_refl _), rfl⟩ (OwnFrom.fresh hJ h0 hb1) (by simp [Way.sets])
 dsimp only [encS] at hy
 refine callsIn_of_wp Tryz.func229 rfl trivial ?_ rfl
 simp only [Tryz.ntmps229, List.size_toArray, List.length_cons, List.length_nil, Nat.reduceAdd, Nat.reduceSub, Array.replicate_succ, Array.replicate_zero, List.push_toArray, List.append_toArray, List.nil_append, List.cons_append]
 clear hm ha hf hi hI hlen hst hXw hXa hXm hXb hXf hXi hW hl hlt hJ hJx hY h0 hI1 hb1
 gi_wp2
 refine hR.mono ?_
 rintro e W3 ⟨(⟨rfl, hJ3⟩ | ⟨rfl, hJ3⟩), _⟩
 · gi_wp2
   refine bodyPost_ret (results_none rfl _ _ _) rfl ?_
   exact ⟨⟨_, rfl⟩, .inl ⟨_, rfl, hJ3⟩⟩
 · gi_wp2
   refine bodyPost_ret (results_none rfl _ _ _) rfl ?_
   exact ⟨⟨_, rfl⟩, .inr ⟨_, List.prefix_refl _, hJ3⟩⟩
end Go.Proofs.YtkddkkcfpnndlaaGreatDoor

namespace Go.Proofs.YtkddkkcfpnndlaaGreatDoor
open Go.RowKit Go.Shelf

attribute [local go_sem] Oper.semAt_some

def setsTo (N c start : Nat) (ahead : List Nat) (j : Nat) : List (List Nat) := (List.range' start j).flatMap fun x => Way.sets N c (x + 1) (ahead ++ [x])
theorem setsTo_all (N c start : Nat) (ahead : List Nat) : setsTo N c start ahead (N - c - start) = Way.sets N (c + 1) start ahead := rfl
theorem setsTo_succ (N c start : Nat) (ahead : List Nat) (j : Nat) : setsTo N c start ahead (j + 1) = setsTo N c start ahead j ++ Way.sets N c (start + j + 1) (ahead ++ [start + j]) := by
 unfold setsTo
 rw [List.range'_concat, List.flatMap_append]
 simp
theorem setsTo_prefix (N c start : Nat) (ahead : List Nat) {j k : Nat} (h : j ≤ k) : setsTo N c start ahead j <+: setsTo N c start ahead k := by
 induction k with
 | zero => obtain rfl : j = 0 := by omega
           exact List.prefix_refl _
 | succ k ih =>
   rcases Nat.lt_or_ge j (k + 1) with h1 | h1
   · exact (ih (by omega)).trans (by rw [setsTo_succ]; exact List.prefix_append _ _)
   · obtain rfl : j = k + 1 := by omega
     exact List.prefix_refl _
theorem nats_snoc (l : List Nat) (x : Nat) : nats (l ++ [x]) = nats l ++ [(x : Int)] := by simp [nats]

theorem own_lower {w : World} {base B : Nat} {v : Value} {xs : List Int} (h : Own w base v xs) (hB : B ≤ base) : Own w B v xs := by
 obtain ⟨h1, h2⟩ := h
 refine ⟨h1, ?_⟩
 rcases h2 with h2 | ⟨g, cap, cur, hv, hg, r⟩
 · exact .inl h2
 · exact .inr ⟨g, cap, cur, hv, by omega, r⟩
def PS (B : Nat) (aa : Option Addr) (an ac : Nat) (ahead : List Nat) (k N c : Nat) (i : Nat) (x : Value) (w : World) : Prop := match i with
 | 0 => x = .slice aa an ac
 | 1 => Own w B x (nats ahead)
 | 2 => x = .int .i64 k
 | 3 => ∃ g, x = .slice (some ⟨g, 0, none⟩) 1 1 ∧ w.cell? ⟨g, 0, none⟩ = some (.int .i64 k)
 | 4 => Own w B x (nats (ahead ++ [k]))
 | 5 => x = .int .i64 k
 | 6 => x = .int .i64 ((k : Int) + 1)
 | 7 => x = .int .i64 N
 | 8 => x = .int .i64 ((c : Int) + 1)
 | 9 => x = .int .i64 c
 | _ => True
def deadS (i j : Nat) : Bool := (i == 4) && (j == 1 || j == 3 || j == 4)
theorem PS_mono {B : Nat} {aa : Option Addr} {an ac : Nat} {ahead : List Nat} {k N c : Nat} (i j : Nat) (y : Value) (w w' : World) (hd : deadS i j = false) (hR : i ≠ 4 → Below w.heap.size w w') (h : PS B aa an ac ahead k N c j y w) : PS B aa an ac ahead k N c j y w' := by
 have hb : (j = 1 ∨ j = 3 ∨ j = 4) → Below w.heap.size w w' := fun hj => hR (fun e => by subst e; rcases hj with rfl | rfl | rfl <;> simp [deadS] at hd)
 match j, h, hb with
 | 0, h, _ | 2, h, _ | 5, h, _ | 6, h, _ | 7, h, _ | 8, h, _ | 9, h, _ => exact h
 | 1, h, hb => exact Own.below h (hb (by simp)) (Nat.le_refl _)
 | 3, h, hb => obtain ⟨g, e, hc⟩ := h; exact ⟨g, e, cell_step (hb (by simp)) hc⟩
 | 4, h, hb => exact Own.below h (hb (by simp)) (Nat.le_refl _)
 | _ + 10, _, _ => trivial

set_option maxRecDepth 100000 in
set_option maxHeartbeats 2000000 in
theorem sets_succ (N c : Nat) (hN : N ≤ 8) (IH : SetsOk N c) : SetsOk N (c + 1) := by
 intro start ahead bm ba bf bi aa an ac X w hm ha hf hi hI hlen hst hXw hXa hXm hXb hXf hXi l J Jx W hW hl hlt hJ hJx hY h0
 obtain ⟨W1, hW1⟩ : ∃ W1, W1 = W.alloc (.cells #[.func (.yield l) #[] #[]] 128) := ⟨_, rfl⟩
 have hb1 : Below W.heap.size W W1 := by rw [hW1]; exact (Below.refl _ _).alloc (Nat.le_refl _) _
 have hm1 := boxed_past (boxed_past hm hW (Nat.le_refl _)) hb1 (Nat.le_refl _)
 have ha1 := boxed_past (boxed_past ha hW (Nat.le_refl _)) hb1 (Nat.le_refl _)
 have hf1 := boxed_past (boxed_past hf hW (Nat.le_refl _)) hb1 (Nat.le_refl _)
 have hi1 := boxed_past (boxed_past hi hW (Nat.le_refl _)) hb1 (Nat.le_refl _)
 have hy1 : Boxed W1 W.heap.size 128 (.func (.yield l) #[] #[]) := by rw [hW1]; exact Boxed.new W _ _
 have hI1 := (hI.below hW (Nat.le_refl _)).below hb1 (Nat.le_refl _)
 have hJ1 := OwnFrom.fresh hJ h0 hb1
 have hmw := hm.lt
 have haw := ha.lt
 have hfw := hf.lt
 have hiw := hi.lt
 have hsz1 : W1.heap.size = W.heap.size + 1 := by rw [hW1]; simp
 have hXo : ∀ b, b < w.heap.size → ¬ X b → ¬ (b = l ∨ X b) := fun b hb hx h => h.elim (fun e => by omega) hx
 have hyX : ¬ (W.heap.size = l ∨ X W.heap.size) := fun h => h.elim (fun e => by omega) (fun h => by have := hXw _ h; have := hW.size; omega)
 have hcm := hm1.cell
 have hca := ha1.cell
 have hcf := hf1.cell
 have hci := hi1.cell
 have HF := Lib.hid (And.intro hm1 (And.intro ha1 (And.intro hi1 (And.intro hy1 (And.intro hI1 (And.intro hJ1 hXo)))))); clear hm1 ha1 hi1 hf1 hy1 hI1 hJ1 hXo
 have HY := Lib.hid hY; clear hY
 refine callsIn_wide.2 (calls_marks 9 Tryz.func229 rfl ?_)
 simp only [Tryz.ntmps229, List.size_toArray, List.length_cons, List.length_nil, Nat.reduceAdd, Nat.reduceSub, Array.replicate_succ, Array.replicate_zero, List.push_toArray, List.append_toArray, List.nil_append, List.cons_append]
 have HJ := Lib.hid hJ; clear hJ
 have HJx := Lib.hid hJx; clear hJx
 have hI0 := Lib.hid hI
 have HX := Lib.hid (And.intro hXa (And.intro hXm (And.intro hXb hXi))); clear hXa hXm hXb hXf hXi h0 hI hm ha hf hi
 clear hb1
 subst hW1
 go_wp2_with fail
 refine wp_loop_ghost_k (fun g a' w' => ∃ (j : Nat) (T : Array Value) (ds : List Deferred) (ys : List Sl), j + g = N - c - start ∧ a' = { tmps := T, defers := ds } ∧ T.size = 37 ∧ T.getD 1 undef = .pointer (some ⟨bm, 0, none⟩) ∧ T.getD 2 undef = .pointer (some ⟨ba, 0, none⟩) ∧
   T.getD 4 undef = .pointer (some ⟨bi, 0, none⟩) ∧ T.getD 5 undef = .pointer (some ⟨W.heap.size, 0, none⟩) ∧ T.getD 6 undef = .int .i64 ((start + j : Nat) : Int) ∧ ys.map (·.l) = setsTo N c start ahead j ∧ J ys w' ∧
   Kx (fun b => b = l ∨ X b) (W.alloc (.cells #[.func (.yield l) #[] #[]] 128)) w' ∧ Marks W.heap.size ds w') (N - c - start) ?h0 ?round
 case h0 => exact ⟨0, _, _, [], by omega, rfl, rfl, rfl, rfl, rfl, rfl, rfl, rfl, HF.out.2.2.2.2.2.1, Kx.refl _ _, trivial⟩
 case round =>
   intro g a' w' hIn J' K' hJJ hK
   obtain ⟨j, T, ds, ys, hj, rfl, hT, t1, t2, t4, t5, t6, hys, hJys, hkx, hmk⟩ := hIn
   obtain ⟨u, rfl⟩ := frame_of 37 T hT
   replace t1 : u 1 = _ := t1
   replace t2 : u 2 = _ := t2
   replace t4 : u 4 = _ := t4
   replace t5 : u 5 = _ := t5
   replace t6 : u 6 = _ := t6
   obtain ⟨k, hkk⟩ : ∃ k, k = start + j := ⟨_, rfl⟩
   rw [← hkk] at t6
   have HKK := Lib.hid hkk
   rw [show ((List.range 37).map u).toArray = #[u 0, u 1, u 2, u 3, u 4, u 5, u 6, u 7, u 8, u 9, u 10, u 11, u 12, u 13, u 14, u 15, u 16, u 17, u 18, u 19, u 20, u 21, u 22, u 23, u 24, u 25, u 26, u 27, u 28, u 29, u 30, u 31, u 32, u 33, u 34, u 35, u 36] from rfl, t1, t2, t4, t5, t6]
   clear t1 t2 t4 t5 t6 hT
   obtain ⟨f1, f2, f3, f4, f5, _, fX⟩ := HF.out
   have hw1s : (W.alloc (.cells #[.func (.yield l) #[] #[]] 128)).heap.size = W.heap.size + 1 := by simp
   have hbm' := hkx.boxed f1 (fX _ hmw HX.out.2.1)
   have hba' := hkx.boxed f2 (fX _ haw HX.out.2.2.1)
   have hbi' := hkx.boxed f3 (fX _ hiw HX.out.2.2.2)
   have hby' := hkx.boxed f4 hyX
   have hIa := hkx.ints f5 (fun b o e h0 => fX _ (by
     have := block_lt_of_cell (hI0.out.cell b o e 0 _ (List.getElem?_eq_getElem (by rw [hI0.out.len]; exact h0)))
     simpa using this) (HX.out.1 b o e h0))
   have km := hbm'.cell
   have ka := hba'.cell
   have ki := hbi'.cell
   have kz := hkx.size
   rw [hw1s] at kz
   clear f1 f2 f3 f4 f5 fX
   have HBm := Lib.hid hbm'; clear hbm'
   have HBa := Lib.hid hba'; clear hba'
   have HBi := Lib.hid hbi'; clear hbi'
   have HBy := Lib.hid hby'; clear hby'
   have HIa := Lib.hid hIa; clear hIa
   have HKX := Lib.hid hkx; clear hkx
   have HMK := Lib.hid hmk; clear hmk
   have HYS := Lib.hid hys; clear hys
   have HJY := Lib.hid hJys; clear hJys
   have HJJ := Lib.hid hj
   have HJK := Lib.hid hJJ; clear hJJ
   have HK := Lib.hid hK; clear hK
   by_cases hlt2 : j < N - c - start
   · have hjb : start + j + c + 1 ≤ N := by omega
     have e1 : decide ((k : Int) ≤ (N : Int) - ((c : Int) + 1)) = true := by simp; omega
     have hkN : k + c + 1 ≤ N := by omega
     clear hkk
     go_wp2_with fail
     refine wp_region_live' (by kernel_rfl) [21, 22, 23, 24, 25, 26, 27, 28, 29, 30] (PS w'.heap.size aa an ac ahead k N c) (fun i wa wb => i ≠ 4 → Below wa.heap.size wa wb) deadS (fun wx => Below w'.heap.size w' wx) (fun _ => True) 0 (by simp) (by kernel_rfl) (by simp) (by decide) (by kernel_rfl) ?hmono (Below.refl _ _).drew trivial (fun _ _ _ _ _ _ => trivial) ?hstep ?hlast
     case hmono => exact fun i j y wa wb _ _ hd hR h => PS_mono i j y wa wb hd hR h
     case hstep =>
       intro i o v wx K hi ho hB _ hd hKK
       simp only [List.length_cons, List.length_nil] at hi
       simp only [fold, Nat.zero_add, Nat.reduceAdd, List.setIfInBounds_toArray, List.set_cons_zero, List.set_cons_succ]
       rcases (by omega : i = 0 ∨ i = 1 ∨ i = 2 ∨ i = 3 ∨ i = 4 ∨ i = 5 ∨ i = 6 ∨ i = 7 ∨ i = 8 ∨ i = 9) with rfl | rfl | rfl | rfl | rfl | rfl | rfl | rfl | rfl | rfl
       all_goals
         simp only [List.getElem?_cons_zero, List.getElem?_cons_succ, Option.some.injEq] at ho
         subst ho
         simp only [fold, Nat.zero_add, Nat.reduceAdd, Act.put, List.setIfInBounds_toArray, List.set_cons_zero, List.set_cons_succ] at hKK
       · clear hd
         have kk := cell_step hB ka
         go_wp2_with fail
         exact hKK _ _ hB (fun _ => Below.refl _ _) rfl
       · have d0 : v 0 = .slice aa an ac := hd ⟨0, .data⟩ (by simp) rfl
         rw [d0] at hKK ⊢
         clear hd
         go_wp2_with fail
         refine (clone_any aa an ac (nats ahead) wx (HIa.out.below hB (Nat.le_refl _)) (by have := HIa.out.len; simp [nats] at this; omega)).mono ?_
         rintro e w5 ⟨v5, rfl, hown5, hb5⟩
         go_wp2_with fail
         exact hKK _ _ (hB.trans (hb5.mono hB.size)) (fun _ => hb5) (own_lower hown5 hB.size)
       · clear hd
         go_wp2_with fail
         exact hKK _ _ hB (fun _ => Below.refl _ _) rfl
       · have d2 : v 2 = .int .i64 k := hd ⟨2, .data⟩ (by simp) rfl
         rw [d2] at hKK ⊢
         clear hd
         go_wp2_with fail
         exact hKK _ _ (hB.alloc hB.size _) (fun _ => (Below.refl _ _).alloc (Nat.le_refl _) _) ⟨_, rfl, by simp [go_sem]⟩
       · have d1 : Own wx w'.heap.size (v 1) (nats ahead) := hd ⟨1, .data⟩ (by simp) rfl
         obtain ⟨g, d3, hc3⟩ : PS w'.heap.size aa an ac ahead k N c 3 (v 3) wx := hd ⟨3, .data⟩ (by simp) rfl
         rw [d3] at hKK ⊢
         clear hd
         go_wp2_with (at_builtin; refine app1 _ rfl _ _ rfl w'.heap.size _ _ rfl d1 g 0 1 (k : Int) rfl hc3 (by simp [nats]; omega) hB.size ?_)
         intro g' cap' w5 hown5 _ hb5
         go_wp2_with fail
         rw [← nats_snoc] at hown5
         exact hKK _ _ (hB.trans hb5) (fun h => absurd rfl h) hown5
       · clear hd
         go_wp2_with fail
         exact hKK _ _ hB (fun _ => Below.refl _ _) rfl
       · have d5 : v 5 = .int .i64 k := hd ⟨5, .data⟩ (by simp) rfl
         rw [d5] at hKK ⊢
         clear hd
         go_wp2_with fail
         exact hKK _ _ hB (fun _ => Below.refl _ _) rfl
       · clear hd
         have kk := cell_step hB ki
         go_wp2_with fail
         exact hKK _ _ hB (fun _ => Below.refl _ _) rfl
       · clear hd
         have kk := cell_step hB km
         go_wp2_with fail
         exact hKK _ _ hB (fun _ => Below.refl _ _) (by push_cast; rfl)
       · have d8 : v 8 = .int .i64 ((c : Int) + 1) := hd ⟨8, .data⟩ (by simp) rfl
         rw [d8] at hKK ⊢
         clear hd
         go_wp2_with fail
         exact hKK _ _ hB (fun _ => Below.refl _ _) rfl
     case hlast =>
       intro o v wx K ho hB hd _ hKK
       simp only [List.length_cons, List.length_nil, Nat.reduceAdd, Nat.reduceSub, List.getElem?_cons_zero, List.getElem?_cons_succ, Option.some.injEq] at ho
       subst ho
       simp only [fold, Nat.zero_add, Nat.reduceAdd, List.setIfInBounds_toArray, List.set_cons_zero, List.set_cons_succ]
       have d4 : Own wx w'.heap.size (v 4) (nats (ahead ++ [k])) := hd ⟨4, .data⟩ (by simp) rfl
       have d6 : v 6 = .int .i64 ((k : Int) + 1) := hd ⟨6, .data⟩ (by simp) rfl
       have d7 : v 7 = .int .i64 N := hd ⟨7, .data⟩ (by simp) rfl
       have d9 : v 9 = .int .i64 c := hd ⟨9, .data⟩ (by simp) rfl
       have hbase := d4.base
       obtain ⟨xa, xc, hx4, hxi⟩ := d4.ints (by simp [nats]; omega) (by
         intro x hx
         rw [nats_snoc] at hx
         rcases List.mem_append.1 hx with hx | hx
         · exact HIa.out.bd x hx
         · simp at hx; omega)
       rw [hx4] at hbase
       rw [hx4, d6, d7, d9]
       clear hd
       go_wp2_with fail
       refine (sets_any xa _ xc _ _ _ wx).mono ?_
       rintro e w9 ⟨rfl, rfl⟩
       go_wp2_with fail
       have hw9 : Below w'.heap.size w' ((((wx.alloc (.cells #[.slice xa (nats (ahead ++ [k])).length xc] 25)).alloc (.cells #[.int .i64 ((k : Int) + 1)] 3)).alloc (.cells #[.int .i64 (N : Int)] 3)).alloc (.cells #[.int .i64 (c : Int)] 3)) :=
         (((hB.alloc hB.size _).alloc (by have := hB.size; simp; omega) _).alloc (by have := hB.size; simp; omega) _).alloc (by have := hB.size; simp; omega) _
       have hxi9 := hxi.below (w' := ((((wx.alloc (.cells #[.slice xa (nats (ahead ++ [k])).length xc] 25)).alloc (.cells #[.int .i64 ((k : Int) + 1)] 3)).alloc (.cells #[.int .i64 (N : Int)] 3)).alloc (.cells #[.int .i64 (c : Int)] 3))) ((((((Below.refl _ _).alloc (Nat.le_refl _) _).alloc (by simp) _).alloc (by simp; omega) _).alloc (by simp; omega) _)) (Nat.le_refl _)
       have b0 := ((Boxed.new wx 25 (.slice xa (nats (ahead ++ [k])).length xc)).alloc (.cells #[.int .i64 ((k : Int) + 1)] 3)).alloc (.cells #[.int .i64 (N : Int)] 3) |>.alloc (.cells #[.int .i64 (c : Int)] 3)
       have b1 := ((Boxed.new (wx.alloc (.cells #[.slice xa (nats (ahead ++ [k])).length xc] 25)) 3 (.int .i64 ((k : Int) + 1))).alloc (.cells #[.int .i64 (N : Int)] 3)).alloc (.cells #[.int .i64 (c : Int)] 3)
       have b2 := (Boxed.new ((wx.alloc (.cells #[.slice xa (nats (ahead ++ [k])).length xc] 25)).alloc (.cells #[.int .i64 ((k : Int) + 1)] 3)) 3 (.int .i64 (N : Int))).alloc (.cells #[.int .i64 (c : Int)] 3)
       have b3 := Boxed.new (((wx.alloc (.cells #[.slice xa (nats (ahead ++ [k])).length xc] 25)).alloc (.cells #[.int .i64 ((k : Int) + 1)] 3)).alloc (.cells #[.int .i64 (N : Int)] 3)) 3 (.int .i64 (c : Int))
       rw [show (wx.alloc (.cells #[.slice xa (nats (ahead ++ [k])).length xc] 25)).heap.size = wx.heap.size + 1 by simp] at b1
       rw [show ((wx.alloc (.cells #[.slice xa (nats (ahead ++ [k])).length xc] 25)).alloc (.cells #[.int .i64 ((k : Int) + 1)] 3)).heap.size = wx.heap.size + 1 + 1 by simp] at b2
       rw [show (((wx.alloc (.cells #[.slice xa (nats (ahead ++ [k])).length xc] 25)).alloc (.cells #[.int .i64 ((k : Int) + 1)] 3)).alloc (.cells #[.int .i64 (N : Int)] 3)).heap.size = wx.heap.size + 1 + 1 + 1 by simp] at b3
       have hs9 : ((((wx.alloc (.cells #[.slice xa (nats (ahead ++ [k])).length xc] 25)).alloc (.cells #[.int .i64 ((k : Int) + 1)] 3)).alloc (.cells #[.int .i64 (N : Int)] 3)).alloc (.cells #[.int .i64 (c : Int)] 3)).heap.size = wx.heap.size + 4 := by simp
       obtain ⟨W9, hW9⟩ : ∃ W9, W9 = ((((wx.alloc (.cells #[.slice xa (nats (ahead ++ [k])).length xc] 25)).alloc (.cells #[.int .i64 ((k : Int) + 1)] 3)).alloc (.cells #[.int .i64 (N : Int)] 3)).alloc (.cells #[.int .i64 (c : Int)] 3)) := ⟨_, rfl⟩
       rw [← hW9] at hw9 hxi9 b0 b1 b2 b3 hs9 ⊢
       have hbs := hB.size
       clear hW9 hxi d4
       have hlk : (ahead ++ [k]).length + c ≤ 8 := by simp; omega
       have hXo9 : ∀ b, (b = l ∨ X b) → b < W.heap.size := fun b h => h.elim (fun e => by omega) (fun h => by have := hXw _ h; have := hW.size; omega)
       have hseq := IH (k + 1) (ahead ++ [k]) (wx.heap.size + 1 + 1 + 1) wx.heap.size (wx.heap.size + 1) (wx.heap.size + 1 + 1) xa _ xc (fun b => b = l ∨ X b) W9 b3 b0 (by push_cast; exact b1) b2 hxi9 hlk (by omega)
         (fun b h => by have := hXo9 b h; omega) (fun b o e _ h => by have h1 := hbase b (by rw [e]; rfl); have h2 := hXo9 b h; omega)
         (fun h => by have := hXo9 _ h; omega) (fun h => by have := hXo9 _ h; omega) (fun h => by have := hXo9 _ h; omega) (fun h => by have := hXo9 _ h; omega)
       rw [show (ahead ++ [k]).length + c = ahead.length + (c + 1) by simp; omega] at hseq
       have hJ9 := OwnFrom.fresh HJ.out HJY.out hw9
       have hK9 := HKX.out.trans (Kx.below hw9)
       have hM9 := HMK.out.kx (X := fun _ => False) (Kx.below hw9) (fun _ h => h.elim)
       have hpre : setsTo N c start ahead j ++ Way.sets N c (k + 1) (ahead ++ [k]) <+: Way.sets N (c + 1) start ahead := by
         have := setsTo_prefix N c start ahead (show j + 1 ≤ N - c - start by omega)
         rw [setsTo_succ, ← HKK.out, setsTo_all] at this
         exact this
       have HSQ := Lib.hid hseq; clear hseq
       have HPR := Lib.hid hpre; clear hpre
       refine wp_rangeFunc_M (fun x : Sl => [(32, .slice x.a x.n x.c), (7, .slice x.a x.n x.c)]) (lb := #[.pointer (some ⟨wx.heap.size + 1 + 1 + 1, 0, none⟩), .pointer (some ⟨wx.heap.size, 0, none⟩), .pointer (some ⟨wx.heap.size + 1, 0, none⟩), .pointer (some ⟨wx.heap.size + 1 + 1, 0, none⟩)]) rfl
         (enters_of Tryz.func229 (by kernel_rfl) rfl) HSQ.out (fun b h => by have := hXo9 b h; omega) (Below.refl _ _) (fun _ => rfl) (fun x => own_gs _ _ x)
         (fun pre W' => J (ys ++ pre) W' ∧ Kx (fun b => b = l ∨ X b) (W.alloc (.cells #[.func (.yield l) #[] #[]] 128)) W' ∧ Marks W.heap.size ds W') (fun cc pre W' => cc = .ret ∧ Jx (ys ++ pre) W' ∧ Marks W.heap.size ds W')
         (OwnFrom.and (fun s A B row h hg hr => HJ.out (ys ++ s) A B row h hg (fun r e => ⟨by have := (hr r e).1; omega, (hr r e).2⟩)) (OwnFrom.and (ownFrom_kx _ (by omega)) (ownFrom_marks hM9.lt)))
         (fun cc s A B row h hg hr => ⟨h.1, HJx.out (ys ++ s) A B row h.2.1 hg (fun r e => ⟨by have := (hr r e).1; omega, (hr r e).2⟩), ownFrom_marks (β := Unit) hM9.lt () A B row h.2.2 hg hr⟩) ⟨by simpa using hJ9, hK9, hM9⟩ ?assign ?body ?done ?stop
       case assign =>
         intro l' x W5 K hK
         gi_wp2
         exact hK
       case body =>
         rintro l' pre x W5 hG ⟨hJ5, hk5, hm5⟩ hlt5
         have hby5 := hk5.boxed HF.out.2.2.2.1 hyX
         have kby := hby5.cell
         have hlen5 : (ys ++ pre).length < (Way.sets N (c + 1) start ahead).length := by
           have h1 := HPR.out.length_le
           have h2 := congrArg List.length HYS.out
           rw [List.length_map] at h2
           rw [List.length_append] at h1 ⊢
           omega
         obtain ⟨fn, tmps, assign, body, hy, hR⟩ := YieldAt.within l' (YieldAt.deep rfl 7 (HY.out (ys ++ pre) x W5 hG hJ5 hlen5))
         dsimp only [encS] at hy
         simp only [List.foldl_cons, List.foldl_nil, List.setIfInBounds_toArray, List.set_cons_zero, List.set_cons_succ]
         have HJ5 := Lib.hid hJ5; clear hJ5
         have HK5 := Lib.hid hk5; clear hk5
         have HM5 := Lib.hid hm5; clear hm5
         have HG5 := Lib.hid hG; clear hG
         clear hby5
         gi_wp2
         refine hR.mono ?_
         rintro e W6 ⟨(⟨rfl, hJ6⟩ | ⟨rfl, hJ6⟩), hk6⟩
         · have HJ6 := Lib.hid hJ6; clear hJ6
           have HK6 := Lib.hid hk6; clear hk6
           gi_wp2
           exact ⟨HK6.out, by rw [← List.append_assoc]; exact HJ6.out, HK5.out.trans HK6.out, HM5.out.kx' HK6.out fun D hD hx => hx.elim (fun e => by have := HM5.out.at' D hD; omega) (fun hx => by have := hXw _ hx; have := hW.size; have := HM5.out.at' D hD; omega)⟩
         · have HJ6 := Lib.hid hJ6; clear hJ6
           have HK6 := Lib.hid hk6; clear hk6
           gi_wp2
           exact ⟨HK6.out, rfl, by rw [← List.append_assoc]; exact HJ6.out, HM5.out.kx' HK6.out fun D hD hx => hx.elim (fun e => by have := HM5.out.at' D hD; omega) (fun hx => by have := hXw _ hx; have := hW.size; have := HM5.out.at' D hD; omega)⟩
       case done =>
         rintro D xs W5 hD hS ⟨hJ5, hk5, hm5⟩ hK5
         have HJ5 := Lib.hid hJ5; clear hJ5
         have HK5 := Lib.hid hk5; clear hk5
         have HM5 := Lib.hid (hm5.new (D := D) (by omega) hK5 fun D' hD' e => by have := hM9.lt D' hD'; omega); clear hm5 hK5
         have HS5 := Lib.hid hS; clear hS
         go_wp2_with fail
         have hs6 : ((start + (j + 1) : Nat) : Int) = (k : Int) + 1 := by have := HKK.out; omega
         exact HK.out _ _ (Handed.intro (g - 1) (by omega) (HJK.out _ _ _ ⟨j + 1, _, _, ys ++ xs, by omega, rfl, rfl, rfl, rfl, rfl, rfl, by rw [hs6]; rfl, by rw [List.map_append, HYS.out, HS5.out, setsTo_succ, HKK.out], HJ5.out, HK5.out, HM5.out⟩))
       case stop =>
         rintro D c5 pre W5 hD hSp ⟨rfl, hJx5, hm5⟩ hK5
         have HJ5 := Lib.hid hJx5; clear hJx5
         have HM5 := Lib.hid (hm5.new (D := D) (by omega) hK5 fun D' hD' e => by have := hM9.lt D' hD'; omega); clear hm5 hK5
         have HS5 := Lib.hid hSp; clear hSp
         go_wp2_with fail
         refine leaves_marks (B := W.heap.size) (Z := fun _ W' => ∃ pre : List Sl, pre.map (·.l) <+: Way.sets N (c + 1) start ahead ∧ Jx pre W') (fun _ A B row ⟨pre, e, h⟩ hg hr => ⟨pre, e, HJx.out pre A B row h hg hr⟩) (fun W' _ => results_none rfl _ _ W') (fun W' ⟨pre, e, h⟩ => ⟨⟨_, rfl⟩, .inr ⟨pre, e, h⟩⟩) _ _ HM5.out ⟨ys ++ pre, ?_, HJ5.out⟩
         rw [List.map_append, HYS.out]
         exact ((List.prefix_append_right_inj _).2 HS5.out).trans HPR.out
   · have e1 : decide ((k : Int) ≤ (N : Int) - ((c : Int) + 1)) = false := by simp; omega
     go_wp2_with fail
     refine leaves_marks (B := W.heap.size) (Z := fun _ W' => ∃ ys : List Sl, ys.map (·.l) = Way.sets N (c + 1) start ahead ∧ J ys W') (fun _ A B row ⟨pre, e, h⟩ hg hr => ⟨pre, e, HJ.out pre A B row h hg hr⟩) (fun W' _ => results_none rfl _ _ W') (fun W' ⟨pre, e, h⟩ => ⟨⟨_, rfl⟩, .inl ⟨pre, e, h⟩⟩) _ _ HMK.out ⟨ys, ?_, HJY.out⟩
     rw [HYS.out, ← setsTo_all]
     congr 1
     omega

theorem sets_ok (N : Nat) (hN : N ≤ 8) : ∀ c, SetsOk N c
 | 0 => sets_zero N
 | c + 1 => sets_succ N c hN (sets_ok N hN c)
end Go.Proofs.YtkddkkcfpnndlaaGreatDoor
