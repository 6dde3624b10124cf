/- Walks: demands.Of. -/
import Derived.Test.YtkddkkcfpnndlaaGreatDoorOq24
import Derived.Test.YtkddkkcfpnndlaaGreatDoorOq23
import Derived.RegionCalls
import Derived.Maps.AppendAt
namespace Go.Proofs.YtkddkkcfpnndlaaGreatDoor
open Go.RowKit Go.Shelf

attribute [local go_sem] Oper.semAt_some

def dStep (s : List Nat × Int) (x : Gn) : List Nat × Int := if s.2 < x.d then ([x.k], x.d) else if x.d = s.2 then (s.1 ++ [x.k], s.2) else s
def dState (pre : List Gn) : List Nat × Int := pre.foldl dStep ([], 0)
theorem dState_snoc (pre : List Gn) (x : Gn) : dState (pre ++ [x]) = dStep (dState pre) x := by simp [dState]
theorem dState_len : ∀ pre : List Gn, (dState pre).1.length ≤ pre.length := by
 have key : ∀ (pre : List Gn) (s : List Nat × Int), (pre.foldl dStep s).1.length ≤ s.1.length + pre.length := by
   intro pre
   induction pre with
   | nil => intro s; simp
   | cons x pre ih =>
     intro s
     refine Nat.le_trans (ih (dStep s x)) ?_
     have : (dStep s x).1.length ≤ s.1.length + 1 := by
       unfold dStep
       split
       · simp
       · split
         · simp
         · simp
     simp; omega
 intro pre
 have := key pre ([], 0)
 unfold dState
 simpa using this
def demOf (bid prices : List Int) : List Nat × Int := dState (gainsTo bid prices bid.length)

structure Of3 (W : World) (h : Nat) (v : Value) (b : Bool) (g : Int) : Prop where
 b4 : Boxed W h 25 v
 b5 : Boxed W (h + 1) 4 (.bool b)
 b6 : Boxed W (h + 1 + 1) 3 (.int .i64 g)
theorem Of3.step {W W' : World} {h : Nat} {v : Value} {b : Bool} {g : Int} (hA : Of3 W h v b g) (hb : Below W.heap.size W W') : Of3 W' h v b g := ⟨boxed_on hA.b4 hb, boxed_on hA.b5 hb, boxed_on hA.b6 hb⟩
theorem of3_own {β : Type} (B h : Nat) (v : Value) (b : Bool) (g : Int) : OwnFrom B (fun (_ : β) W => Of3 W h v b g) := fun _ A C row hs hg hr =>
 ⟨boxed_own h 25 (fun _ : Unit => v) () A C row hs.b4 hg (fun r e => (hr r e).2), boxed_own _ 4 (fun _ : Unit => .bool b) () A C row hs.b5 hg (fun r e => (hr r e).2), boxed_own _ 3 (fun _ : Unit => .int .i64 g) () A C row hs.b6 hg (fun r e => (hr r e).2)⟩
def of0 (w : World) : World := ((w.alloc (.cells #[.slice none 0 0] 25)).alloc (.cells #[.bool false] 4)).alloc (.cells #[.int .i64 0] 3)
theorem of0_at (w : World) : Of3 (of0 w) w.heap.size (.slice none 0 0) false 0 ∧ Below w.heap.size w (of0 w) :=
 ⟨⟨((boxed_new w _ rfl _ _).alloc _).alloc _, (boxed_new _ _ (by simp) _ _).alloc _, boxed_new _ _ (by simp) _ _⟩, (((Below.refl _ _).alloc (Nat.le_refl _) _).alloc (by simp) _).alloc (by simp; omega) _⟩

theorem of3_items {W : World} {h : Nat} {v : Value} {b : Bool} {g : Int} (hA : Of3 W h v b g) (v' : Value) : Of3 (W.setCell ⟨h, 0, none⟩ v') h v' b g := ⟨hA.b4.set v', hA.b5.other (by omega) _, hA.b6.other (by omega) _⟩
theorem of3_gain {W : World} {h : Nat} {v : Value} {b : Bool} {g : Int} (hA : Of3 W h v b g) (g' : Int) : Of3 (W.setCell ⟨h + 1 + 1, 0, none⟩ (.int .i64 g')) h v b g' := ⟨hA.b4.other (by omega) _, hA.b5.other (by omega) _, hA.b6.set _⟩
theorem of3_none {W : World} {h : Nat} {v : Value} {b : Bool} {g : Int} (hA : Of3 W h v b g) (b' : Bool) : Of3 (W.setCell ⟨h + 1, 0, none⟩ (.bool b')) h v b' g := ⟨hA.b4.other (by omega) _, hA.b5.set _, hA.b6.other (by omega) _⟩

theorem of3_drew {W : World} {h : Nat} {v : Value} {b : Bool} {g : Int} (hA : Of3 W h v b g) : Of3 W.drew h v b g := ⟨hA.b4, hA.b5, hA.b6⟩
theorem ofDone_any (h : Nat) (a : Option Addr) (n c : Nat) (b : Bool) (g : Int) (xs : List Int) (W : World) (hO : Of3 W h (.slice a n c) b g) (hi : Ints W a n c xs) (_hs : h + 1 + 1 < W.heap.size) (hfar : ∀ k o, a = some ⟨k, o, none⟩ → h + 1 + 1 < k) (u : FrameMode) (m : Nat) :
   CallsDIn Fence.wide m Tryz.prog 224 #[.pointer (some ⟨h, 0, none⟩), .pointer (some ⟨h + 1 + 1, 0, none⟩), .pointer (some ⟨h + 1, 0, none⟩)] u W fun e u' W' => u' = u ∧ (∃ v, e = .returned v) ∧ (Of3 W' h (.slice a n n) (g == 0) g ∧ Ints W' a n n xs) ∧ Below h W W' := by
 refine callsDIn_of_wp Tryz.func224 rfl trivial ?_ rfl
 refine wpIn_wide.2 ?_
 simp only [Tryz.ntmps224, List.size_toArray, List.length_cons, List.length_nil, Nat.reduceAdd, Nat.reduceSub, Array.replicate_succ, Array.replicate_zero, List.push_toArray, List.append_toArray, List.nil_append, List.cons_append]
 have c4 := hO.b4.cell
 have c6 := hO.b6.cell
 have c5 := hO.b5.cell
 have f4 := hO.b4.frozen
 have f5 := hO.b5.frozen
 have HO := Lib.hid (And.intro hO hi); clear hO hi
 have HFAR := Lib.hid hfar; clear hfar
 have HCL := Lib.hid (fun W => clip_any a n c W HO.out.2.cap)
 go_wp2_with fail
 go_region_with (go_at_call 98; refine (HCL.out _).mono ?_; rintro e w' ⟨rfl, rfl⟩)
 all_goals
   go_end0
   exact ⟨⟨_, rfl⟩, ⟨of3_drew (of3_none (of3_items HO.out.1 _) _), ((HO.out.2.clip.away (fun k o e => by have := HFAR.out k o e; show k ≠ h; omega) _).away (fun k o e => by have := HFAR.out k o e; show k ≠ h + 1; omega) _).drew⟩, (((Below.refl h W).setCell (p := ⟨h, 0, none⟩) (by simp) _).setCell (p := ⟨h + 1, 0, none⟩) (by simp) _).drew⟩

theorem own_kept {w w' : World} {base : Nat} {v : Value} {xs : List Int} {row : Option Nat} (h : Own w base v xs) (hg : w.grownBy w' row) (hr : ∀ r, row = some r → ∃ o : Obj, w.heap[r]? = some o ∧ o.isCells = false) : Own w' base v xs := by
 refine World.ownsRow.kept h hg ?_
 rcases h.2 with ⟨e, _⟩ | ⟨g, cap, cur, e, _, hh, _⟩
 · left; rw [e]; rfl
 · right
   rw [e]
   intro e2
   obtain ⟨o, ho, hc⟩ := hr g e2.symm
   rw [hh] at ho; cases ho; cases hc
theorem of_results {h : Nat} {v : Value} {b : Bool} {g : Int} {tmps : Array Value} (t4 : tmps[4]?.getD undef = .pointer (some ⟨h, 0, none⟩)) (t5 : tmps[5]?.getD undef = .pointer (some ⟨h + 1, 0, none⟩)) (t6 : tmps[6]?.getD undef = .pointer (some ⟨h + 1 + 1, 0, none⟩)) (t7 : tmps[7]?.getD undef = .int .i64 0) (W : World) (hO : Of3 W h v b g) :
   (results Tryz.f212 tmps).run Tryz.prog W = .ok (.tuple #[v, .bool b, .int .i64 g, .int .i64 0]) W := by
 have c4 := hO.b4.cell
 have c5 := hO.b5.cell
 have c6 := hO.b6.cell
 simp [results, Tryz.results212, go_sem, t4, t5, t6, t7, c4, c5, c6]

def OfRes (bid prices : List Int) (w : World) (e : Ending) (w' : World) : Prop := ∃ a m, e = .returned (.tuple #[.slice a m m, .bool ((demOf bid prices).2 == 0), .int .i64 (demOf bid prices).2, .int .i64 0]) ∧ Ints w' a m m (nats (demOf bid prices).1) ∧ (∀ b o, a = some ⟨b, o, none⟩ → w.heap.size ≤ b) ∧ Below w.heap.size w w'

theorem appIn1 {F : Fence} {nF : Nat} {ops : Array Oper} {rest : List Oper} {o : Oper} {a : Act} {Q : Exit → Act → World → Prop} (w : World) (hgd : o.guard = none) (s x : Operand)
   (ho : o.op = .call { callee := .builtin .append, args := #[s, x], argTypes := #[25, 25] })
   (base : Nat) (v : Value) (xs : List Int) (hs : a.eval s = v) (hown : Own w base v xs) (b off c : Nat) (y : Int) (hx : a.eval x = .slice (some ⟨b, off, none⟩) 1 c)
   (hc : w.cell? ⟨b, off, none⟩ = some (.int .i64 y)) (hlen : xs.length < 17592186044000) (hbase : base ≤ w.heap.size)
   (h : ∀ g cap w', Own w' base (.slice (some ⟨g, 0, none⟩) (xs.length + 1) cap) (xs ++ [y]) → base ≤ g → w.grownBy w' v.ownBlock → wpListIn F nF Tryz.prog ops Q rest (a.put o.dst (.slice (some ⟨g, 0, none⟩) (xs.length + 1) cap)) w') : wpListIn F nF Tryz.prog ops Q (o :: rest) a w := by
 obtain ⟨i0, hi, hz0, hz1, hz2⟩ := info_parts infoInt
 refine wpListIn_append_own w hgd s x _ ho base 3 i0 _ 1 8 Tryz.underlying25 hi hz0 hz1 hz2 rfl (by decide) v xs.length _ hs hown ⟨b, off, none⟩ 1 c [.int .i64 y] hx rfl ?_ ?_ ?_ ?_ hbase ?_
 · intro j u hu
   cases j with
   | zero => simp at hu; subst hu; simpa [Addr.add] using hc
   | succ j => simp at hu
 · intro u hu; simp at hu; subst hu; rfl
 · unfold maxLen; omega
 · omega
 · intro v' w' hown' hg hnil
   have hne : v' ≠ .slice none 0 0 := fun e => by have := (hnil.1 e).2; omega
   rcases hown'.2 with ⟨e, _⟩ | ⟨g, cap, cur, hv, hbg, r⟩
   · exact absurd e hne
   · subst hv
     refine h g cap w' ?_ hbg hg
     unfold Own
     simpa using hown'
theorem Kx.grown {X : Nat → Prop} {W W' : World} {row : Option Nat} (h : W.grownBy W' row) (hr : ∀ k, row = some k → X k) : Kx X W W' :=
 ⟨h.size, fun b _o hb hx => (h.block b (Array.getElem?_eq_some_iff.1 hb).1 (fun e => hx (hr b e.symm))).trans hb⟩
theorem boxed_kept {W W' : World} {B : Nat} {t : TypeId} {v : Value} {row : Option Nat} (h : Boxed W B t v) (hg : W.grownBy W' row) (hr : row ≠ some B) : Boxed W' B t v := by
 exact (hg.block B h.lt (fun e => hr e.symm)).trans h
theorem of3_kept {W W' : World} {h : Nat} {v : Value} {b : Bool} {g : Int} {row : Option Nat} (hA : Of3 W h v b g) (hg : W.grownBy W' row) (hr : ∀ k, row = some k → h + 1 + 1 < k) : Of3 W' h v b g :=
 ⟨boxed_kept hA.b4 hg (fun e => by have := hr _ e; omega), boxed_kept hA.b5 hg (fun e => by have := hr _ e; omega), boxed_kept hA.b6 hg (fun e => by have := hr _ e; omega)⟩

theorem own_lit {W : World} {base : Nat} {v : Value} {xs : List Int} (h : Own W base v xs) : ∃ a c, v = .slice a xs.length c := by
 obtain ⟨h1, h2⟩ := h
 rcases h2 with ⟨hv, hn⟩ | ⟨g, cap, cur, hv, _⟩
 · exact ⟨none, 0, by rw [hv, hn]⟩
 · exact ⟨_, cap, hv⟩
theorem dState_mem : ∀ pre : List Gn, ∀ k, k ∈ (dState pre).1 → ∃ x, x ∈ pre ∧ x.k = k := by
 have key : ∀ (pre all : List Gn) (s : List Nat × Int), (∀ x, x ∈ pre → x ∈ all) → (∀ k, k ∈ s.1 → ∃ x, x ∈ all ∧ x.k = k) → ∀ k, k ∈ (pre.foldl dStep s).1 → ∃ x, x ∈ all ∧ x.k = k := by
   intro pre all
   induction pre with
   | nil => intro s _ h k hk; exact h k hk
   | cons x pre ih =>
     intro s hp h
     refine ih (dStep s x) (fun y hy => hp y (List.mem_cons_of_mem _ hy)) ?_
     intro k hk
     unfold dStep at hk
     split at hk
     · simp at hk; exact ⟨x, hp x List.mem_cons_self, hk.symm⟩
     · split at hk
       · simp at hk
         rcases hk with hk | hk
         · exact h k hk
         · exact ⟨x, hp x List.mem_cons_self, hk.symm⟩
       · exact h k hk
 intro pre k hk
 exact key pre pre ([], 0) (fun _ h => h) (fun k hk => by cases hk) k hk
theorem demOf_lt {bid prices : List Int} {k : Nat} (h : k ∈ (demOf bid prices).1) : k < bid.length := by
 obtain ⟨x, hx, rfl⟩ := dState_mem _ k h
 unfold gainsTo at hx
 obtain ⟨i, hi, rfl⟩ := List.mem_map.1 hx
 simpa using hi
theorem demOf_len (bid prices : List Int) : (demOf bid prices).1.length ≤ bid.length := by
 have := dState_len (gainsTo bid prices bid.length)
 rw [gainsTo_length] at this
 exact this
theorem of_leaves (bid prices : List Int) (w W : World) (a : Option Addr) (c D : Nat) (tmps : Array Value)
   (t4 : tmps[4]?.getD undef = .pointer (some ⟨w.heap.size, 0, none⟩)) (t5 : tmps[5]?.getD undef = .pointer (some ⟨w.heap.size + 1, 0, none⟩)) (t6 : tmps[6]?.getD undef = .pointer (some ⟨w.heap.size + 1 + 1, 0, none⟩)) (t7 : tmps[7]?.getD undef = .int .i64 0)
   (hO : Of3 W w.heap.size (.slice a (nats (demOf bid prices).1).length c) false (demOf bid prices).2) (hi : Ints W a (nats (demOf bid prices).1).length c (nats (demOf bid prices).1)) (hK : W.heap[D]? = some (.deferred (some []))) (hB : Below w.heap.size w W) (hD : w.heap.size + 1 + 1 < D) (hfar : ∀ k o, a = some ⟨k, o, none⟩ → w.heap.size + 1 + 1 < k ∧ k ≠ D) :
   LeavesInM Fence.wide 9 Tryz.prog Tryz.f212 tmps (OfRes bid prices w) [{ target := .collected D, args := #[] }, { target := .fn (.func 224) #[.pointer (some ⟨w.heap.size, 0, none⟩), .pointer (some ⟨w.heap.size + 1 + 1, 0, none⟩), .pointer (some ⟨w.heap.size + 1, 0, none⟩)], args := #[] }] .returning W := by
 have hlt := hO.b6.lt
 have hDl := (Array.getElem?_eq_some_iff.1 hK).1
 refine ⟨by simp, .inl ⟨D, _, rfl, run_takeDeferred hK, by simp, .inr ⟨fun _ => by omega, .func 224, #[.pointer (some ⟨w.heap.size, 0, none⟩), .pointer (some ⟨w.heap.size + 1 + 1, 0, none⟩), .pointer (some ⟨w.heap.size + 1, 0, none⟩)], 224, #[.pointer (some ⟨w.heap.size, 0, none⟩), .pointer (some ⟨w.heap.size + 1 + 1, 0, none⟩), .pointer (some ⟨w.heap.size + 1, 0, none⟩)], rfl, ?_, fun _ _ => trivial, ?_⟩⟩⟩
 · simp [invoke, go_sem]
 have hO2 : Of3 (W.putObj D (.deferred none)) w.heap.size (.slice a (nats (demOf bid prices).1).length c) false (demOf bid prices).2 :=
   of3_own 0 _ _ _ _ () _ _ _ hO (grownBy_putObj' W D _) (fun r e => by cases e; exact ⟨Nat.zero_le _, _, hK, rfl⟩)
 have hI2 : Ints (W.putObj D (.deferred none)) a (nats (demOf bid prices).1).length c (nats (demOf bid prices).1) :=
   own_ints 0 _ _ _ _ () _ _ _ hi (grownBy_putObj' W D _) (fun r e => by cases e; exact ⟨Nat.zero_le _, _, hK, rfl⟩)
 have hB2 : Below w.heap.size w (W.putObj D (.deferred none)) := ownFrom_below (β := Unit) (Nat.le_refl w.heap.size) (Nat.le_refl w.heap.size) () _ _ _ hB (grownBy_putObj' W D _) (fun r e => by cases e; exact ⟨by omega, _, hK, rfl⟩)
 refine (ofDone_any w.heap.size a _ c false (demOf bid prices).2 (nats (demOf bid prices).1) _ hO2 hI2 hO2.b6.lt (fun k o e => (hfar k o e).1) .returning _).mono ?_
 rintro e u' W' ⟨rfl, ⟨v, rfl⟩, ⟨hO3, hI3⟩, hb3⟩
 refine ⟨_, of_results t4 t5 t6 t7 W' hO3, a, _, rfl, hI3, fun b o e => by have := (hfar b o e).1; omega, hB2.trans hb3⟩

structure Stop (p : Prop) : Prop where
 go : p
theorem stop_ {p : Prop} (h : Stop p) : p := h.go
theorem own_one (W : World) (base : Nat) (x : Int) (hb : base ≤ W.heap.size) : Own (W.alloc (.cells #[.int .i64 x] 3)) base (.slice (some ⟨W.heap.size, 0, none⟩) 1 1) [x] :=
 ⟨rfl, .inr ⟨W.heap.size, 1, _, rfl, hb, heap_alloc_new W _, Nat.le_refl _, by unfold maxLen; omega, rfl, rfl⟩⟩
theorem own_far {w : World} {base : Nat} {v : Value} {xs : List Int} (h : Own w base v xs) {a : Addr} (ha : a.block < base) (u : Value) : Own (w.setCell a u) base v xs := Own.other h ha u

set_option maxRecDepth 100000 in
set_option maxHeartbeats 4000000 in
theorem Of_yes (ba pa : Option Addr) (bn bc pn pc : Nat) (bid prices : List Int) (w : World) (hb : Ints w ba bn bc bid) (hp : Ints w pa pn pc prices) (h1 : 1 ≤ pn) (h8 : pn ≤ 8) (hpp : ∀ x, x ∈ prices → 0 ≤ x ∧ x ≤ 2000000)
   (hbid : bid = [] ∨ (bid.length = pn ∧ ∀ x, x ∈ bid → 0 ≤ x ∧ x ≤ 1000000)) :
   Calls Tryz.prog 212 #[.slice ba bn bc, .slice pa pn pc] w (OfRes bid prices w) := by
 obtain ⟨hO0, hB0⟩ := of0_at w
 have hbl := hb.len
 have hM := may_yes pa pn pc prices (of0 w) (hp.below hB0 (Nat.le_refl _)) h1 h8 hpp
 have hbn : bn ≤ pn := by
   rcases hbid with h | ⟨h, _⟩
   · rw [h] at hbl; simp at hbl; omega
   · omega
 have hbb : ∀ x, x ∈ bid → 0 ≤ x ∧ x ≤ 1000000 := by
   rcases hbid with h | ⟨_, h⟩
   · rw [h]; intro x hx; cases hx
   · exact h
 have hvc : 0 < bn → vcheck bid (pn : Int) = true := fun h0 => by
   rcases hbid with h | ⟨h, hx⟩
   · rw [h] at hbl; simp at hbl; omega
   · simp only [vcheck, within, Bool.and_eq_true, decide_eq_true_eq, List.all_eq_true]
     exact ⟨⟨by omega, by omega⟩, fun x hm => by have := hx x hm; omega⟩
 have HM := Lib.hid hM; clear hM
 have HIN := Lib.hid (And.intro hb (And.intro hp (And.intro hpp hbb))); clear hb hp hbid hpp hbb
 have HO0 := Lib.hid (And.intro hO0 hB0); clear hO0 hB0
 have HVC := Lib.hid hvc; clear hvc
 have HBL := Lib.hid hbl; clear hbl
 refine calls_marks 9 Tryz.func212 rfl ?_
 simp only [Tryz.ntmps212, List.size_toArray, List.length_cons, List.length_nil, Nat.reduceAdd, Nat.reduceSub, Array.replicate_succ, Array.replicate_zero, List.push_toArray, List.append_toArray, List.nil_append, List.cons_append]
 go_wp2_with fail
 refine HM.out.mono ?_
 rintro e w1 ⟨rfl, hb1⟩
 have HO1 := Lib.hid (And.intro (HO0.out.1.step hb1) (HO0.out.2.trans (hb1.mono HO0.out.2.size))); clear hb1 HM HO0
 by_cases h0 : 0 < bn
 case' pos =>
   have e1 : decide (0 < (bn : Int)) = true := by simp; omega
   have HV := Lib.hid (vcheck_any ba bn bc bid (pn : Int) w1 (HIN.out.1.below HO1.out.2 (Nat.le_refl _)) (by omega))
   go_wp2_with fail
   refine HV.out.mono ?_
   rw [HVC.out h0]
   rintro e w2 ⟨rfl, hb2⟩
   have HO2 := Lib.hid (And.intro (HO1.out.1.step hb2) (HO1.out.2.trans (hb2.mono HO1.out.2.size))); clear hb2 HV HO1
   go_wp2_with fail
 case' neg =>
   have e1 : decide (0 < (bn : Int)) = false := by simp; omega
   have HO2 := HO1
   obtain ⟨w2, hw2⟩ : ∃ w2, w2 = w1 := ⟨_, rfl⟩
   rw [← hw2] at HO2 ⊢
   clear hw2 HO1
   go_wp2_with fail
 all_goals
   refine (gains_fn ba pa bn bc pn pc w2).mono ?_
   rintro e w3 ⟨rfl, rfl⟩
   have hb9 : Below w2.heap.size w2 ((w2.alloc (.cells #[.slice ba bn bc] 25)).alloc (.cells #[.slice pa pn pc] 25)) := ((Below.refl _ _).alloc (Nat.le_refl _) _).alloc (by simp) _
   have b1 : Boxed ((w2.alloc (.cells #[.slice ba bn bc] 25)).alloc (.cells #[.slice pa pn pc] 25)) w2.heap.size 25 (.slice ba bn bc) := (boxed_new w2 _ rfl _ _).alloc _
   have b2 : Boxed ((w2.alloc (.cells #[.slice ba bn bc] 25)).alloc (.cells #[.slice pa pn pc] 25)) (w2.heap.size + 1) 25 (.slice pa pn pc) := boxed_new _ _ (by simp) _ _
   have hs9 : ((w2.alloc (.cells #[.slice ba bn bc] 25)).alloc (.cells #[.slice pa pn pc] 25)).heap.size = w2.heap.size + 2 := by simp
   obtain ⟨W9, hW9⟩ : ∃ W9, W9 = (w2.alloc (.cells #[.slice ba bn bc] 25)).alloc (.cells #[.slice pa pn pc] 25) := ⟨_, rfl⟩
   go_wp2_with fail
   rw [← hW9] at hb9 b1 b2 hs9 ⊢
   clear hW9
   have hO9 := HO2.out.1.step hb9
   have hB9 := HO2.out.2.trans (hb9.mono HO2.out.2.size)
   have h6 := HO2.out.1.b6.lt
   have hold : ∀ (a : Option Addr) (n c : Nat) (xs : List Int), Ints w a n c xs → ∀ b o, a = some ⟨b, o, none⟩ → 0 < n → ¬ (b = w.heap.size ∨ b = w.heap.size + 1 + 1 ∨ W9.heap.size + 1 < b) := fun a n c xs hi b o e h => by
     obtain ⟨x, hx, _⟩ := hi.get h
     have := block_lt_of_cell (hi.cell b o e 0 x hx)
     simp at this; omega
   have hseq := gains_seq w2.heap.size (w2.heap.size + 1) ba pa bn bc pn pc bid prices (fun b => b = w.heap.size ∨ b = w.heap.size + 1 + 1 ∨ W9.heap.size + 1 < b) W9 b1 b2 (HIN.out.1.below hB9 (Nat.le_refl _)) (HIN.out.2.1.below hB9 (Nat.le_refl _)) hbn (by omega) HIN.out.2.2.2 HIN.out.2.2.1
     (by omega) (by omega) (hold ba bn bc bid HIN.out.1) (hold pa pn pc prices HIN.out.2.1)
   have hs8 : w2.heap.size + 1 < W9.heap.size := by omega
   clear hs9
   have HSQ := Lib.hid hseq; clear hseq hold b1 b2
   refine wp_rangeFunc_M2 (fun x : Gn => [(31, .int .i64 x.k), (32, .int .i64 x.d), (8, .int .i64 x.k), (9, .int .i64 x.d)]) (lb := #[.pointer (some ⟨w2.heap.size, 0, none⟩), .pointer (some ⟨w2.heap.size + 1, 0, none⟩)]) rfl
     (enters_of Tryz.func235 (by kernel_rfl) rfl) HSQ.out (fun b h => by omega) (Below.refl _ _) (fun _ => rfl) (fun x => ownFrom_pure _ _)
     (fun pre W' => (∃ v, Of3 W' w.heap.size v false (dState pre).2 ∧ Own W' (W9.heap.size + 2) v (nats (dState pre).1)) ∧ Below w.heap.size w W') (fun _ _ _ => False) ?hI (fun _ _ _ _ _ h _ _ => h) ⟨⟨_, hO9, Own.nil _ _⟩, hB9⟩ ?assign ?body ?done (fun _ _ _ _ _ _ h => h.elim)
   case hI =>
     rintro s A B row ⟨⟨v, h3, h4⟩, h5⟩ hg hr
     exact ⟨⟨v, of3_own _ _ _ _ _ () A B row h3 hg hr, own_kept h4 hg (fun r e => (hr r e).2)⟩, ownFrom_below (β := Unit) (Nat.le_refl _) (by have := hB9.size; omega) () A B row h5 hg hr⟩
   case assign =>
     intro l x W K hK
     gi_wp2
     exact hK
   case body =>
     rintro l pre x W hW9 ⟨gx1, gx2, gx3⟩ ⟨⟨v, hO, hOwn⟩, hB⟩ hlt
     first
     | (exfalso; omega)
     | (
           have c4 := hO.b4.cell
           have c6 := hO.b6.cell
           have f4 := hO.b4.frozen
           have f6 := hO.b6.frozen
           have z6 := hO.b6.lt
           have hds := dState_snoc pre x
           have hdl := dState_len pre
           simp only [List.foldl_cons, List.foldl_nil, List.setIfInBounds_toArray, List.set_cons_zero, List.set_cons_succ]
           obtain ⟨L, g, hst⟩ : ∃ L g, dState pre = (L, g) := ⟨_, _, rfl⟩
           rw [hst] at hO hOwn hds hdl c6
           have hdl : L.length ≤ pre.length := hdl
           have HDS := Lib.hid hds; clear hds hst
           obtain ⟨va, vc, rfl⟩ := own_lit hOwn
           have HO := Lib.hid hO; clear hO
           have HOW := Lib.hid hOwn; clear hOwn
           have HB := Lib.hid hB; clear hB
           by_cases hgt : g < x.d
           · have e2 : decide (g < x.d) = true := by simpa using hgt
             have hn : dStep (L, g) x = ([x.k], x.d) := by unfold dStep; rw [if_pos hgt]
             rw [hn] at HDS
             clear hgt hn
             have hal : Below W.heap.size W (W.alloc (.cells #[.int .i64 (x.k : Int)] 3)) := (Below.refl _ _).alloc (Nat.le_refl _) _
             have hOa := HO.out.step hal
             have c4a := hOa.b4.cell
             have f4a := hOa.b4.frozen
             have c6a := hOa.b6.cell
             have f6a := hOa.b6.frozen
             have HAL := Lib.hid hal; clear hal hOa
             gi_wp2
             have hal := HAL.out
             refine ⟨((Kx.below hal).trans (Kx.setCell (.inl rfl) _)).trans (Kx.setCell (.inr (.inl rfl)) _), ⟨.slice (some ⟨W.heap.size, 0, none⟩) 1 1, ?_, ?_⟩, ?_⟩
             · rw [HDS.out]; exact of3_gain (of3_items (HO.out.step hal) _) _
             · rw [HDS.out]
               exact own_far (own_far (own_one W _ (x.k : Int) (by omega)) (by show w.heap.size < W9.heap.size + 2; omega) _) (by show w.heap.size + 1 + 1 < W9.heap.size + 2; omega) _
             · exact ((HB.out.alloc HB.out.size _).setCell (p := ⟨w.heap.size, 0, none⟩) (by simp) _).setCell (p := ⟨w.heap.size + 1 + 1, 0, none⟩) (by simp; omega) _
           · have e2 : decide (g < x.d) = false := by simpa using hgt
             by_cases heq : x.d = g
             · have e3 : (x.d == g) = true := by simpa using heq
               have hn : dStep (L, g) x = (L ++ [x.k], g) := by unfold dStep; rw [if_neg hgt, if_pos heq]
               rw [hn] at HDS
               clear hgt hn heq
               have hOa := HO.out.step ((Below.refl W.heap.size W).alloc (Nat.le_refl _) (.cells #[.int .i64 (x.k : Int)] 3))
               have c4a := hOa.b4.cell
               have HOA := Lib.hid hOa; clear hOa
               have hoa : Own (W.alloc (.cells #[.int .i64 (x.k : Int)] 3)) (W9.heap.size + 2) (.slice va (nats L).length vc) (nats L) := HOW.out.alloc _
               have HRW := Lib.hid (fun k hk => hoa.base k hk)
               have HWA := Lib.hid hoa; clear hoa
               gi_wp2_with (gi_at_builtin; refine stop_ ?_)
               refine ⟨?_⟩
               refine appIn1 _ rfl _ _ rfl (W9.heap.size + 2) _ _ rfl HWA.out W.heap.size 0 1 (x.k : Int) rfl (by simp) (by simp [nats]; omega) (by simp; omega) ?_
               intro g' cap' w1 hown' hbg hgrow
               have hv1 := of3_kept HOA.out hgrow (fun k hk => by have := HRW.out k hk; omega)
               have hc1 := hv1.b4.cell
               have hf1 := hv1.b4.frozen
               have HGR := Lib.hid (And.intro hown' (And.intro hgrow hv1)); clear hown' hgrow hv1
               gi_wp2
               have hal : Below W.heap.size W (W.alloc (.cells #[.int .i64 (x.k : Int)] 3)) := (Below.refl _ _).alloc (Nat.le_refl _) _
               have hrw : ∀ k, (Value.slice va (nats L).length vc).ownBlock = some k → W9.heap.size + 2 ≤ k := HRW.out
               refine ⟨((Kx.below hal).trans (Kx.grown HGR.out.2.1 (fun k hk => .inr (.inr (by have := hrw k hk; omega))))).trans (Kx.setCell (.inl rfl) _), ⟨_, by rw [HDS.out]; exact of3_items HGR.out.2.2 _, ?_⟩, ?_⟩
               · rw [HDS.out, show nats (L ++ [x.k], g).1 = nats L ++ [(x.k : Int)] from by simp [nats]]
                 exact own_far HGR.out.1 (by show w.heap.size < W9.heap.size + 2; omega) _
               · exact ((HB.out.alloc HB.out.size _).grown HGR.out.2.1 (by simp; omega) (fun k hk => by have := hrw k hk; omega)).setCell (p := ⟨w.heap.size, 0, none⟩) (by simp) _
             · have e3 : (x.d == g) = false := by simpa using heq
               have hn : dStep (L, g) x = (L, g) := by unfold dStep; rw [if_neg hgt, if_neg heq]
               rw [hn] at HDS
               clear hgt hn heq
               gi_wp2
               exact ⟨Kx.refl _ _, ⟨_, by rw [HDS.out]; exact HO.out, by rw [HDS.out]; exact HOW.out⟩, HB.out⟩)
   case done =>
     rintro D xs W hD hS ⟨⟨v, hO, hOwn⟩, hB⟩ hK
     have hfin : dState xs = demOf bid prices := by rw [hS]; unfold demOf; rw [HBL.out]
     rw [hfin] at hO hOwn
     have hb9' := HBL.out
     obtain ⟨va, vc, rfl, hI⟩ := hOwn.ints (by have := demOf_len bid prices; simp [nats]; omega) (fun y hy => by obtain ⟨k, hk, rfl⟩ := List.mem_map.1 hy; have := demOf_lt hk; constructor <;> omega)
     have hfar : ∀ k o, va = some ⟨k, o, none⟩ → w.heap.size + 1 + 1 < k ∧ k ≠ D := fun k o e => by
       have h2 := hOwn.base k (by rw [e]; rfl)
       refine ⟨by omega, fun e2 => ?_⟩
       rcases hOwn.2 with ⟨e3, _⟩ | ⟨g, cap, cur, e3, _, hh, _⟩
       · rw [e] at e3; cases e3
       · rw [e] at e3; cases e3
         rw [e2, hK] at hh; cases hh
     have c4 := hO.b4.cell
     have c5 := hO.b5.cell
     have c6 := hO.b6.cell
     have f4 := hO.b4.frozen
     have f5 := hO.b5.frozen
     have f6 := hO.b6.frozen
     have HO := Lib.hid (And.intro hO (And.intro hI (And.intro hB (And.intro hK hfar)))); clear hO hI hB hK hfar hOwn hfin hS hb9'
     have hDD : w.heap.size + 1 + 1 < D := by omega
     go_wp2_with fail
     go_region
     all_goals
       go_wp2_with fail
       have hO3 := of3_drew (of3_gain (of3_none (of3_items HO.out.1 (.slice va (nats (demOf bid prices).1).length vc)) false) (demOf bid prices).2)
       refine of_leaves bid prices w _ va vc D _ rfl rfl rfl rfl hO3 ?_ ?_ ?_ hDD HO.out.2.2.2.2
       · exact (((HO.out.2.1.away (fun k o e => by have := (HO.out.2.2.2.2 k o e).1; show k ≠ w.heap.size; omega) _).away (fun k o e => by have := (HO.out.2.2.2.2 k o e).1; show k ≠ w.heap.size + 1; omega) _).away (fun k o e => by have := (HO.out.2.2.2.2 k o e).1; show k ≠ w.heap.size + 1 + 1; omega) _).drew
       · exact (((Kx.setCell (X := fun b => b ≠ D) (by show w.heap.size ≠ D; omega) _).trans (Kx.setCell (by show w.heap.size + 1 ≠ D; omega) _)).trans (Kx.setCell (by show w.heap.size + 1 + 1 ≠ D; omega) _)).same D _ HO.out.2.2.2.1 (fun h => h rfl)
       · exact (((HO.out.2.2.1.setCell (p := ⟨w.heap.size, 0, none⟩) (by simp) _).setCell (p := ⟨w.heap.size + 1, 0, none⟩) (by simp) _).setCell (p := ⟨w.heap.size + 1 + 1, 0, none⟩) (by simp; omega) _).drew
end Go.Proofs.YtkddkkcfpnndlaaGreatDoor
