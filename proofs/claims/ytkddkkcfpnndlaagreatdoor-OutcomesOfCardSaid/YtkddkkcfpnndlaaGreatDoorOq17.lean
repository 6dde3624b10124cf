/- A range over a function in an open walk: the statement's rule, and a function's return behind it. A range over a function whose elements are read in memory: an iterator's contract tells the round what it hands over; what a round that goes on keeps; a function that leaves with many marks. No program in sight. -/
import Derived.Test.YtkddkkcfpnndlaaGreatDoorOq09
import Derived.RangeFuncNested
import Derived.RangeFuncBound
import Derived.RangeFuncCalls
import Derived.RangeFuncLeaves
import Derived.RangeFuncBox
import Derived.Shelf.Abstract
import Derived.Shelf.RegionOpen
import Derived.Maps.AppendAt
import Derived.OwnWalkIn
import Derived.TacticsInMore
import Derived.LoopNIn
import Derived.LoopIn
import Derived.Sort.LoopGhostIn
namespace Go.Proofs.YtkddkkcfpnndlaaGreatDoor
open Go.RowKit Go.Shelf

theorem calls_marks {P : Program} {f : FuncId} {fn : Func} {c : Code} {args : Array Value} {w : World} {R : Ending → World → Prop} (n : Nat)
   (hf : P.funcs[f]? = some fn) (hb : fn.body = some c) (h : c.wp P (bodyPostM Fence.wide n P fn R) { tmps := args ++ Array.replicate (fn.ntmps - args.size) undef, defers := [] } w) : Calls P f args w R :=
 callsIn_wide.1 (callsIn_of_wp_marks (F := Fence.wide) (n := n) hf hb trivial (wpIn_wide.2 h) rfl)

theorem marks_ret {P : Program} {fn : Func} {R : Ending → World → Prop} {n D : Nat} {tmps : Array Value} {w : World} {v : Value}
   (hK : w.heap[D]? = some (.deferred (some []))) (hr : (results fn tmps).run P (w.putObj D (.deferred none)) = .ok v (w.putObj D (.deferred none))) (hR : R (.returned v) (w.putObj D (.deferred none))) :
   bodyPostM Fence.wide n P fn R .ret { tmps := tmps, defers := [{ target := .collected D, args := #[] }] } w :=
 ⟨by simp, .inl ⟨_, _, rfl, run_takeDeferred hK, ⟨v, hr, hR⟩⟩⟩
theorem wp_rangeFunc_G {P : Program} {α : Type} {g : Operand} {ps : Array Tmp} {assign body : Code} {Q : Exit → Act → World → Prop} {a : Act} {w : World} (n : Nat)
   (h1 : 1 ≤ n) {gf : Nat} {lb : Array Value} (hg : a.eval g = .func (.func gf) #[] lb) (eg : ∀ args w, (callFunc gf args).run P w = .ok (.enter gf args) w)
   {encs : α → Array Value} {n₀ : Nat} {S Sp : List α → Prop} {N : Nat} {w0 : World} (hseq : SeqStopsK Fence.wide (n - 1) P gf lb encs (Below n₀) S Sp N w0)
   (hn₀ : n₀ ≤ w.heap.size) (hb0 : Below w0.heap.size w0 w) (hps : ∀ x, (encs x).size = ps.size)
   (I : List α → World → Prop) (Ix : Code → List α → World → Prop) (hI : OwnFrom w.heap.size I) (hIx : ∀ c, OwnFrom w.heap.size (Ix c)) (h0 : I [] w) (a₁ : α → Act)
   (hassign : ∀ (l : Nat) (x : α) (W : World) (K : Act → World → Prop), K (a₁ x) W →
     assign.wpIn (Fence.wide.inRound l) (n - 1 - 1) P (Exit.then K (fun _ _ _ => False)) { tmps := (ps.zip (encs x)).foldl (fun t (p, v) => t.setIfInBounds p v) a.tmps, defers := [] } W)
   (hbody : ∀ (l : Nat) (pre : List α) (x : α) (W : World), I pre W → pre.length < N → body.wpIn (Fence.wide.inRound l) (n - 1 - 1) P (ownPostG w.heap.size (Below n₀) I Ix (pre ++ [x]) W) (a₁ x) W)
   (hdone : ∀ (D : Nat) (xs : List α) (W : World), w.heap.size ≤ D → S xs → I xs W → W.heap[D]? = some (.deferred (some [])) → Q .normal { a with defers := { target := .collected D, args := #[] } :: a.defers } W)
   (hstop : ∀ (D : Nat) (c : Code) (pre : List α) (W : World), w.heap.size ≤ D → Sp pre → Ix c pre W → W.heap[D]? = some (.deferred (some [])) → c.wp P Q { a with defers := { target := .collected D, args := #[] } :: a.defers } W) :
   (Code.rangeFunc g ps assign body).wp P Q a w :=
 (wpIn_wide (n := n)).1 (wpIn_rangeFunc_ownG (F := Fence.wide) rfl h1 hg trivial eg hseq belowK_t (belowK_b hn₀) hb0 hps I Ix hI hIx h0 a₁ hassign hbody hdone
   fun D c pre W h2 h3 h4 h5 => wpIn_wide.2 (hstop D c pre W h2 h3 h4 h5))

theorem wp_rangeFunc_U {P : Program} {α : Type} {g : Operand} {ps : Array Tmp} {assign body : Code} {Q : Exit → Act → World → Prop} {a : Act} {w : World} (n : Nat) (up : α → List (Nat × Value))
   (h1 : 1 ≤ n) {gf : Nat} {lb : Array Value} (hg : a.eval g = .func (.func gf) #[] lb) (eg : ∀ args w, (callFunc gf args).run P w = .ok (.enter gf args) w)
   {encs : α → Array Value} {n₀ : Nat} {S Sp : List α → Prop} {N : Nat} {w0 : World} (hseq : SeqStopsK Fence.wide (n - 1) P gf lb encs (Below n₀) S Sp N w0)
   (hn₀ : n₀ ≤ w.heap.size) (hb0 : Below w0.heap.size w0 w) (hps : ∀ x, (encs x).size = ps.size)
   (I : List α → World → Prop) (Ix : Code → List α → World → Prop) (hI : OwnFrom w.heap.size I) (hIx : ∀ c, OwnFrom w.heap.size (Ix c)) (h0 : I [] w)
   (hassign : ∀ (l : Nat) (x : α) (W : World) (K : Act → World → Prop), K { tmps := (up x).foldl (fun t p => t.setIfInBounds p.1 p.2) a.tmps, defers := [] } W →
     assign.wpIn (Fence.wide.inRound l) (n - 1 - 1) P (Exit.then K (fun _ _ _ => False)) { tmps := (ps.zip (encs x)).foldl (fun t (p, v) => t.setIfInBounds p v) a.tmps, defers := [] } W)
   (hbody : ∀ (l : Nat) (pre : List α) (x : α) (W : World), I pre W → pre.length < N → body.wpIn (Fence.wide.inRound l) (n - 1 - 1) P (ownPostG w.heap.size (Below n₀) I Ix (pre ++ [x]) W) { tmps := (up x).foldl (fun t p => t.setIfInBounds p.1 p.2) a.tmps, defers := [] } W)
   (hdone : ∀ (D : Nat) (xs : List α) (W : World), w.heap.size ≤ D → S xs → I xs W → W.heap[D]? = some (.deferred (some [])) → Q .normal { a with defers := { target := .collected D, args := #[] } :: a.defers } W)
   (hstop : ∀ (D : Nat) (c : Code) (pre : List α) (W : World), w.heap.size ≤ D → Sp pre → Ix c pre W → W.heap[D]? = some (.deferred (some [])) → c.wp P Q { a with defers := { target := .collected D, args := #[] } :: a.defers } W) :
   (Code.rangeFunc g ps assign body).wp P Q a w :=
 wp_rangeFunc_G n h1 hg eg hseq hn₀ hb0 hps I Ix hI hIx h0 _ hassign hbody hdone hstop

/-! ### what abides a turn of what is no cells -/
theorem VRow.kept {W W' : World} {B : Nat} {T : TypeId} {vals : List Value} {row : Option Nat} (h : VRow W B T vals) (hg : W.grownBy W' row) (hr : ∀ r, row = some r → ∃ o : Obj, W.heap[r]? = some o ∧ o.isCells = false) : VRow W' B T vals := by
 have hne : row ≠ some B := fun e => by
   obtain ⟨o, ho, hc⟩ := hr B e
   unfold VRow at h
   rw [h] at ho; cases ho; cases hc
 unfold VRow
 rw [hg.block B h.lt (fun e => hne e.symm)]
 exact h
theorem Ints.putObj {W : World} {D : Nat} {a : Option Addr} {n c : Nat} {xs : List Int} (h : Ints W a n c xs) (o' : Obj) {o : Obj} (hD : W.heap[D]? = some o) (hc : o.isCells = false) : Ints (W.putObj D o') a n c xs :=
 h.kept (grownBy_putObj' W D o') fun hn b' o2 e e' => by
   cases e'
   obtain ⟨z, hz, _⟩ := h.get hn
   have h2 := h.cell D o2 e 0 z hz
   obtain ⟨vals, T, cl, hcells⟩ : ∃ vals T cl, W.heap[D]? = some (Obj.cells vals T cl) := by
     simp only [World.cell?] at h2
     cases hb : W.heap[D]? with
     | none => rw [hb] at h2; cases h2
     | some ob =>
       rw [hb] at h2
       cases ob with
       | cells vals T cl => exact ⟨_, _, _, rfl⟩
       | _ => cases h2
   rw [hcells] at hD
   cases hD
   cases hc
theorem Below.put {W : World} {n D : Nat} {o : Obj} (hD : W.heap[D]? = some o) (hn : n ≤ D) (o' : Obj) : Below n W (W.putObj D o') :=
 (Below.refl n W).grown (grownBy_putObj' W D o') (by have := (Array.getElem?_eq_some_iff.1 hD).1; omega) (fun k e => by cases e; exact hn)
end Go.Proofs.YtkddkkcfpnndlaaGreatDoor

namespace Go.Proofs.YtkddkkcfpnndlaaGreatDoor
open Go.RowKit Go.Shelf

theorem RoundIn.deep {F : Fence} (hd : F.depth = none) {m m' : Nat} {P : Program} {l : Nat} {f : FuncId} {tmps : Array Value} {assign body : Code} {w : World} {R : Ending → World → Prop}
   (h : RoundIn F m P l f tmps assign body w R) : RoundIn F m' P l f tmps assign body w R := ⟨h.1, fun c cs _ => h.2 c cs (fun d h => by rw [hd] at h; cases h)⟩
theorem YieldAt.deep {F : Fence} (hd : F.depth = none) {m : Nat} (m' : Nat) {P : Program} {l : Nat} {args : Array Value} {W : World} {R : Ending → World → Prop} (h : YieldAt F m P l args W R) : YieldAt F m' P l args W R := by
 obtain ⟨fn, tmps, assign, body, hy, hR⟩ := h
 exact ⟨fn, tmps, assign, body, hy, RoundIn.deep hd hR⟩
theorem YieldAt.within {F : Fence} {m : Nat} (l' : Nat) {P : Program} {l : Nat} {args : Array Value} {W : World} {R : Ending → World → Prop} (h : YieldAt F m P l args W R) : YieldAt (F.inRound l') m P l args W R := h

/-! ### blocks that stay, but for some -/
structure Kx (X : Nat → Prop) (W W' : World) : Prop where
 size : W.heap.size ≤ W'.heap.size
 same : ∀ b o, W.heap[b]? = some o → ¬ X b → W'.heap[b]? = some o
theorem Kx.refl (X : Nat → Prop) (W : World) : Kx X W W := ⟨Nat.le_refl _, fun _ _ h _ => h⟩
theorem Kx.trans {X : Nat → Prop} {A B C : World} (h : Kx X A B) (k : Kx X B C) : Kx X A C := ⟨Nat.le_trans h.size k.size, fun b o hb hx => k.same b o (h.same b o hb hx) hx⟩
theorem Kx.below {X : Nat → Prop} {W W' : World} (h : Below W.heap.size W W') : Kx X W W' :=
 ⟨h.size, fun b o hb _ => by rw [h.block b (Array.getElem?_eq_some_iff.1 hb).1]; exact hb⟩
theorem Kx.putObj {X : Nat → Prop} {W : World} {l : Nat} (hl : X l) (o' : Obj) : Kx X W (W.putObj l o') :=
 ⟨by simp, fun b o2 hb hx => by
   have hne : b ≠ l := fun e => hx (e ▸ hl)
   rw [World.putObj_heap_other hne]; exact hb⟩
theorem Kx.setCell {X : Nat → Prop} {W : World} {a : Addr} (h : X a.block) (v : Value) : Kx X W (W.setCell a v) :=
 ⟨(KeepsOthers.setCell W a v).size, fun b o hb hx => by
   rw [Below.heap_setCell W a v b (fun e => hx (e ▸ h))]; exact hb⟩
theorem Kx.weak {X Y : Nat → Prop} {W W' : World} (h : Kx X W W') (hXY : ∀ b, X b → Y b) : Kx Y W W' := ⟨h.size, fun b o hb hy => h.same b o hb fun hx => hy (hXY b hx)⟩
theorem Kx.cell {X : Nat → Prop} {W W' : World} (h : Kx X W W') {a : Addr} {v : Value} (hv : W.cell? a = some v) (hx : ¬ X a.block) : W'.cell? a = some v := by
 obtain ⟨o, ho, _⟩ := cells_of_cell hv
 exact (World.cell?_of_block ((h.same _ o ho hx).trans ho.symm)).trans hv
theorem Kx.ints {X : Nat → Prop} {W W' : World} (h : Kx X W W') {a : Option Addr} {n c : Nat} {xs : List Int} (hi : Ints W a n c xs) (hx : ∀ b o, a = some ⟨b, o, none⟩ → 0 < n → ¬ X b) : Ints W' a n c xs :=
 ⟨hi.len, hi.cap, hi.big, hi.addr, fun b o e k x hk => h.cell (hi.cell b o e k x hk) (hx b o e (by have := (List.getElem?_eq_some_iff.1 hk).1; have := hi.len; omega)), hi.bd, hi.nil⟩
theorem Kx.boxed {X : Nat → Prop} {W W' : World} (h : Kx X W W') {b : Nat} {t : TypeId} {v : Value} (hb : Boxed W b t v) (hx : ¬ X b) : Boxed W' b t v := h.same b _ hb hx
theorem ownFrom_kx {β : Type} {B : Nat} (X : Nat → Prop) {W0 : World} (hB : W0.heap.size ≤ B) : OwnFrom B (fun (_ : β) W => Kx X W0 W) :=
 fun _ A C row hs hg hr => ⟨Nat.le_trans hs.size hg.size, fun b o hb hx => by
   have hA := hs.same b o hb hx
   refine (hg.block b (Array.getElem?_eq_some_iff.1 hA).1 (fun e => ?_)).trans hA
   have h1 := (hr b e.symm).1
   have h2 := (Array.getElem?_eq_some_iff.1 hb).1
   omega⟩
theorem OwnFrom.fresh {β : Type} {B : Nat} {I : β → World → Prop} (h : OwnFrom B I) {s : β} {W W' : World} (hs : I s W) (hb : Below W.heap.size W W') : I s W' :=
 h s W W' none hs ⟨hb.os, hb.tape, hb.output, hb.size, fun k hk _ => hb.block k hk⟩ (fun r e => by cases e)
theorem own_ints {β : Type} (B : Nat) (a : Option Addr) (n c : Nat) (xs : List Int) : OwnFrom B (fun (_ : β) W => Ints W a n c xs) := fun _ _ _ _ hs hg hr =>
 ⟨hs.len, hs.cap, hs.big, hs.addr, fun b o e k x hk => cell_kept (hs.cell b o e k x hk) hg (fun r e => (hr r e).2), hs.bd, hs.nil⟩

/-! ### the contract of an iterator that tells what it hands over (G) -/
def SeqM {α : Type} (P : Program) (g : Nat) (lb : Array Value) (encs : α → Array Value) (X : Nat → Prop) (G : α → World → Prop) (S Sp : List α → Prop) (N : Nat) (w : World) : Prop :=
 ∀ (l : Nat) (J Jx : List α → World → Prop) (W : World), Below w.heap.size w W → w.heap.size ≤ l → l < W.heap.size → OwnFrom W.heap.size J → OwnFrom W.heap.size Jx →
   (∀ pre x W1, G x W1 → J pre W1 → pre.length < N → YieldAt Fence.wide 8 P l (encs x) W1 fun e W' =>
     ((e = .returned (.bool true) ∧ J (pre ++ [x]) W') ∨ (e = .returned (.bool false) ∧ Jx (pre ++ [x]) W')) ∧ Kx (fun b => b = l ∨ X b) W1 W') →
   J [] W →
   CallsIn Fence.wide 9 P g (#[.func (.yield l) #[] #[]] ++ lb) W fun e W' => (∃ v, e = .returned v) ∧ ((∃ xs, S xs ∧ J xs W') ∨ (∃ pre, Sp pre ∧ Jx pre W'))

def postM {α : Type} (X : Nat → Prop) (I : List α → World → Prop) (Ix : Code → List α → World → Prop) (xs : List α) (W : World) : Exit → Act → World → Prop
 | .normal, _, W' => Kx X W W' ∧ I xs W'
 | .ret, _, W' => Kx X W W' ∧ Ix .ret xs W'
 | .exit id, _, W' => Kx X W W' ∧ Ix (.exit id) xs W'
 | .goto t, _, W' => Kx X W W' ∧ Ix (.goto t) xs W'
 | .panic _, _, _ => False
 | .outgrown, _, _ => False

theorem wp_rangeFunc_M2 {P : Program} {α : Type} {g : Operand} {ps : Array Tmp} {assign body : Code} {Q : Exit → Act → World → Prop} {a : Act} {w : World} (up : α → List (Nat × Value))
   {gf : Nat} {lb : Array Value} (hg : a.eval g = .func (.func gf) #[] lb) (eg : ∀ args w, (callFunc gf args).run P w = .ok (.enter gf args) w)
   {encs : α → Array Value} {X : Nat → Prop} {G : α → World → Prop} {S Sp : List α → Prop} {N : Nat} {w0 : World} (hseq : SeqM P gf lb encs X G S Sp N w0)
   (hX : ∀ b, X b → b ≠ w.heap.size ∧ b ≠ w.heap.size + 1)
   (hb0 : Below w0.heap.size w0 w) (hps : ∀ x, (encs x).size = ps.size) (hG : ∀ x, OwnFrom w.heap.size (fun (_ : Unit) W => G x W))
   (I : List α → World → Prop) (Ix : Code → List α → World → Prop) (hI : OwnFrom w.heap.size I) (hIx : ∀ c, OwnFrom w.heap.size (Ix c)) (h0 : I [] w)
   (hassign : ∀ (l : Nat) (x : α) (W : World) (K : Act → World → Prop), K { tmps := (up x).foldl (fun t p => t.setIfInBounds p.1 p.2) a.tmps, defers := [] } W →
     assign.wpIn (Fence.wide.inRound l) 8 P (Exit.then K (fun _ _ _ => False)) { tmps := (ps.zip (encs x)).foldl (fun t (p, v) => t.setIfInBounds p v) a.tmps, defers := [] } W)
   (hbody : ∀ (l : Nat) (pre : List α) (x : α) (W : World), w.heap.size + 1 < W.heap.size → G x W → I pre W → pre.length < N → body.wpIn (Fence.wide.inRound l) 8 P (postM X I Ix (pre ++ [x]) W) { tmps := (up x).foldl (fun t p => t.setIfInBounds p.1 p.2) a.tmps, defers := [] } W)
   (hdone : ∀ (D : Nat) (xs : List α) (W : World), w.heap.size ≤ D → S xs → I xs W → W.heap[D]? = some (.deferred (some [])) → Q .normal { a with defers := { target := .collected D, args := #[] } :: a.defers } W)
   (hstop : ∀ (D : Nat) (c : Code) (pre : List α) (W : World), w.heap.size ≤ D → Sp pre → Ix c pre W → W.heap[D]? = some (.deferred (some [])) → c.wp P Q { a with defers := { target := .collected D, args := #[] } :: a.defers } W) :
   (Code.rangeFunc g ps assign body).wp P Q a w := by
 refine (wpIn_wide (n := 10)).1 (wpIn_rangeFunc ?_)
 intro fn hfn
 obtain ⟨rec, hrec⟩ : ∃ rec : LoopState → Option Code → Loop, rec = fun st pe => { state := st, pending := pe, fn, tmps := a.tmps, params := ps, assign, body, defers := w.heap.size } := ⟨_, rfl⟩
 obtain ⟨W1, hW1⟩ : ∃ W1, (w.alloc (.deferred (some []))).alloc (.loop (rec .ready none)) = W1 := ⟨_, rfl⟩
 have hsz1 : W1.heap.size = w.heap.size + 2 := by rw [← hW1]; simp
 have hL1 : W1.heap[w.heap.size + 1]? = some (.loop (rec .ready none)) := by
   rw [← hW1]; have := World.alloc_heap_new (w.alloc (.deferred (some []))) (.loop (rec .ready none)); rwa [World.size_alloc] at this
 have hK1 : W1.heap[w.heap.size]? = some (.deferred (some [])) := by
   rw [← hW1]; exact (Below.heap_alloc _ _ _ (by simp)).trans (World.alloc_heap_new w _)
 have hI1 : I [] W1 := by rw [← hW1]; exact hI.alloc _ (hI.alloc _ h0)
 have hb1 : Below w0.heap.size w0 W1 := by
   rw [← hW1]; exact hb0.trans ((((Below.refl _ w).alloc (Nat.le_refl _) _).alloc (by simp) _).mono hb0.size)
 refine ⟨w.heap.size + 1, [{ target := .collected w.heap.size, args := #[] }], W1, { target := .fn (.func gf) lb, args := #[.func (.yield (w.heap.size + 1)) #[] #[]] }, W1, gf,
   #[.func (.yield (w.heap.size + 1)) #[] #[]] ++ lb, W1, ?_, ?_, ?_, ?_, fun _ => by omega, ?_⟩
 · rw [← hW1, hrec]; exact run_enterLoop_outer _ _ _ _ _
 · simp only [resolve, hg]
   simp [go_sem]
 · intro f' _; trivial
 · simp [invoke, go_sem, eg]
 · -- the two blocks of the law's own abide what turns blocks beyond them
   have hstay : ∀ {A B : World} {row : Option Nat} {k : Nat} {o : Obj}, A.grownBy B row → (∀ r, row = some r → W1.heap.size ≤ r ∧ ∃ o : Obj, A.heap[r]? = some o ∧ o.isCells = false) → k < W1.heap.size → A.heap[k]? = some o → B.heap[k]? = some o :=
     fun hg' hr hk ho => (hg'.block _ (Array.getElem?_eq_some_iff.1 ho).1 (fun e => by have := (hr _ e.symm).1; omega)).trans ho
   have hwid : ∀ {A : World} {row : Option Nat}, (∀ r, row = some r → W1.heap.size ≤ r ∧ ∃ o : Obj, A.heap[r]? = some o ∧ o.isCells = false) → (∀ r, row = some r → w.heap.size ≤ r ∧ ∃ o : Obj, A.heap[r]? = some o ∧ o.isCells = false) :=
     fun hr r e => ⟨by have := (hr r e).1; omega, (hr r e).2⟩
   refine (hseq (w.heap.size + 1)
     (fun pre W => I pre W ∧ W.heap[w.heap.size + 1]? = some (.loop (rec .ready none)) ∧ W.heap[w.heap.size]? = some (.deferred (some [])))
     (fun pre W => ∃ c, Ix c pre W ∧ W.heap[w.heap.size + 1]? = some (.loop (rec .done (some c))) ∧ W.heap[w.heap.size]? = some (.deferred (some [])))
     W1 hb1 (by have := hb0.size; omega) (by omega)
     (fun s A B row hs hg' hr => ⟨hI s A B row hs.1 hg' (hwid hr), hstay hg' hr (by omega) hs.2.1, hstay hg' hr (by omega) hs.2.2⟩)
     (fun s A B row hs hg' hr => by
       obtain ⟨c, hc, hl, hk⟩ := hs
       exact ⟨c, hIx c s A B row hc hg' (hwid hr), hstay hg' hr (by omega) hl, hstay hg' hr (by omega) hk⟩)
     ?_ ⟨hI1, hL1, hK1⟩).mono ?_
   · -- one round
     rintro pre x W hGx ⟨hi, hl, hk⟩ hlen
     have hlt : w.heap.size + 1 < W.heap.size := (Array.getElem?_eq_some_iff.1 hl).1
     have hy := run_yield (P := P) (args := encs x) hl (by rw [hrec]; exact hps x)
     rw [hrec] at hy
     refine ⟨fn, _, assign, body, hy, roundIn_of_wpIn hfn (hassign _ x W _ ?_)⟩
     clear hy
     refine ⟨_, run_beginRound hl (by rw [hrec]), ?_⟩
     have hl2 : (W.putObj (w.heap.size + 1) (.loop { rec .ready none with state := .busy })).heap[w.heap.size + 1]? = some (.loop { rec .ready none with state := .busy }) := World.putObj_heap_same hlt
     have hk2 : (W.putObj (w.heap.size + 1) (.loop { rec .ready none with state := .busy })).heap[w.heap.size]? = some (.deferred (some [])) := (World.putObj_heap_other (by omega)).trans hk
     refine wpIn_mono (hbody _ pre x _ (by simpa using hlt) ((hG x).putObj (s := ()) _ hGx (by omega) hl rfl) (hI.putObj _ hi (by omega) hl rfl) hlen) ?_
     have fin : ∀ (jump : Option Code) (W3 : World), Kx X (W.putObj (w.heap.size + 1) (.loop { rec .ready none with state := .busy })) W3 →
         (Instr.endRound (w.heap.size + 1) jump).run P W3 = .ok (.bool jump.isNone) (W3.putObj (w.heap.size + 1) (.loop (rec (if jump.isNone then .ready else .done) jump))) ∧
         W3.heap[w.heap.size + 1]? = some (.loop { rec .ready none with state := .busy }) ∧
         (W3.putObj (w.heap.size + 1) (.loop (rec (if jump.isNone then .ready else .done) jump))).heap[w.heap.size + 1]? = some (.loop (rec (if jump.isNone then .ready else .done) jump)) ∧
         (W3.putObj (w.heap.size + 1) (.loop (rec (if jump.isNone then .ready else .done) jump))).heap[w.heap.size]? = some (.deferred (some [])) := fun jump W3 hk3 => by
       have hl3 := hk3.same _ _ hl2 (fun h => by have := hX _ h; omega)
       have := run_endRound (P := P) jump hl3
       rw [hrec] at this ⊢
       exact ⟨this, by rw [hrec] at hl3; exact hl3, World.putObj_heap_same (Array.getElem?_eq_some_iff.1 hl3).1, (World.putObj_heap_other (by omega)).trans (hk3.same _ _ hk2 (fun h => by have := hX _ h; omega))⟩
     have hround : ∀ (W3 : World) (o : Obj), Kx X (W.putObj (w.heap.size + 1) (.loop { rec .ready none with state := .busy })) W3 → Kx (fun b => b = w.heap.size + 1 ∨ X b) W (W3.putObj (w.heap.size + 1) o) := fun W3 o h =>
       ((Kx.putObj (X := fun b => b = w.heap.size + 1 ∨ X b) (.inl rfl) _).trans (h.weak fun b hb => .inr hb)).trans (Kx.putObj (.inl rfl) _)
     have left : ∀ (c : Code) (W3 : World), Kx X (W.putObj (w.heap.size + 1) (.loop { rec .ready none with state := .busy })) W3 → Ix c (pre ++ [x]) W3 →
         ∃ v w', (Instr.endRound (w.heap.size + 1) (some c)).run P W3 = .ok v w' ∧ ((Ending.returned v = .returned (.bool true) ∧ (I (pre ++ [x]) w' ∧ w'.heap[w.heap.size + 1]? = some (.loop (rec .ready none)) ∧ w'.heap[w.heap.size]? = some (.deferred (some [])))) ∨
           (Ending.returned v = .returned (.bool false) ∧ ∃ c, Ix c (pre ++ [x]) w' ∧ w'.heap[w.heap.size + 1]? = some (.loop (rec .done (some c))) ∧ w'.heap[w.heap.size]? = some (.deferred (some [])))) ∧ Kx (fun b => b = w.heap.size + 1 ∨ X b) W w' := fun c W3 hk3 hi3 => by
       obtain ⟨hr, hl3, hl4, hk4⟩ := fin (some c) W3 hk3
       exact ⟨_, _, hr, .inr ⟨rfl, c, (hIx _).putObj _ hi3 (by omega) hl3 rfl, hl4, hk4⟩, hround _ _ hk3⟩
     rintro e a3 W3 hp
     cases e with
     | normal =>
       obtain ⟨hk3, hi3⟩ := hp
       obtain ⟨hr, hl3, hl4, hk4⟩ := fin none W3 hk3
       exact ⟨_, _, hr, .inl ⟨rfl, hI.putObj _ hi3 (by omega) hl3 rfl, hl4, hk4⟩, hround _ _ hk3⟩
     | ret => exact left .ret W3 hp.1 hp.2
     | exit id => exact left (.exit id) W3 hp.1 hp.2
     | goto t => exact left (.goto t) W3 hp.1 hp.2
     | panic ch => exact hp.elim
     | outgrown => exact hp.elim
   · -- behind the iterator
     rintro e W2 ⟨⟨v, rfl⟩, (⟨xs, hS, hi, hl, hk⟩ | ⟨pre, hSp, c, hi, hl, hk⟩)⟩
     · exact ⟨none, _, by have := run_endLoop (P := P) hl (by rw [hrec]; simp); rw [hrec] at this; exact this, hdone _ xs _ (Nat.le_refl _) hS (hI.putObj _ hi (by omega) hl rfl) ((World.putObj_heap_other (by omega)).trans hk)⟩
     · exact ⟨some c, _, by have := run_endLoop (P := P) hl (by rw [hrec]; simp); rw [hrec] at this; exact this, wpIn_wide.2 (hstop _ c pre _ (Nat.le_refl _) hSp ((hIx c).putObj _ hi (by omega) hl rfl) ((World.putObj_heap_other (by omega)).trans hk))⟩

theorem wp_rangeFunc_M {P : Program} {α : Type} {g : Operand} {ps : Array Tmp} {assign body : Code} {Q : Exit → Act → World → Prop} {a : Act} {w : World} (up : α → List (Nat × Value))
   {gf : Nat} {lb : Array Value} (hg : a.eval g = .func (.func gf) #[] lb) (eg : ∀ args w, (callFunc gf args).run P w = .ok (.enter gf args) w)
   {encs : α → Array Value} {X : Nat → Prop} {G : α → World → Prop} {S Sp : List α → Prop} {N : Nat} {w0 : World} (hseq : SeqM P gf lb encs X G S Sp N w0)
   (hX : ∀ b, X b → b < w.heap.size)
   (hb0 : Below w0.heap.size w0 w) (hps : ∀ x, (encs x).size = ps.size) (hG : ∀ x, OwnFrom w.heap.size (fun (_ : Unit) W => G x W))
   (I : List α → World → Prop) (Ix : Code → List α → World → Prop) (hI : OwnFrom w.heap.size I) (hIx : ∀ c, OwnFrom w.heap.size (Ix c)) (h0 : I [] w)
   (hassign : ∀ (l : Nat) (x : α) (W : World) (K : Act → World → Prop), K { tmps := (up x).foldl (fun t p => t.setIfInBounds p.1 p.2) a.tmps, defers := [] } W →
     assign.wpIn (Fence.wide.inRound l) 8 P (Exit.then K (fun _ _ _ => False)) { tmps := (ps.zip (encs x)).foldl (fun t (p, v) => t.setIfInBounds p v) a.tmps, defers := [] } W)
   (hbody : ∀ (l : Nat) (pre : List α) (x : α) (W : World), G x W → I pre W → pre.length < N → body.wpIn (Fence.wide.inRound l) 8 P (postM X I Ix (pre ++ [x]) W) { tmps := (up x).foldl (fun t p => t.setIfInBounds p.1 p.2) a.tmps, defers := [] } W)
   (hdone : ∀ (D : Nat) (xs : List α) (W : World), w.heap.size ≤ D → S xs → I xs W → W.heap[D]? = some (.deferred (some [])) → Q .normal { a with defers := { target := .collected D, args := #[] } :: a.defers } W)
   (hstop : ∀ (D : Nat) (c : Code) (pre : List α) (W : World), w.heap.size ≤ D → Sp pre → Ix c pre W → W.heap[D]? = some (.deferred (some [])) → c.wp P Q { a with defers := { target := .collected D, args := #[] } :: a.defers } W) :
   (Code.rangeFunc g ps assign body).wp P Q a w :=
 wp_rangeFunc_M2 up hg eg hseq (fun b h => by have := hX b h; omega) hb0 hps hG I Ix hI hIx h0 hassign (fun l pre x W _ => hbody l pre x W) hdone hstop

/-! ### a function that leaves with marks -/
def Marks (B : Nat) : List Deferred → World → Prop
 | [], _ => True
 | d :: ds, W => (∃ D, d = { target := .collected D, args := #[] } ∧ B ≤ D ∧ W.heap[D]? = some (.deferred (some [])) ∧ ∀ d' ∈ ds, d' ≠ d) ∧ Marks B ds W
theorem Marks.turn {B : Nat} : ∀ {ds : List Deferred} {W W' : World}, Marks B ds W → (∀ D, ({ target := .collected D, args := #[] } : Deferred) ∈ ds → W.heap[D]? = some (.deferred (some [])) → W'.heap[D]? = some (.deferred (some []))) → Marks B ds W'
 | [], _, _, _, _ => trivial
 | _ :: _, _, _, ⟨⟨D, e, hB, hD, hn⟩, h⟩, hk => ⟨⟨D, e, hB, hk D (e ▸ List.mem_cons_self) hD, hn⟩, h.turn fun D' hm => hk D' (List.mem_cons_of_mem _ hm)⟩
theorem Marks.at' {B : Nat} : ∀ {ds : List Deferred} {W : World}, Marks B ds W → ∀ D, ({ target := .collected D, args := #[] } : Deferred) ∈ ds → B ≤ D
 | _ :: _, _, ⟨⟨D', e, hB, _, _⟩, h⟩, D, hm => by
   rcases List.mem_cons.1 hm with e' | hm
   · rw [e] at e'; cases e'; exact hB
   · exact h.at' D hm
theorem ownFrom_marks {β : Type} {B B' : Nat} {ds : List Deferred} (h : ∀ D, ({ target := .collected D, args := #[] } : Deferred) ∈ ds → D < B') : OwnFrom B' (fun (_ : β) W => Marks B ds W) := fun _ _ _ _ hs hg hr =>
 hs.turn fun D hD hk => (hg.block D (Array.getElem?_eq_some_iff.1 hk).1 (fun e => by have := (hr D e.symm).1; have := h D hD; omega)).trans hk
theorem Marks.lt {B : Nat} : ∀ {ds : List Deferred} {W : World}, Marks B ds W → ∀ D, ({ target := .collected D, args := #[] } : Deferred) ∈ ds → D < W.heap.size
 | _ :: _, _, ⟨⟨D', e, _, hD, _⟩, h⟩, D, hm => by
   rcases List.mem_cons.1 hm with e' | hm
   · rw [e] at e'; cases e'; exact (Array.getElem?_eq_some_iff.1 hD).1
   · exact h.lt D hm
theorem Marks.kx {B : Nat} {X : Nat → Prop} {ds : List Deferred} {W W' : World} (h : Marks B ds W) (hk : Kx X W W') (hX : ∀ b, X b → b < B) : Marks B ds W' := h.turn fun D hD hd => hk.same D _ hd fun hx => by have := hX _ hx; have := (h.at' D hD); omega
theorem Marks.kx' {B : Nat} {X : Nat → Prop} {ds : List Deferred} {W W' : World} (h : Marks B ds W) (hk : Kx X W W') (hX : ∀ D, ({ target := .collected D, args := #[] } : Deferred) ∈ ds → ¬ X D) : Marks B ds W' := h.turn fun D hD hd => hk.same D _ hd (hX D hD)
theorem Marks.new {B : Nat} {ds : List Deferred} {W : World} {D : Nat} (h : Marks B ds W) (hB : B ≤ D) (hD : W.heap[D]? = some (.deferred (some []))) (hn : ∀ D', ({ target := .collected D', args := #[] } : Deferred) ∈ ds → D' ≠ D) : Marks B ({ target := .collected D, args := #[] } :: ds) W :=
 ⟨⟨D, rfl, hB, hD, fun _ hd' e => hn D (e ▸ hd') rfl⟩, h⟩
theorem frame_of (n : Nat) (T : Array Value) (h : T.size = n) : ∃ u : Nat → Value, T = ((List.range n).map u).toArray := by
 refine ⟨fun i => T.getD i undef, ?_⟩
 apply Array.ext'
 apply List.ext_getElem?
 intro i
 by_cases hi : i < n
 · rw [List.getElem?_map, List.getElem?_range hi, Option.map_some, Array.getD_eq_getD_getElem?, Array.getElem?_toList, Array.getElem?_eq_getElem (by omega), Option.getD_some]
 · rw [List.getElem?_eq_none (by rw [Array.length_toList]; omega), List.getElem?_eq_none (by simp; omega)]
theorem leaves_marks {P : Program} {fn : Func} {R : Ending → World → Prop} {n B : Nat} {tmps : Array Value} {v : Value} {Z : Unit → World → Prop} (hZ : OwnFrom B Z) (hr : ∀ W, Z () W → (results fn tmps).run P W = .ok v W) (hR : ∀ W, Z () W → R (.returned v) W) :
   ∀ (ds : List Deferred) (W : World), Marks B ds W → Z () W → LeavesInM Fence.wide n P fn tmps R ds .returning W
 | [], W, _, hz => ⟨v, hr W hz, hR W hz⟩
 | d :: ds, W, ⟨⟨D, e, hB, hD, hn⟩, hm⟩, hz => by
   refine ⟨by simp, .inl ⟨D, _, by rw [e], run_takeDeferred hD, ?_⟩⟩
   refine leaves_marks hZ hr hR ds _ (hm.turn fun D' hD' hk => ?_) (hZ.putObj _ hz hB hD rfl)
   have : D' ≠ D := fun e' => hn _ hD' (by rw [e, e'])
   rw [World.putObj_heap_other this]; exact hk
end Go.Proofs.YtkddkkcfpnndlaaGreatDoor
