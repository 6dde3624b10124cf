/- A range over a function in an open walk: the statement's rule, and a function's return behind it. -/
import Derived.RangeFuncNested
import Derived.RangeFuncBound
import Derived.RangeFuncCalls
import Derived.RangeFuncLeaves
import Derived.RangeFuncBox
import Derived.Shelf.Abstract
import Derived.Shelf.RegionOpen
import Derived.Maps.AppendAt
import Derived.OwnWalkIn
import Derived.TacticsInMore
import Derived.LoopNIn
import Derived.LoopIn
import Derived.Sort.LoopGhostIn
import Derived.Test.YtbnjeegicbffeaaVRow
namespace Go.Proofs.Ytbnjeegicbffeaa
open Go.RowKit Go.Shelf

/-- a function's contract from its body, where the body holds a range over a function -/
theorem calls_marks {P : Program} {f : FuncId} {fn : Func} {c : Code} {args : Array Value} {w : World} {R : Ending → World → Prop} (n : Nat)
    (hf : P.funcs[f]? = some fn) (hb : fn.body = some c) (h : c.wp P (bodyPostM Fence.wide n P fn R) { tmps := args ++ Array.replicate (fn.ntmps - args.size) undef, defers := [] } w) : Calls P f args w R :=
  callsIn_wide.1 (callsIn_of_wp_marks (F := Fence.wide) (n := n) hf hb trivial (wpIn_wide.2 h) rfl)

/-- it returns, behind the range -/
theorem marks_ret {P : Program} {fn : Func} {R : Ending → World → Prop} {n D : Nat} {tmps : Array Value} {w : World} {v : Value}
    (hK : w.heap[D]? = some (.deferred (some []))) (hr : (results fn tmps).run P (w.putObj D (.deferred none)) = .ok v (w.putObj D (.deferred none))) (hR : R (.returned v) (w.putObj D (.deferred none))) :
    bodyPostM Fence.wide n P fn R .ret { tmps := tmps, defers := [{ target := .collected D, args := #[] }] } w :=
  ⟨by simp, .inl ⟨_, _, rfl, run_takeDeferred hK, ⟨v, hr, hR⟩⟩⟩
theorem marks_end {P : Program} {fn : Func} {R : Ending → World → Prop} {n D : Nat} {tmps : Array Value} {w : World} {v : Value}
    (hK : w.heap[D]? = some (.deferred (some []))) (hr : (results fn tmps).run P (w.putObj D (.deferred none)) = .ok v (w.putObj D (.deferred none))) (hR : R (.returned v) (w.putObj D (.deferred none))) :
    bodyPostM Fence.wide n P fn R .normal { tmps := tmps, defers := [{ target := .collected D, args := #[] }] } w :=
  ⟨by simp, .inl ⟨_, _, rfl, run_takeDeferred hK, ⟨v, hr, hR⟩⟩⟩
/-- it returns ahead of the range -/
theorem marks_ret0 {P : Program} {fn : Func} {R : Ending → World → Prop} {n : Nat} {tmps : Array Value} {w : World} {v : Value}
    (hr : (results fn tmps).run P w = .ok v w) (hR : R (.returned v) w) : bodyPostM Fence.wide n P fn R .ret { tmps := tmps, defers := [] } w :=
  ⟨v, hr, hR⟩

theorem wp_rangeFunc_G {P : Program} {α : Type} {g : Operand} {ps : Array Tmp} {assign body : Code} {Q : Exit → Act → World → Prop} {a : Act} {w : World} (n : Nat)
    (h1 : 1 ≤ n) {gf : Nat} {lb : Array Value} (hg : a.eval g = .func (.func gf) #[] lb) (eg : ∀ args w, (callFunc gf args).run P w = .ok (.enter gf args) w)
    {encs : α → Array Value} {n₀ : Nat} {S Sp : List α → Prop} {N : Nat} {w0 : World} (hseq : SeqStopsK Fence.wide (n - 1) P gf lb encs (Below n₀) S Sp N w0)
    (hn₀ : n₀ ≤ w.heap.size) (hb0 : Below w0.heap.size w0 w) (hps : ∀ x, (encs x).size = ps.size)
    (I : List α → World → Prop) (Ix : Code → List α → World → Prop) (hI : OwnFrom w.heap.size I) (hIx : ∀ c, OwnFrom w.heap.size (Ix c)) (h0 : I [] w) (a₁ : α → Act)
    (hassign : ∀ (l : Nat) (x : α) (W : World) (K : Act → World → Prop), K (a₁ x) W →
      assign.wpIn (Fence.wide.inRound l) (n - 1 - 1) P (Exit.then K (fun _ _ _ => False)) { tmps := (ps.zip (encs x)).foldl (fun t (p, v) => t.setIfInBounds p v) a.tmps, defers := [] } W)
    (hbody : ∀ (l : Nat) (pre : List α) (x : α) (W : World), I pre W → pre.length < N → body.wpIn (Fence.wide.inRound l) (n - 1 - 1) P (ownPostG w.heap.size (Below n₀) I Ix (pre ++ [x]) W) (a₁ x) W)
    (hdone : ∀ (D : Nat) (xs : List α) (W : World), w.heap.size ≤ D → S xs → I xs W → W.heap[D]? = some (.deferred (some [])) → Q .normal { a with defers := { target := .collected D, args := #[] } :: a.defers } W)
    (hstop : ∀ (D : Nat) (c : Code) (pre : List α) (W : World), w.heap.size ≤ D → Sp pre → Ix c pre W → W.heap[D]? = some (.deferred (some [])) → c.wp P Q { a with defers := { target := .collected D, args := #[] } :: a.defers } W) :
    (Code.rangeFunc g ps assign body).wp P Q a w :=
  (wpIn_wide (n := n)).1 (wpIn_rangeFunc_ownG (F := Fence.wide) rfl h1 hg trivial eg hseq belowK_t (belowK_b hn₀) hb0 hps I Ix hI hIx h0 a₁ hassign hbody hdone
    fun D c pre W h2 h3 h4 h5 => wpIn_wide.2 (hstop D c pre W h2 h3 h4 h5))

/-- the same, the frame of a round said by what the assignment writes -/
theorem wp_rangeFunc_U {P : Program} {α : Type} {g : Operand} {ps : Array Tmp} {assign body : Code} {Q : Exit → Act → World → Prop} {a : Act} {w : World} (n : Nat) (up : α → List (Nat × Value))
    (h1 : 1 ≤ n) {gf : Nat} {lb : Array Value} (hg : a.eval g = .func (.func gf) #[] lb) (eg : ∀ args w, (callFunc gf args).run P w = .ok (.enter gf args) w)
    {encs : α → Array Value} {n₀ : Nat} {S Sp : List α → Prop} {N : Nat} {w0 : World} (hseq : SeqStopsK Fence.wide (n - 1) P gf lb encs (Below n₀) S Sp N w0)
    (hn₀ : n₀ ≤ w.heap.size) (hb0 : Below w0.heap.size w0 w) (hps : ∀ x, (encs x).size = ps.size)
    (I : List α → World → Prop) (Ix : Code → List α → World → Prop) (hI : OwnFrom w.heap.size I) (hIx : ∀ c, OwnFrom w.heap.size (Ix c)) (h0 : I [] w)
    (hassign : ∀ (l : Nat) (x : α) (W : World) (K : Act → World → Prop), K { tmps := (up x).foldl (fun t p => t.setIfInBounds p.1 p.2) a.tmps, defers := [] } W →
      assign.wpIn (Fence.wide.inRound l) (n - 1 - 1) P (Exit.then K (fun _ _ _ => False)) { tmps := (ps.zip (encs x)).foldl (fun t (p, v) => t.setIfInBounds p v) a.tmps, defers := [] } W)
    (hbody : ∀ (l : Nat) (pre : List α) (x : α) (W : World), I pre W → pre.length < N → body.wpIn (Fence.wide.inRound l) (n - 1 - 1) P (ownPostG w.heap.size (Below n₀) I Ix (pre ++ [x]) W) { tmps := (up x).foldl (fun t p => t.setIfInBounds p.1 p.2) a.tmps, defers := [] } W)
    (hdone : ∀ (D : Nat) (xs : List α) (W : World), w.heap.size ≤ D → S xs → I xs W → W.heap[D]? = some (.deferred (some [])) → Q .normal { a with defers := { target := .collected D, args := #[] } :: a.defers } W)
    (hstop : ∀ (D : Nat) (c : Code) (pre : List α) (W : World), w.heap.size ≤ D → Sp pre → Ix c pre W → W.heap[D]? = some (.deferred (some [])) → c.wp P Q { a with defers := { target := .collected D, args := #[] } :: a.defers } W) :
    (Code.rangeFunc g ps assign body).wp P Q a w :=
  wp_rangeFunc_G n h1 hg eg hseq hn₀ hb0 hps I Ix hI hIx h0 _ hassign hbody hdone hstop

/-! ### what abides a turn of what is no cells -/
theorem VRow.kept {W W' : World} {B : Nat} {T : TypeId} {vals : List Value} {row : Option Nat} (h : VRow W B T vals) (hg : W.grownBy W' row) (hr : ∀ r, row = some r → ∃ o : Obj, W.heap[r]? = some o ∧ o.isCells = false) : VRow W' B T vals := by
  have hne : row ≠ some B := fun e => by
    obtain ⟨o, ho, hc⟩ := hr B e
    unfold VRow at h
    rw [h] at ho; cases ho; cases hc
  unfold VRow
  rw [hg.block B h.lt (fun e => hne e.symm)]
  exact h
theorem Row.kept {W W' : World} {B : Nat} {T : TypeId} {xs : List Int} {row : Option Nat} (h : Row W B T xs) (hg : W.grownBy W' row) (hr : ∀ r, row = some r → ∃ o : Obj, W.heap[r]? = some o ∧ o.isCells = false) : Row W' B T xs := by
  have hne : row ≠ some B := fun e => by
    obtain ⟨o, ho, hc⟩ := hr B e
    unfold Row at h
    rw [h] at ho; cases ho; cases hc
  unfold Row
  rw [hg.block B h.lt (fun e => hne e.symm)]
  exact h
theorem VRow.putObj {W : World} {B D : Nat} {T : TypeId} {vals : List Value} (h : VRow W B T vals) {o : Obj} (o' : Obj) (hD : W.heap[D]? = some o) (hc : o.isCells = false) : VRow (W.putObj D o') B T vals :=
  h.kept (grownBy_putObj' W D o') fun r e => by cases e; exact ⟨o, hD, hc⟩
theorem Own.putObj {W : World} {base D : Nat} {v : Value} {xs : List Int} (h : Own W base v xs) {o : Obj} (o' : Obj) (hD : W.heap[D]? = some o) (hc : o.isCells = false) : Own (W.putObj D o') base v xs :=
  ownsRow_putObj h o' hD hc
theorem Ints.putObj {W : World} {D : Nat} {a : Option Addr} {n c : Nat} {xs : List Int} (h : Ints W a n c xs) (o' : Obj) {o : Obj} (hD : W.heap[D]? = some o) (hc : o.isCells = false) : Ints (W.putObj D o') a n c xs :=
  h.kept (grownBy_putObj' W D o') fun hn b' o2 e e' => by
    cases e'
    obtain ⟨z, hz, _⟩ := h.get hn
    have h2 := h.cell D o2 e 0 z hz
    obtain ⟨vals, T, cl, hcells⟩ : ∃ vals T cl, W.heap[D]? = some (Obj.cells vals T cl) := by
      simp only [World.cell?] at h2
      cases hb : W.heap[D]? with
      | none => rw [hb] at h2; cases h2
      | some ob =>
        rw [hb] at h2
        cases ob with
        | cells vals T cl => exact ⟨_, _, _, rfl⟩
        | _ => cases h2
    rw [hcells] at hD
    cases hD
    cases hc
theorem Below.put {W : World} {n D : Nat} {o : Obj} (hD : W.heap[D]? = some o) (hn : n ≤ D) (o' : Obj) : Below n W (W.putObj D o') :=
  (Below.refl n W).grown (grownBy_putObj' W D o') (by have := (Array.getElem?_eq_some_iff.1 hD).1; omega) (fun k e => by cases e; exact hn)
end Go.Proofs.Ytbnjeegicbffeaa
