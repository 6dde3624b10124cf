/- A range over a function in an open walk: the statement's rule, and a function's return behind it. A range over a function whose elements are read in memory: an iterator's contract tells the round what it hands over; what a round that goes on keeps; a function that leaves with many marks. No program in sight. -/
import Derived.Test.YtkddkkcfpnndlaaGreatDoorPq08
import Derived.RangeFuncNested
import Derived.RangeFuncBound
import Derived.RangeFuncCalls
import Derived.RangeFuncLeaves
import Derived.RangeFuncBox
import Derived.Shelf.Abstract
import Derived.Shelf.RegionOpen
import Derived.Maps.AppendAt
import Derived.OwnWalkIn
import Derived.TacticsInMore
import Derived.LoopNIn
import Derived.LoopIn
import Derived.Sort.LoopGhostIn
namespace Go.Proofs.YtkddkkcfpnndlaaGreatDoor
open Go.RowKit Go.Shelf

/-! ### what abides a turn of what is no cells -/
theorem VRow.kept {W W' : World} {B : Nat} {T : TypeId} {vals : List Value} {row : Option Nat} (h : VRow W B T vals) (hg : W.grownBy W' row) (hr : ∀ r, row = some r → ∃ o : Obj, W.heap[r]? = some o ∧ o.isCells = false) : VRow W' B T vals := by
  have hne : row ≠ some B := fun e => by
    obtain ⟨o, ho, hc⟩ := hr B e
    unfold VRow at h
    rw [h] at ho; cases ho; cases hc
  unfold VRow
  rw [hg.block B h.lt (fun e => hne e.symm)]
  exact h
theorem Row.kept {W W' : World} {B : Nat} {T : TypeId} {xs : List Int} {row : Option Nat} (h : Row W B T xs) (hg : W.grownBy W' row) (hr : ∀ r, row = some r → ∃ o : Obj, W.heap[r]? = some o ∧ o.isCells = false) : Row W' B T xs := by
  have hne : row ≠ some B := fun e => by
    obtain ⟨o, ho, hc⟩ := hr B e
    unfold Row at h
    rw [h] at ho; cases ho; cases hc
  unfold Row
  rw [hg.block B h.lt (fun e => hne e.symm)]
  exact h
theorem VRow.putObj {W : World} {B D : Nat} {T : TypeId} {vals : List Value} (h : VRow W B T vals) {o : Obj} (o' : Obj) (hD : W.heap[D]? = some o) (hc : o.isCells = false) : VRow (W.putObj D o') B T vals :=
  h.kept (grownBy_putObj' W D o') fun r e => by cases e; exact ⟨o, hD, hc⟩
theorem Own.putObj {W : World} {base D : Nat} {v : Value} {xs : List Int} (h : Own W base v xs) {o : Obj} (o' : Obj) (hD : W.heap[D]? = some o) (hc : o.isCells = false) : Own (W.putObj D o') base v xs :=
  ownsRow_putObj h o' hD hc
theorem Ints.putObj {W : World} {D : Nat} {a : Option Addr} {n c : Nat} {xs : List Int} (h : Ints W a n c xs) (o' : Obj) {o : Obj} (hD : W.heap[D]? = some o) (hc : o.isCells = false) : Ints (W.putObj D o') a n c xs :=
  h.kept (grownBy_putObj' W D o') fun hn b' o2 e e' => by
    cases e'
    obtain ⟨z, hz, _⟩ := h.get hn
    have h2 := h.cell D o2 e 0 z hz
    obtain ⟨vals, T, cl, hcells⟩ : ∃ vals T cl, W.heap[D]? = some (Obj.cells vals T cl) := by
      simp only [World.cell?] at h2
      cases hb : W.heap[D]? with
      | none => rw [hb] at h2; cases h2
      | some ob =>
        rw [hb] at h2
        cases ob with
        | cells vals T cl => exact ⟨_, _, _, rfl⟩
        | _ => cases h2
    rw [hcells] at hD
    cases hD
    cases hc
theorem Below.put {W : World} {n D : Nat} {o : Obj} (hD : W.heap[D]? = some o) (hn : n ≤ D) (o' : Obj) : Below n W (W.putObj D o') :=
  (Below.refl n W).grown (grownBy_putObj' W D o') (by have := (Array.getElem?_eq_some_iff.1 hD).1; omega) (fun k e => by cases e; exact hn)
end Go.Proofs.YtkddkkcfpnndlaaGreatDoor

namespace Go.Proofs.YtkddkkcfpnndlaaGreatDoor
open Go.RowKit Go.Shelf

theorem YieldAt.within {F : Fence} {m : Nat} (l' : Nat) {P : Program} {l : Nat} {args : Array Value} {W : World} {R : Ending → World → Prop} (h : YieldAt F m P l args W R) : YieldAt (F.inRound l') m P l args W R := h

/-! ### blocks that stay, but for some -/
structure Kx (X : Nat → Prop) (W W' : World) : Prop where
  size : W.heap.size ≤ W'.heap.size
  same : ∀ b o, W.heap[b]? = some o → ¬ X b → W'.heap[b]? = some o
theorem Kx.refl (X : Nat → Prop) (W : World) : Kx X W W := ⟨Nat.le_refl _, fun _ _ h _ => h⟩
theorem Kx.trans {X : Nat → Prop} {A B C : World} (h : Kx X A B) (k : Kx X B C) : Kx X A C := ⟨Nat.le_trans h.size k.size, fun b o hb hx => k.same b o (h.same b o hb hx) hx⟩
theorem Kx.below {X : Nat → Prop} {W W' : World} (h : Below W.heap.size W W') : Kx X W W' :=
  ⟨h.size, fun b o hb _ => by rw [h.block b (Array.getElem?_eq_some_iff.1 hb).1]; exact hb⟩
theorem Kx.alloc (X : Nat → Prop) (W : World) (o : Obj) : Kx X W (W.alloc o) := Kx.below ((Below.refl _ _).alloc (Nat.le_refl _) _)
theorem Kx.putObj {X : Nat → Prop} {W : World} {l : Nat} (hl : X l) (o' : Obj) : Kx X W (W.putObj l o') :=
  ⟨by simp, fun b o2 hb hx => by
    have hne : b ≠ l := fun e => hx (e ▸ hl)
    rw [World.putObj_heap_other hne]; exact hb⟩
theorem Kx.setCell {X : Nat → Prop} {W : World} {a : Addr} (h : X a.block) (v : Value) : Kx X W (W.setCell a v) :=
  ⟨(KeepsOthers.setCell W a v).size, fun b o hb hx => by
    rw [Below.heap_setCell W a v b (fun e => hx (e ▸ h))]; exact hb⟩
theorem Kx.cell {X : Nat → Prop} {W W' : World} (h : Kx X W W') {a : Addr} {v : Value} (hv : W.cell? a = some v) (hx : ¬ X a.block) : W'.cell? a = some v := by
  obtain ⟨o, ho, _⟩ := cells_of_cell hv
  exact (World.cell?_of_block ((h.same _ o ho hx).trans ho.symm)).trans hv
theorem Kx.ints {X : Nat → Prop} {W W' : World} (h : Kx X W W') {a : Option Addr} {n c : Nat} {xs : List Int} (hi : Ints W a n c xs) (hx : ∀ b o, a = some ⟨b, o, none⟩ → 0 < n → ¬ X b) : Ints W' a n c xs :=
  ⟨hi.len, hi.cap, hi.big, hi.addr, fun b o e k x hk => h.cell (hi.cell b o e k x hk) (hx b o e (by have := (List.getElem?_eq_some_iff.1 hk).1; have := hi.len; omega)), hi.bd, hi.nil⟩
theorem OwnFrom.mono {β : Type} {B B' : Nat} {I : β → World → Prop} (h : OwnFrom B I) (hB : B ≤ B') : OwnFrom B' I :=
  fun s W W' row hs hg hr => h s W W' row hs hg fun r e => ⟨Nat.le_trans hB (hr r e).1, (hr r e).2⟩
/-! ### the contract of an iterator that tells what it hands over (G) -/
/-! ### a function that leaves with marks -/
/-- marks of blocks that lie open, each once -/
def Marks (B : Nat) : List Deferred → World → Prop
  | [], _ => True
  | d :: ds, W => (∃ D, d = { target := .collected D, args := #[] } ∧ B ≤ D ∧ W.heap[D]? = some (.deferred (some [])) ∧ ∀ d' ∈ ds, d' ≠ d) ∧ Marks B ds W
theorem Marks.from {B B' : Nat} (hB : B' ≤ B) : ∀ {ds : List Deferred} {W : World}, Marks B ds W → Marks B' ds W
  | [], _, _ => trivial
  | _ :: _, _, ⟨⟨D, e, h1, hD, hn⟩, h⟩ => ⟨⟨D, e, Nat.le_trans hB h1, hD, hn⟩, h.from hB⟩
theorem Marks.at' {B : Nat} : ∀ {ds : List Deferred} {W : World}, Marks B ds W → ∀ D, ({ target := .collected D, args := #[] } : Deferred) ∈ ds → B ≤ D
  | _ :: _, _, ⟨⟨D', e, hB, _, _⟩, h⟩, D, hm => by
    rcases List.mem_cons.1 hm with e' | hm
    · rw [e] at e'; cases e'; exact hB
    · exact h.at' D hm
theorem Marks.lt {B : Nat} : ∀ {ds : List Deferred} {W : World}, Marks B ds W → ∀ D, ({ target := .collected D, args := #[] } : Deferred) ∈ ds → D < W.heap.size
  | _ :: _, _, ⟨⟨D', e, _, hD, _⟩, h⟩, D, hm => by
    rcases List.mem_cons.1 hm with e' | hm
    · rw [e] at e'; cases e'; exact (Array.getElem?_eq_some_iff.1 hD).1
    · exact h.lt D hm
theorem Marks.new {B : Nat} {ds : List Deferred} {W : World} {D : Nat} (h : Marks B ds W) (hB : B ≤ D) (hD : W.heap[D]? = some (.deferred (some []))) (hn : ∀ D', ({ target := .collected D', args := #[] } : Deferred) ∈ ds → D' ≠ D) : Marks B ({ target := .collected D, args := #[] } :: ds) W :=
  ⟨⟨D, rfl, hB, hD, fun _ hd' e => hn D (e ▸ hd') rfl⟩, h⟩
theorem Marks.at {B : Nat} : ∀ {ds : List Deferred} {W : World} {D : Nat}, Marks B ds W → ({ target := .collected D, args := #[] } : Deferred) ∈ ds → B ≤ D ∧ W.heap[D]? = some (.deferred (some []))
  | d :: ds, W, D, ⟨⟨D', e, hB, hD, _⟩, h⟩, hm => by
    rcases List.mem_cons.1 hm with e' | hm
    · rw [e] at e'; cases e'; exact ⟨hB, hD⟩
    · exact h.at hm
end Go.Proofs.YtkddkkcfpnndlaaGreatDoor
