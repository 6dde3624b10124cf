/- Walks: halls.sets: the sets of so many of the items from some one on. -/
import Derived.Test.YtkddkkcfpnndlaaGreatDoorVq19
import Derived.Test.YtkddkkcfpnndlaaGreatDoorVq21
import Derived.Test.YtkddkkcfpnndlaaGreatDoorVq17
namespace Go.Proofs.YtkddkkcfpnndlaaGreatDoor
open Go.RowKit Go.Shelf

attribute [local go_sem] Oper.semAt_some

/-- a list that is handed over: its value, and what it reads as -/
structure Sl where
  a : Option Addr
  n : Nat
  c : Nat
  l : List Nat
abbrev encS (x : Sl) : Array Value := #[.slice x.a x.n x.c]
def GS (m : Nat) (x : Sl) (W : World) : Prop := Ints W x.a x.n x.c (nats x.l) ∧ x.l.length = m
theorem own_gs (B m : Nat) (x : Sl) : OwnFrom B (fun (_ : Unit) W => GS m x W) := OwnFrom.and (own_ints _ _ _ _ _) (ownFrom_pure _ _)

theorem sets_any (aa : Option Addr) (an ac : Nat) (start items many : Int) (w : World) :
    Calls Tryz.prog 217 #[.slice aa an ac, .int .i64 start, .int .i64 items, .int .i64 many] w fun e w' =>
      e = .returned (.func (.func 229) #[] #[.pointer (some ⟨w.heap.size + 1 + 1 + 1, 0, none⟩), .pointer (some ⟨w.heap.size, 0, none⟩), .pointer (some ⟨w.heap.size + 1, 0, none⟩), .pointer (some ⟨w.heap.size + 1 + 1, 0, none⟩)]) ∧
      (((w.alloc (.cells #[.slice aa an ac] 25)).alloc (.cells #[.int .i64 start] 3)).alloc (.cells #[.int .i64 items] 3)).alloc (.cells #[.int .i64 many] 3) = w' := by
  go_enter Tryz.func217, Tryz.ntmps217
  go_wp2_with fail
  go_ret
  exact ⟨rfl, rfl⟩

def SetsOk (N c : Nat) : Prop := ∀ (start : Nat) (ahead : List Nat) (bm ba bf bi : Nat) (aa : Option Addr) (an ac : Nat) (X : Nat → Prop) (w : World),
  Boxed w bm 3 (.int .i64 c) → Boxed w ba 25 (.slice aa an ac) → Boxed w bf 3 (.int .i64 start) → Boxed w bi 3 (.int .i64 N) → Ints w aa an ac (nats ahead) → ahead.length + c ≤ 8 → start ≤ 8 →
  (∀ b, X b → b < w.heap.size) → (∀ b o, aa = some ⟨b, o, none⟩ → 0 < an → ¬ X b) → ¬ X bm → ¬ X ba → ¬ X bf → ¬ X bi →
  SeqM Tryz.prog 229 #[.pointer (some ⟨bm, 0, none⟩), .pointer (some ⟨ba, 0, none⟩), .pointer (some ⟨bf, 0, none⟩), .pointer (some ⟨bi, 0, none⟩)] encS X (GS (ahead.length + c))
    (fun ys => ys.map (·.l) = Way.sets N c start ahead) (fun pre => pre.map (·.l) <+: Way.sets N c start ahead) (Way.sets N c start ahead).length w

theorem boxed_past {w W : World} {B b : Nat} {t : TypeId} {v : Value} (h : Boxed w b t v) (hb : Below B w W) (hB : w.heap.size ≤ B) : Boxed W b t v := by
  unfold Boxed at *
  have := (Array.getElem?_eq_some_iff.1 h).1
  rw [hb.block b (by omega)]; exact h

set_option maxRecDepth 100000 in
set_option maxHeartbeats 1000000 in
theorem sets_zero (N : Nat) : SetsOk N 0 := by
  intro start ahead bm ba bf bi aa an ac X w hm ha hf hi hI hlen hst hXw hXa hXm hXb hXf hXi l J Jx W hW hl hlt hJ hJx hY h0
  have hm1 := (boxed_past hm hW (Nat.le_refl _)).cell
  have ha1 := (boxed_past ha hW (Nat.le_refl _)).cell
  have hI1 := hI.below hW (Nat.le_refl _)
  have hmz := (boxed_past hm hW (Nat.le_refl _)).lt
  have haz := (boxed_past ha hW (Nat.le_refl _)).lt
  have hb1 : Below W.heap.size W (W.alloc (.cells #[.func (.yield l) #[] #[]] 128)) := (Below.refl _ _).alloc (Nat.le_refl _) _
  obtain ⟨fn, tmps, assign, body, hy, hR⟩ := hY [] ⟨aa, an, ac, ahead⟩ (W.alloc (.cells #[.func (.yield l) #[] #[]] 128)) ⟨hI1.below hb1 (Nat.le_refl _), rfl⟩ (OwnFrom.fresh hJ h0 hb1) (by simp [Way.sets])
  dsimp only [encS] at hy
  refine callsIn_of_wp Tryz.func229 rfl trivial ?_ rfl
  simp only [Tryz.ntmps229, List.size_toArray, List.length_cons, List.length_nil, Nat.reduceAdd, Nat.reduceSub, Array.replicate_succ, Array.replicate_zero, List.push_toArray, List.append_toArray, List.nil_append, List.cons_append]
  clear hm ha hf hi hI hlen hst hXw hXa hXm hXb hXf hXi hW hl hlt hJ hJx hY h0 hI1 hb1
  gi_wp2
  refine hR.mono ?_
  rintro e W3 ⟨(⟨rfl, hJ3⟩ | ⟨rfl, hJ3⟩), _⟩
  · gi_wp2
    refine bodyPost_ret (results_none rfl _ _ _) rfl ?_
    exact ⟨⟨_, rfl⟩, .inl ⟨_, rfl, hJ3⟩⟩
  · gi_wp2
    refine bodyPost_ret (results_none rfl _ _ _) rfl ?_
    exact ⟨⟨_, rfl⟩, .inr ⟨_, List.prefix_refl _, hJ3⟩⟩
end Go.Proofs.YtkddkkcfpnndlaaGreatDoor
