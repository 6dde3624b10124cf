/- Walks: forests.Of. -/
import Derived.Test.YtkddkkcfpnndlaaDoorFo22
import Derived.Test.YtkddkkcfpnndlaaDoorFo20
import Derived.ScopeJumps
import Derived.WalkMore
import Derived.Carry
namespace Go.Proofs.YtkddkkcfpnndlaaDoor
open Go.RowKit Sale Tree

/-- a scope with a jump back to one label: what is shown behind the label serves where the run first comes to it, too -/
theorem wp_scope_once {P : Program} {a : Act} {w : World} {Q : Exit → Act → World → Prop} {c rest : Code} (l : Nat) (J : Act → World → Prop) (μ : Act → World → Nat) (hf : findLabel c l = some (Code.skip.seq rest))
    (first : (∀ a w, J a w → rest.wp P (Exit.jump l J Q) a w) → c.wp P (Exit.jump l J Q) a w)
    (pass : ∀ a w, J a w → rest.wp P (Exit.jump l (fun a' w' => J a' w' ∧ μ a' w' < μ a w) Q) a w) : (Code.scope c).wp P Q a w :=
  wp_scope_jumps l J μ hf (first fun a w h => Code.wp_mono (fun e a w he => by
    cases e with
    | goto l' => exact ⟨he.1, he.2.1⟩
    | normal => exact he
    | exit id => exact he
    | ret => exact he
    | panic ch => exact he
    | outgrown => exact he) (pass a w h)) (fun a w h => wp_seq (wp_skip (pass a w h)))
theorem VRow.far {w : World} {B : Nat} {T : TypeId} {vals : List Value} (h : VRow w B T vals) {a : Addr} (ha : B ≠ a.block) (v : Value) : VRow (w.setCell a v) B T vals := by
  unfold VRow; rw [heap_setCell_other w a B v ha]; exact h
theorem VRow.grownBy {w w' : World} {B : Nat} {T : TypeId} {vals : List Value} {row : Option Nat} (h : VRow w B T vals) (hg : w.grownBy w' row) (hne : row ≠ some B) : VRow w' B T vals := by
  unfold VRow; rw [hg.block B h.lt (fun e => hne e.symm)]; exact h
/-- a cell of another block is written -/
theorem VAt.far {w : World} {B1 B2 B3 : Nat} {ra ba oa ha pa : Option Addr} {rn rc bn bc on oc hn hc pn pc : Nat} {m : Mkt} {o : Outc} {wr : World} (h : VAt w B1 B2 B3 ra ba oa ha pa rn rc bn bc on oc hn hc pn pc m o wr) (hm : MktAt w ra ba oa rn rc bn bc on oc m) (ho : OutAt w ha pa hn hc pn pc o)
    {a : Addr} (hA : w.heap.size ≤ a.block) (h1 : B1 ≠ a.block) (h2 : B2 ≠ a.block) (h3 : B3 ≠ a.block) (v : Value) : VAt w B1 B2 B3 ra ba oa ha pa rn rc bn bc on oc hn hc pn pc m o (wr.setCell a v) := by
  have hb := h.below.setCell hA v
  exact ⟨h.v1.far h1 v, h.v2.far h2 v, h.v3.far h3 v, hm.below hb (Nat.le_refl _), ho.below hb (Nat.le_refl _), hb⟩
theorem VAt.grown {w : World} {B1 B2 B3 : Nat} {ra ba oa ha pa : Option Addr} {rn rc bn bc on oc hn hc pn pc : Nat} {m : Mkt} {o : Outc} {wr wr' : World} (h : VAt w B1 B2 B3 ra ba oa ha pa rn rc bn bc on oc hn hc pn pc m o wr) (hm : MktAt w ra ba oa rn rc bn bc on oc m) (ho : OutAt w ha pa hn hc pn pc o)
    {b : Nat} (hg : wr.grownBy wr' (some b)) (hb : w.heap.size ≤ b) (h1 : b ≠ B1) (h2 : b ≠ B2) (h3 : b ≠ B3) : VAt w B1 B2 B3 ra ba oa ha pa rn rc bn bc on oc hn hc pn pc m o wr' := by
  have hbl := h.below.grown hg h.below.size (fun k hk => by cases hk; exact hb)
  exact ⟨h.v1.grownBy hg (by simpa using h1), h.v2.grownBy hg (by simpa using h2), h.v3.grownBy hg (by simpa using h3), hm.below hbl (Nat.le_refl _), ho.below hbl (Nat.le_refl _), hbl⟩

/-- the state of the search behind r rounds -/
structure Hunt (w : World) (B1 B2 B3 Bo Bm : Nat) (ra ba oa ha pa : Option Addr) (rn rc bn bc on oc hn hc pn pc : Nat) (m : Mkt) (o : Outc) (s : Sta) (lf : Int) (wr : World) : Prop where
  view : VAt w B1 B2 B3 ra ba oa ha pa rn rc bn bc on oc hn hc pn pc m o wr
  out : WRow wr Bo (outL pn s)
  ranks : ∃ n cnt, n + leftN pn s = pn + 1 ∧ MapI wr Bm n (rkF (clipS pn s)) cnt
  left : lf = (leftN pn s : Int)
  new : w.heap.size ≤ Bo ∧ w.heap.size ≤ Bm ∧ Bo ≠ B1 ∧ Bo ≠ B2 ∧ Bo ≠ B3 ∧ Bm ≠ Bo ∧ Bm ≠ B1 ∧ Bm ≠ B2 ∧ Bm ≠ B3

/-- a frame of 128 slots -/
def fr128 (u : Nat → Value) : Array Value := #[u 0, u 1, u 2, u 3, u 4, u 5, u 6, u 7, u 8, u 9, u 10, u 11, u 12, u 13, u 14, u 15, u 16, u 17, u 18, u 19, u 20, u 21, u 22, u 23, u 24, u 25, u 26, u 27, u 28, u 29, u 30, u 31, u 32, u 33, u 34, u 35, u 36, u 37, u 38, u 39, u 40, u 41, u 42, u 43, u 44, u 45, u 46, u 47, u 48, u 49, u 50, u 51, u 52, u 53, u 54, u 55, u 56, u 57, u 58, u 59, u 60, u 61, u 62, u 63, u 64, u 65, u 66, u 67, u 68, u 69, u 70, u 71, u 72, u 73, u 74, u 75, u 76, u 77, u 78, u 79, u 80, u 81, u 82, u 83, u 84, u 85, u 86, u 87, u 88, u 89, u 90, u 91, u 92, u 93, u 94, u 95, u 96, u 97, u 98, u 99, u 100, u 101, u 102, u 103, u 104, u 105, u 106, u 107, u 108, u 109, u 110, u 111, u 112, u 113, u 114, u 115, u 116, u 117, u 118, u 119, u 120, u 121, u 122, u 123, u 124, u 125, u 126, u 127]
theorem fr128_of (T : Array Value) (h : T.size = 128) : ∃ u, T = fr128 u := by
  refine ⟨fun i => T.getD i undef, ?_⟩
  apply Array.ext'
  rw [show (fr128 fun i => T.getD i undef).toList = (List.range 128).map fun i => T.getD i undef from rfl]
  apply List.ext_getElem?
  intro i
  by_cases hi : i < 128
  · rw [List.getElem?_map, List.getElem?_range hi, Option.map_some, Array.getD_eq_getD_getElem?, Array.getElem?_toList, Array.getElem?_eq_getElem (by omega), Option.getD_some]
  · rw [List.getElem?_eq_none (by rw [Array.length_toList]; omega), List.getElem?_eq_none (by simp; omega)]
def AtNext (w : World) (B1 B2 B3 Bo Bm : Nat) (ra ba oa ha pa : Option Addr) (rn rc bn bc on oc hn hc pn pc : Nat) (m : Mkt) (o : Outc) (r : Nat) (a' : Act) (w' : World) : Prop :=
  r + leftN pn (lv (woodOf m o) r) ≤ pn ∧ ∃ lf : Int, Hunt w B1 B2 B3 Bo Bm ra ba oa ha pa rn rc bn bc on oc hn hc pn pc m o (lv (woodOf m o) r) lf w' ∧
  ∃ T : Array Value, a' = { tmps := T, defers := [] } ∧ T.size = 128 ∧ T.getD 2 undef = .pointer (some ⟨B1, 0, none⟩) ∧ T.getD 3 undef = .pointer (some ⟨B2, 0, none⟩) ∧ T.getD 4 undef = .slice none 0 0 ∧ T.getD 5 undef = .int .i64 0 ∧ T.getD 6 undef = .pointer (some ⟨B3, 0, none⟩) ∧
    T.getD 7 undef = .slice (some ⟨Bo, 0, none⟩) pn pn ∧ T.getD 8 undef = .int .i64 lf ∧ T.getD 9 undef = .map (some Bm) ∧ T.getD 11 undef = .int .i64 ((r : Int) + 1)

/-- how many are left: what a pass that jumps back lowers -/
def fofMu (a : Act) (_ : World) : Nat := (intOf (a.tmps.getD 8 undef)).toNat
def scopeIn : Code → Option Code
  | .scope c => some c
  | .seq a b => match scopeIn a with
    | some c => some c
    | none => scopeIn b
  | .block _ c => scopeIn c
  | _ => none
def behind : Option Code → Code
  | some (.seq .skip c) => c
  | _ => .skip
/-- the code behind the label -/
noncomputable def fofPass : Code := behind ((Tryd.f8.body.bind scopeIn).bind fun c => findLabel c 0)
/-- what comes back -/
def FofSays (m : Mkt) (o : Outc) (w : World) (e : Ending) (w' : World) : Prop :=
  Below w.heap.size w w' ∧ ((allB (woodOf m o) = true ∧ ∃ a n c, e = .returned (.tuple #[.slice a n c, .int .i64 0]) ∧ Whys w' a n c (outL o.prices.length (lv (woodOf m o) o.prices.length))) ∨
    (allB (woodOf m o) = false ∧ e = .returned (.tuple #[.slice none 0 0, .int .i64 7])))
end Go.Proofs.YtkddkkcfpnndlaaDoor
