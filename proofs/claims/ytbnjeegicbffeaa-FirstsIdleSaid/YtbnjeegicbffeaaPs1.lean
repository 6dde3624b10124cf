/- Walks: slices.Clone, Clip at ints; paths.begin: what a search holds in memory. -/
import Derived.Test.YtbnjeegicbffeaaGr2
import Derived.Test.YtbnjeegicbffeaaHall
namespace Go.Proofs.Ytbnjeegicbffeaa
open Go.RowKit

/-- 'append(s, l...)' at ints, whatever l is -/
theorem appAny {ops : Array Oper} {rest : List Oper} {o : Oper} {a : Act} {Q : Exit → Act → World → Prop} (w : World) (hgd : o.guard = none) (s x : Operand)
    (ho : o.op = .call { callee := .builtin .append, args := #[s, x], argTypes := #[22, 22] })
    (base : Nat) (v : Value) (xs : List Int) (hs : a.eval s = v) (hown : Own w base v xs) (la : Option Addr) (m c : Nat) (ys : List Int) (hx : a.eval x = .slice la m c) (hy : Ints w la m c ys)
    (hlen : xs.length + m < 17592186044000) (hbase : base ≤ w.heap.size)
    (h : ∀ v' w', Own w' base v' (xs ++ ys) → w.grownBy w' v.ownBlock → Below base w w' → (v'.ownBlock = v.ownBlock ∨ v'.ownBlock = some w.heap.size) → wpList Try.prog ops Q rest (a.put o.dst v') w') : wpList Try.prog ops Q (o :: rest) a w := by
  by_cases hpos : 0 < m
  · exact appMany w hgd s x ho base v xs hs hown la m c ys hx hy hpos hlen hbase h
  · obtain rfl : m = 0 := by omega
    have hys : ys = [] := List.eq_nil_of_length_eq_zero hy.len
    subst hys
    obtain ⟨i0, hi, hz0, hz1, hz2⟩ := info_parts infoInt
    cases la with
    | none =>
      obtain ⟨_, rfl⟩ := hy.nil rfl
      refine app0 w hgd s x ho base v xs hs hown hx ?_
      exact h v w (by simpa using hown) (World.grownBy.refl _ _) (Below.refl _ _) (.inl rfl)
    | some ad =>
      refine wpList_append_own_at w hgd s x _ ho base 3 i0 _ 1 8 Try.underlying22 hi hz0 hz1 hz2 rfl (by decide) v xs.length _ hs hown ad 0 c [] hx rfl ?_ ?_ ?_ ?_ hbase ?_
      · intro j u hu; simp at hu
      · intro u hu; cases hu
      · unfold maxLen; omega
      · omega
      · intro v' w' hown' hg _ hat
        refine h v' w' ?_ hg ((Below.refl base w).grown hg hbase fun k hk => (World.ownsRow.lt hown k hk).1) hat
        unfold Own
        simpa using hown'

set_option maxHeartbeats 400000 in
theorem clone_any (a : Option Addr) (n c : Nat) (xs : List Int) (w : World) (h : Ints w a n c xs) (hsz : n < 17592186044000) :
    Calls Try.prog 62 #[.slice a n c] w fun e w' => ∃ v, e = .returned v ∧ Own w' w.heap.size v xs ∧ Below w.heap.size w w' := by
  have HI := Lib.hid h; clear h
  cases a with
  | none =>
    obtain ⟨rfl, rfl⟩ := HI.out.nil rfl
    have hxs : xs = [] := List.eq_nil_of_length_eq_zero HI.out.len
    subst hxs
    have hq := fun w : World => Lib.run_eql_slice_nil (P := Try.prog) w 22 3 none 0 0 0 0 Try.underlying22
    go_enter Try.func62, Try.ntmps62
    go_wp2_with fail
    go_ret
    exact ⟨_, rfl, Own.nil _ _, Below.refl _ _⟩
  | some ad =>
    have hq := fun w : World => Lib.run_eql_slice_nil (P := Try.prog) w 22 3 (some ad) n c 0 0 Try.underlying22
    have ho : Own (w.alloc (.cells #[] 3)) w.heap.size (.slice (some ⟨w.heap.size, 0, none⟩) 0 0) [] :=
      ⟨rfl, .inr ⟨w.heap.size, 0, #[], rfl, Nat.le_refl _, heap_alloc_new w _, Nat.le_refl _, Nat.zero_le _, rfl, rfl⟩⟩
    have HO := Lib.hid ho; clear ho
    have hb : Below w.heap.size w (w.alloc (.cells #[] 3)) := (Below.refl _ _).alloc (Nat.le_refl _) _
    have HB := Lib.hid hb; clear hb
    go_enter Try.func62, Try.ntmps62
    go_wp2_with (at_builtin; refine appAny _ rfl _ _ rfl w.heap.size _ [] rfl HO.out (some ad) n c xs rfl (HI.out.below HB.out (Nat.le_refl _)) (by simpa using hsz) (by simp) ?_; intro v' w' hown' _ hb' _)
    have HO2 := Lib.hid hown'; clear hown'
    have HB2 := Lib.hid hb'; clear hb'
    go_wp2_with fail
    go_ret
    exact ⟨_, rfl, by simpa using HO2.out, HB.out.trans HB2.out⟩

theorem clip_any (a : Option Addr) (n c : Nat) (w : World) (hc : n ≤ c) :
    Calls Try.prog 54 #[.slice a n c] w fun e w' => e = .returned (.slice a n n) ∧ w = w' := by
  go_enter Try.func54, Try.ntmps54
  go_wp2_with fail
  go_ret
  exact ⟨rfl, rfl⟩
end Go.Proofs.Ytbnjeegicbffeaa
