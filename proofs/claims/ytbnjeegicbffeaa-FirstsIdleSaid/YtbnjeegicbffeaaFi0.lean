/- Walks: the law FirstsIdle: what the operations of its two great regions yield. -/
import Derived.Test.YtbnjeegicbffeaaLive
import Derived.Test.YtbnjeegicbffeaaFa1
import Derived.Test.YtbnjeegicbffeaaOwn2
import Derived.Test.YtbnjeegicbffeaaApp
namespace Go.Proofs.Ytbnjeegicbffeaa
open Go.RowKit Sale

theorem Ints.drop {w : World} {b o n c : Nat} {xs : List Int} (h : Ints w (some ⟨b, o, none⟩) n c xs) {k : Nat} (hk : k ≤ n) : Ints w (some ⟨b, o + k, none⟩) (n - k) (c - k) (xs.drop k) :=
  ⟨by rw [List.length_drop, h.len], by have := h.cap; omega, by have := h.big; omega, fun _ => ⟨b, o + k, rfl⟩, fun b' o' e j y hy => by
    cases e
    rw [List.getElem?_drop] at hy
    have := h.cell b o rfl (k + j) y hy
    rwa [← Nat.add_assoc] at this, fun y hy => h.bd y (List.mem_of_mem_drop hy), fun e => by cases e⟩
theorem Ints.take' {w : World} {a : Option Addr} {n c : Nat} {xs : List Int} (h : Ints w a n c xs) {k : Nat} (hk : k ≤ n) : Ints w a k c (xs.take k) :=
  ⟨by rw [List.length_take, h.len]; omega, Nat.le_trans hk h.cap, by have := h.big; omega, fun h0 => h.addr (by omega), fun b o e j x hx => by
    have hj : j < k := by have := (List.getElem?_eq_some_iff.1 hx).1; simp at this; omega
    rw [List.getElem?_take_of_lt hj] at hx
    exact h.cell b o e j x hx, fun x hx => h.bd x (List.mem_of_mem_take hx), fun e => by have := h.nil e; omega⟩
theorem Own.lower {w : World} {base B : Nat} {v : Value} {xs : List Int} (h : Own w base v xs) (hB : B ≤ base) : Own w B v xs := by
  obtain ⟨h1, h2⟩ := h
  refine ⟨h1, ?_⟩
  rcases h2 with h2 | ⟨g, cap, cur, hv, hg, r⟩
  · exact .inl h2
  · exact .inr ⟨g, cap, cur, hv, by omega, r⟩
theorem Own.step {w w' : World} {base : Nat} {v : Value} {xs : List Int} (h : Own w base v xs) (hb : Below w.heap.size w w') : Own w' base v xs := h.below hb (Nat.le_refl _)
theorem OwnRows.step {w w' : World} {base : Nat} {v : Value} {xs : List (List Int)} (h : OwnRows w base v xs) (hb : Below w.heap.size w w') : OwnRows w' base v xs := h.below hb (Nat.le_refl _)

/-- what each operation yields where another is set into the order -/
def PF (w0 : World) (H : Nat) (oa ga : Option Addr) (n1 oc gc kk : Nat) (t1 t2 t3 t4 : List Int) (i : Nat) (x : Value) (w : World) : Prop := match i with
  | 0 => x = .slice oa n1 oc
  | 1 => x = .int .i64 kk
  | 2 => ∃ a c, x = .slice a kk c ∧ Ints w0 a kk c t1
  | 3 => Own w w0.heap.size x t1
  | 4 => x = .pointer (some ⟨H, 0, none⟩)
  | 5 => x = .slice ga n1 gc
  | 6 => x = .int .i64 n1
  | 7 => ∃ g, x = .slice (some ⟨g, 0, none⟩) 1 1 ∧ w.cell? ⟨g, 0, none⟩ = some (.int .i64 n1)
  | 8 => Own w w0.heap.size x t3
  | 9 => x = .slice oa n1 oc
  | 10 => x = .int .i64 kk
  | 11 => ∃ a c, x = .slice a (n1 - kk) c ∧ Ints w0 a (n1 - kk) c t2
  | 12 => Own w w0.heap.size x t4
  | _ => True
def deadF (i j : Nat) : Bool := (i == 8 || i == 12) && (j == 3 || j == 7 || j == 8 || (j == 12))
theorem PF_mono {w0 : World} {H : Nat} {oa ga : Option Addr} {n1 oc gc kk : Nat} {t1 t2 t3 t4 : List Int} (i j : Nat) (y : Value) (w w' : World) (hd : deadF i j = false) (hR : i ≠ 8 → i ≠ 12 → Below w.heap.size w w') (h : PF w0 H oa ga n1 oc gc kk t1 t2 t3 t4 j y w) : PF w0 H oa ga n1 oc gc kk t1 t2 t3 t4 j y w' := by
  have hb : (j = 3 ∨ j = 7 ∨ j = 8 ∨ j = 12) → Below w.heap.size w w' := fun hj => hR (fun e => by subst e; rcases hj with rfl | rfl | rfl | rfl <;> simp [deadF] at hd) (fun e => by subst e; rcases hj with rfl | rfl | rfl | rfl <;> simp [deadF] at hd)
  match j, h, hb with
  | 0, h, _ | 1, h, _ | 2, h, _ | 4, h, _ | 5, h, _ | 6, h, _ | 9, h, _ | 10, h, _ | 11, h, _ => exact h
  | 3, h, hb => exact Own.step h (hb (by simp))
  | 7, h, hb => obtain ⟨g, e, hc⟩ := h; exact ⟨g, e, cell_step (hb (by simp)) hc⟩
  | 8, h, hb => exact Own.step h (hb (by simp))
  | 12, h, hb => exact Own.step h (hb (by simp))
  | _ + 13, _, _ => trivial
theorem appRowG {ops : Array Oper} {rest : List Oper} {o : Oper} {a : Act} {Q : Exit → Act → World → Prop} (w : World) (hgd : o.guard = none) (s x : Operand)
    (ho : o.op = .call { callee := .builtin .append, args := #[s, x], argTypes := #[23, 23] })
    (base : Nat) (v : Value) (xss : List (List Int)) (hs : a.eval s = v) (hown : OwnRows w base v xss) (b off c : Nat) (la : Option Addr) (ln lc : Nat) (ys : List Int) (hx : a.eval x = .slice (some ⟨b, off, none⟩) 1 c)
    (hc : w.cell? ⟨b, off, none⟩ = some (.slice la ln lc)) (hy : Ints w la ln lc ys) (hapart : 0 < ln → ∀ b o, la = some ⟨b, o, none⟩ → v.ownBlock ≠ some b) (hlen : xss.length < 1000000000000) (hbase : base ≤ w.heap.size)
    (h : ∀ g cap w', OwnRows w' base (.slice (some ⟨g, 0, none⟩) (xss.length + 1) cap) (xss ++ [ys]) → Below base w w' → w.grownBy w' v.ownBlock → wpList Try.prog ops Q rest (a.put o.dst (.slice (some ⟨g, 0, none⟩) (xss.length + 1) cap)) w') : wpList Try.prog ops Q (o :: rest) a w := by
  obtain ⟨i0, hi, hz0, hz1, hz2⟩ := info_parts infoInts
  obtain ⟨vals, h1, h3, h4⟩ := hown
  refine wpList_append_own_at w hgd s x _ ho base 22 i0 _ 1 24 Try.underlying23 hi hz0 hz1 hz2 rfl (by decide) v vals.length _ hs h1 ⟨b, off, none⟩ 1 c [.slice la ln lc] hx rfl ?_ ?_ ?_ ?_ hbase ?_
  · intro j u hu
    cases j with
    | zero => simp at hu; subst hu; simpa [Addr.add] using hc
    | succ j => simp at hu
  · intro u hu; simp at hu; subst hu; rfl
  · unfold maxLen; omega
  · omega
  · intro v' w' hown' hg hnil hat
    have hne : v' ≠ .slice none 0 0 := fun e => by have := (hnil.1 e).2; omega
    rcases hown'.2 with ⟨e, _⟩ | ⟨g, cap, cur, hv, r⟩
    · exact absurd e hne
    · subst hv
      rw [h3]
      refine h g cap w' ⟨vals ++ [.slice la ln lc], by rw [List.length_append, List.length_singleton, ← h3]; exact hown', by simp [h3], fun i xs hi => ?_⟩ ((Below.refl base w).grown hg hbase fun k hk => (World.ownsRow.lt h1 k hk).1) hg
      have hnew : ∀ b' : Nat, b' < w.heap.size → v.ownBlock ≠ some b' → (Value.slice (some ⟨g, 0, none⟩) (vals.length + 1) cap).ownBlock ≠ some b' := fun b' hb' hv e => by
        rcases hat with e' | e'
        · rw [e'] at e; exact hv e
        · rw [e'] at e; have := Option.some.inj e; omega
      by_cases hil : i < xss.length
      · rw [List.getElem?_append_left hil] at hi
        obtain ⟨a', n', c', e1, e2, e3⟩ := h4 i xs hi
        exact ⟨a', n', c', by rw [List.getElem?_append_left (by omega)]; exact e1, e2.kept hg e3, fun hn b' o' e => hnew b' (e2.lt hn e) (e3 hn b' o' e)⟩
      · have hil2 : i = xss.length := by have := (List.getElem?_eq_some_iff.1 hi).1; simp at this; omega
        subst hil2
        rw [List.getElem?_append_right (Nat.le_refl _)] at hi
        simp at hi
        subst hi
        exact ⟨la, ln, lc, by rw [List.getElem?_append_right (by omega), h3]; simp, hy.kept hg hapart, fun hn b' o' e => hnew b' (hy.lt hn e) (hapart hn b' o' e)⟩

/-- what each operation yields where the first of the best is asked for all and one more -/
def PG (B H : Nat) (v9 : Value) (ai ao : Option Addr) (n k ci co : Nat) (M : List (List Int)) (idle t4 R : List Int) (i : Nat) (x : Value) (w : World) : Prop := match i with
  | 0 => x = v9 ∧ OwnRows w B v9 M
  | 1 => x = .slice ai (n + 1) ci ∧ Ints w ai (n + 1) ci idle
  | 2 => ∃ g, x = .slice (some ⟨g, 0, none⟩) 1 1 ∧ w.cell? ⟨g, 0, none⟩ = some (.slice ai (n + 1) ci) ∧ Ints w ai (n + 1) ci idle
  | 3 => OwnRows w B x (M ++ [idle])
  | 4 => x = .pointer (some ⟨H, 1, none⟩)
  | 5 => x = .int .i64 n
  | 6 => x = .int .i64 ((n : Int) + 1)
  | 7 => x = .slice ao (k + 1) co ∧ Ints w ao (k + 1) co t4
  | 8 => ∃ a m c, x = .tuple #[.slice a m c, .int .i64 0] ∧ Ints w a m c R
  | 9 => ∃ a m c, x = .tuple #[.slice a m c, .int .i64 0] ∧ Ints w a m c R
  | 10 => ∃ a m c, x = .slice a m c ∧ Ints w a m c R
  | 11 => x = .int .i64 0
  | 12 => ∃ a m c, x = .slice a m c ∧ Ints w a m c R
  | _ => True
def deadG (i j : Nat) : Bool := i == 3 && (j == 0 || j == 1 || j == 2 || j == 3 || j == 8 || j == 9 || j == 10 || j == 12)
theorem PG_mono {B H : Nat} {v9 : Value} {ai ao : Option Addr} {n k ci co : Nat} {M : List (List Int)} {idle t4 R : List Int} (hsep : 0 < k + 1 → ∀ b o, ao = some ⟨b, o, none⟩ → v9.ownBlock ≠ some b) (i j : Nat) (y : Value) (w w' : World) (hd : deadG i j = false)
    (hR : (i ≠ 3 → Below w.heap.size w w') ∧ (i = 3 → w.grownBy w' v9.ownBlock)) (h : PG B H v9 ai ao n k ci co M idle t4 R j y w) : PG B H v9 ai ao n k ci co M idle t4 R j y w' := by
  have hb : (j = 0 ∨ j = 1 ∨ j = 2 ∨ j = 3 ∨ j = 8 ∨ j = 9 ∨ j = 10 ∨ j = 12) → Below w.heap.size w w' := fun hj => hR.1 fun e => by
    subst e; rcases hj with rfl | rfl | rfl | rfl | rfl | rfl | rfl | rfl <;> simp [deadG] at hd
  match j, h, hb with
  | 4, h, _ | 5, h, _ | 6, h, _ | 11, h, _ => exact h
  | 0, h, hb => exact ⟨h.1, h.2.step (hb (by simp))⟩
  | 1, h, hb => exact ⟨h.1, h.2.step (hb (by simp))⟩
  | 2, h, hb => obtain ⟨g, e, h1, h2⟩ := h; exact ⟨g, e, cell_step (hb (by simp)) h1, h2.step (hb (by simp))⟩
  | 3, h, hb => exact OwnRows.step h (hb (by simp))
  | 7, h, _ =>
    by_cases e : i = 3
    · exact ⟨h.1, h.2.kept (hR.2 e) hsep⟩
    · exact ⟨h.1, h.2.step (hR.1 e)⟩
  | 8, h, hb => obtain ⟨a, m, c, e, h⟩ := h; exact ⟨a, m, c, e, h.step (hb (by simp))⟩
  | 9, h, hb => obtain ⟨a, m, c, e, h⟩ := h; exact ⟨a, m, c, e, h.step (hb (by simp))⟩
  | 10, h, hb => obtain ⟨a, m, c, e, h⟩ := h; exact ⟨a, m, c, e, h.step (hb (by simp))⟩
  | 12, h, hb => obtain ⟨a, m, c, e, h⟩ := h; exact ⟨a, m, c, e, h.step (hb (by simp))⟩
  | _ + 13, _, _ => trivial
end Go.Proofs.Ytbnjeegicbffeaa
