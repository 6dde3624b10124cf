/- From the reading of a law's arguments to lists of integers, and from a walk that ends in 'true' to the row. -/
import Derived.Test.YtkddkkcfpnndlaaGreatDoorRows
import Derived.Test.YtkddkkcfpnndlaaGreatDoorOq00
import Derived.ProofKit
import Derived.Lib.SmallJoins
import Derived.Deep.Matrix
import Derived.SizedLaws
namespace Go.Proofs.YtkddkkcfpnndlaaGreatDoor
open Go.ChangeShapes Go.WideShapes Go.ChangeAt Go.RowKit Go.Joins Go.Deep

theorem Tryz.ownL : ownKnob Tryz.prog.godebug = none := by kernel_rfl
theorem Tryz.laidOutL : laidOutB Tryz.prog = true := by kernel_rfl
theorem Tryz.cellsIntL : Tryz.prog.cellsOf 3 = 1 := by kernel_rfl
theorem Tryz.cellsIntsL : Tryz.prog.cellsOf 25 = 1 := by kernel_rfl
theorem Tryz.bytesIntL : Tryz.prog.bytesOf 3 = 8 := by kernel_rfl
theorem Tryz.bytesIntsL : Tryz.prog.bytesOf 25 = 24 := by kernel_rfl

section
variable {H : Type} {enc : TypeId × Value → H}

theorem wf_i64 {n : Int} (h : (Lit.int .i64 n).wf = true) : -9223372036854775808 ≤ n ∧ n ≤ 9223372036854775807 := by
 simp only [Lit.wf, Bool.and_eq_true, decide_eq_true_eq, show IntKind.i64.min = -9223372036854775808 by decide, show IntKind.i64.max = 9223372036854775807 by decide] at h
 exact h

def Sized (t : TypeId) (d : DataW H) : Prop := ∀ n, n ∈ d.weights Tryz.prog t → n ≤ reachBytes

theorem add_of_cell {w : World} {a : Addr} {v : Value} (h : w.cell? (a.add 0) = some v) : a = ⟨a.block, a.off, none⟩ := by
 obtain ⟨b, o, s⟩ := a
 cases s with
 | none => rfl
 | some s =>
   simp only [Addr.add, World.cell?] at h
   split at h <;> simp at h

theorem ints_read {w : World} {fuel : Nat} {v : Value} {x : DataW H × List MemPlace} (h : DataW.trod enc Tryz.prog w 0 (fun _ => true) true fuel 25 [v] = some x) (hs : Sized 25 x.1) :
   ∃ a n c xs, v = .slice a n c ∧ Ints w a n c xs ∧ n * 8 ≤ reachBytes := by
 rcases open_ints Tryz.underlying25 Tryz.underlying3 Tryz.cellsIntL h with ⟨hcs, hx⟩ | ⟨a, len, cap, zs, hcs, hb, hl, hm, hz, rfl, hcell, hwz⟩
 · obtain rfl : v = .slice none 0 0 := by simpa using hcs
   exact ⟨none, 0, 0, [], rfl, Ints.empty _ _ _, by simp⟩
 · obtain rfl : v = .slice (some a) len cap := by simpa using hcs
   simp only [if_true] at hz
   have hw := hs ((len + (cap - len)) * 8) (by simp [DataW.weights, Tryz.underlying25, Tryz.bytesIntL, lits, hz, Nat.min_eq_left hl])
   have hr := reachBytes_lt
   have hn8 : len * 8 ≤ reachBytes := by omega
   refine ⟨some a, len, cap, zs.take len, rfl, ⟨by simp [hz, Nat.min_eq_left hl], hl, by omega, fun h0 => ?_, fun b o e k y hy => ?_, fun y hy => wf_i64 (hwz y (List.mem_of_mem_take hy)), fun e => by cases e⟩, hn8⟩
   · exact ⟨_, _, by rw [← add_of_cell (hcell 0 (by omega))]⟩
   · cases e
     have hk : k < (zs.take len).length := (List.getElem?_eq_some_iff.1 hy).1
     have hk2 : k < zs.length := by simp at hk; omega
     have hc := hcell k hk2
     have e1 : (Addr.mk b o none).add k = ⟨b, o + k, none⟩ := by
       unfold Addr.add; split
       · subst k; rfl
       · rfl
     rw [e1] at hc
     rw [hc]
     rw [List.getElem?_take_of_lt (by simp at hk; omega)] at hy
     simp [List.getD, hy]

theorem weightsAll_mem {t : TypeId} : ∀ {ds : List (DataW H)} {d : DataW H}, d ∈ ds → ∀ n, n ∈ d.weights Tryz.prog t → n ∈ DataW.weightsAll Tryz.prog t ds
 | d0 :: ds, d, h, n, hn => by
   rw [DataW.weightsAll, List.mem_append]
   rcases List.mem_cons.1 h with rfl | h
   · exact Or.inl hn
   · exact Or.inr (weightsAll_mem h n hn)

theorem rows_read {w : World} {fuel : Nat} {v : Value} {x : DataW H × List MemPlace} (h : DataW.trod enc Tryz.prog w 0 (fun _ => true) true fuel 22 [v] = some x) (hs : Sized 22 x.1) :
   ∃ a n c xss, v = .slice a n c ∧ Rows w a n c xss ∧ n * 24 ≤ reachBytes ∧ ∀ xs, xs ∈ xss → xs.length * 8 ≤ reachBytes := by
 rcases open_slice1 Tryz.underlying22 Tryz.cellsIntsL h with ⟨hcs, hx⟩ | ⟨a, len, cap, m, fu, V, D, Pl, hcs, hb, hl, hm, hmm, rfl, hx⟩
 · obtain rfl : v = .slice none 0 0 := by simpa using hcs
   exact ⟨none, 0, 0, [], rfl, Rows.nil _ _ _, by simp, by simp⟩
 · obtain rfl : v = .slice (some a) len cap := by simpa using hcs
   simp only [if_true] at hmm
   subst hmm
   have hw := hs ((len + (m - len)) * 24) (by simp [DataW.weights, Tryz.underlying22, Tryz.bytesIntsL])
   have hr := reachBytes_lt
   have hn8 : len * 24 ≤ reachBytes := by omega
   have each : ∀ i, i < len → ∃ xs : List Int, ∃ a' n' c', V i = .slice a' n' c' ∧ Ints w a' n' c' xs ∧ n' * 8 ≤ reachBytes := fun i hi => by
     obtain ⟨a', n', c', xs, h1, h2, h3⟩ := ints_read (hx i (by omega)).2 (fun n hn => hs n (by
       simp only [DataW.weights, Tryz.underlying22, List.mem_cons, List.mem_append]
       exact Or.inr (Or.inl (weightsAll_mem (List.mem_map.2 ⟨i, List.mem_range.2 hi, rfl⟩) n hn))))
     exact ⟨xs, a', n', c', h1, h2, h3⟩
   obtain ⟨X, hX⟩ := choose_lt each
   refine ⟨some a, len, m, (List.range len).map X, rfl, ⟨by simp, hl, by omega, fun h0 => ?_, fun b o e k y hy => ?_⟩, hn8, fun xs hxs => ?_⟩
   · exact ⟨_, _, by rw [← add_of_cell (hx 0 (by omega)).1]⟩
   · cases e
     have hk : k < len := by have := (List.getElem?_eq_some_iff.1 hy).1; simpa using this
     have e1 : (Addr.mk b o none).add k = ⟨b, o + k, none⟩ := by
       unfold Addr.add; split
       · subst k; rfl
       · rfl
     have hc := (hx k (by omega)).1
     rw [e1] at hc
     obtain ⟨a', n', c', h1, h2, h3⟩ := hX k hk
     obtain rfl : X k = y := by simpa [hk] using hy
     exact ⟨a', n', c', by rw [hc, h1], h2⟩
   · obtain ⟨i, hi, rfl⟩ := List.mem_map.1 hxs
     obtain ⟨a', n', c', h1, h2, h3⟩ := hX i (List.mem_range.1 hi)
     rw [h2.len]; exact h3

theorem args_below {W W' : World} (hb : Below W.heap.size W W') : ∀ {ts : List TypeId} {vs : List Value} {ds : List (DataW H)} {ps : List MemPlace},
   (∀ t, t ∈ ts → Tryz.prog.readableRec t = true ∧ t < Tryz.prog.types.size) → DataW.TrodAll enc Tryz.prog W 0 (fun _ => true) true ts vs ds ps → (∀ x, x ∈ ps → x.block < W.heap.size) →
   DataW.TrodAll enc Tryz.prog W' 0 (fun b => decide (b < W.heap.size)) true ts vs ds ps
 | [], [], [], _, _, h, _ => h
 | t :: ts, v :: vs, d :: ds, _, hr, ⟨p, q, h1, h2, rfl⟩, hl => by
   exact ⟨p, q, Below.trod Tryz.laidOutL (hr t List.mem_cons_self).1 (hr t List.mem_cons_self).2 h1 hb fun x hx => hl x (List.mem_append_left _ hx),
     args_below hb (fun t ht => hr t (List.mem_cons_of_mem _ ht)) h2 fun x hx => hl x (List.mem_append_right _ hx), rfl⟩
 | [], _ :: _, _, _, _, h, _ => h.elim
 | [], [], _ :: _, _, _, h, _ => h.elim
 | _ :: _, [], _, _, _, h, _ => h.elim
 | _ :: _, _ :: _, [], _, _, h, _ => h.elim

theorem law_post {f : Func} {s : ChangeSpec} {W W' : World} {args : Array Value} {ds gs : List (DataW H)} {before : List MemPlace} (hW : DataW.Whole enc Tryz.prog f.params.toList s.vars false W args.toList ds gs before) (hv : s.vars = [])
   (hf : f.resultTypes = #[4]) (ht : ∀ t, t ∈ f.params.toList → Tryz.prog.readableRec t = true ∧ t < Tryz.prog.types.size)
   (hs : s.fn H ds = { results := [.lit (.bool true)], args := ds }) (hB : Below W.heap.size W W') :
   s.post enc Tryz.prog f false true false false W args (.bool true) W' := by
 have hW' := hW
 obtain ⟨p, q, hA, hV, rfl, _, _⟩ := hW
 rw [hv] at hV
 obtain ⟨rfl, rfl⟩ := trodVars_none hV
 refine ⟨ds, [], _, [], p, [], hW', ?_, ?_, ?_, hB.frame _, fun h => by cases h⟩
 · rw [List.append_nil, hs, hf]
   exact trodAll_mk1 (shut_bool Tryz.underlying4 true)
 · rw [List.append_nil, hs]
   exact args_below hB ht hA fun x hx => by simpa using hW'.lt x (List.mem_append_left _ hx)
 · rw [List.append_nil, hs, hv]
   rfl
end
end Go.Proofs.YtkddkkcfpnndlaaGreatDoor
