/- Walks: salesroomlaw01.TwinInts, with the mark in the room behind. Walks: salesroomlaw01.TwinIntLists. Walks: salesroomlaw01.TwinIntLists, with the marks in the room behind. -/
import Derived.Test.YtkddkkcfpnndlaaGreatDoorOq30
import Derived.Test.YtkddkkcfpnndlaaGreatDoorOq33
namespace Go.Proofs.YtkddkkcfpnndlaaGreatDoor
open Go.RowKit

def RowF (w : World) (base g c : Nat) (xs : List Int) : Prop := Own w base (.slice (some ⟨g, 0, none⟩) (xs.length + 1) c) (xs ++ [77])
theorem RowF.below {w w' : World} {base g c B : Nat} {xs : List Int} (h : RowF w base g c xs) (hb : Below B w w') (hB : w.heap.size ≤ B) : RowF w' base g c xs := Own.below h hb hB
theorem RowF.grown {w w' : World} {base g c : Nat} {xs : List Int} {row : Option Nat} (h : RowF w base g c xs) (hg : w.grownBy w' row) (hne : row ≠ some g) : RowF w' base g c xs := by
 have h' : w.ownsRow base 3 1 (.slice (some ⟨g, 0, none⟩) (xs.length + 1) c) (xs ++ [77]).length ((xs ++ [77]).map (Value.int .i64)) := h
 exact World.ownsRow.kept h' hg (.inr (fun e => hne e.symm))
theorem RowF.parts {w : World} {base g c : Nat} {xs : List Int} (h : RowF w base g c xs) : TabI w g (xs ++ [77]) ∧ base ≤ g ∧ xs.length + 1 ≤ c ∧ g < w.heap.size := by
 obtain ⟨h1, h2⟩ := Own.tab h
 refine ⟨h1, h2, ?_, Tab.lt h1⟩
 rcases h.2 with ⟨e, _⟩ | ⟨g2, cap, cur, e, _, _, hle, _⟩
 · cases e
 · obtain ⟨_, _, e3⟩ := Value.slice.inj e
   rw [List.length_append, List.length_singleton] at hle
   omega
theorem RowF.lot {w : World} {base g c : Nat} {xs : List Int} (h : RowF w base g c xs) : Lot 3 w base (some ⟨g, 0, none⟩) xs.length c := Lot.cut (Lot.own h) (by omega)
theorem RowF.ints {w : World} {base g c : Nat} {xs : List Int} (h : RowF w base g c xs) (hbig : xs.length ≤ 4611686018427387904) (hbd : ∀ x, x ∈ xs → -9223372036854775808 ≤ x ∧ x ≤ 9223372036854775807) : Ints w (some ⟨g, 0, none⟩) xs.length c xs := by
 obtain ⟨h1, _, h3, _⟩ := h.parts
 refine TabI.ints ?_ (by omega) hbig hbd
 unfold TabI at h1 ⊢
 rw [List.map_append] at h1
 exact h1.head
theorem RowF.cell {w : World} {base g c : Nat} {xs : List Int} (h : RowF w base g c xs) {k : Nat} {x : Int} (hx : xs[k]? = some x) : w.cell? ⟨g, k, none⟩ = some (.int .i64 x) :=
 Tab.cell h.parts.1 (by rw [List.getElem?_map, List.getElem?_append_left (List.getElem?_eq_some_iff.1 hx).1, hx]; rfl)
theorem RowF.mark {w : World} {base g c : Nat} {xs : List Int} (h : RowF w base g c xs) : w.cell? ⟨g, xs.length, none⟩ = some (.int .i64 77) :=
 Tab.cell h.parts.1 (by rw [List.getElem?_map, List.getElem?_append_right (Nat.le_refl _), Nat.sub_self]; rfl)

def TwinF (n : Nat) (xs : List Int) (w : World) (e : Ending) (w' : World) : Prop := ∃ g c, e = .returned (.slice (some ⟨g, 0, none⟩) n c) ∧ RowF w' w.heap.size g c xs ∧ Below w.heap.size w w'

set_option maxHeartbeats 1000000 in
theorem twinIntsF_any (a : Option Addr) (n c : Nat) (xs : List Int) (w : World) (h : Ints w a n c xs) (hn : n ≤ 100000) :
   Calls Tryz.prog 10 #[.slice a n c] w (TwinF n xs w) := by
 have HI := Lib.hid h; clear h
 have hmk := mkIntsCap (n + 1) (by omega)
 have e1 : (((n + 1 : Nat)) : Int) = (n : Int) + 1 := by omega
 rw [e1] at hmk
 clear e1
 have ho : Own (w.alloc (.cells (iarr (List.replicate (n + 1) 0)) 3)) w.heap.size (.slice (some ⟨w.heap.size, 0, none⟩) 0 (n + 1)) [] :=
   ⟨rfl, .inr ⟨w.heap.size, n + 1, iarr (List.replicate (n + 1) 0), rfl, Nat.le_refl _, heap_alloc_new w _, Nat.zero_le _, by unfold maxLen; omega, by simp [iarr_size], by simp⟩⟩
 have HO := Lib.hid ho; clear ho
 have hb : Below w.heap.size w (w.alloc (.cells (iarr (List.replicate (n + 1) 0)) 3)) := (Below.refl _ _).alloc (Nat.le_refl _) _
 have HB := Lib.hid hb; clear hb
 go_enter Tryz.func10, Tryz.ntmps10
 go_wp2_with fail
 go_loopg [3, 4] n (fun g' s3 s4 wr => ∃ (k g c : Nat), k + g' = n ∧ s4 = .int .i64 k ∧ s3 = .slice (some ⟨g, 0, none⟩) k c ∧ Own wr w.heap.size (.slice (some ⟨g, 0, none⟩) k c) (xs.take k) ∧ Below w.heap.size w wr)
 case atStart => exact ⟨0, _, _, by omega, rfl, rfl, HO.out, HB.out⟩
 case round =>
   obtain ⟨k, g, c, hk, rfl, rfl, hO, hB⟩ := hrel
   have HK := Lib.hid hk; clear hk
   have HO2 := Lib.hid hO; clear hO
   have hbs := hB.size
   by_cases hlt : k < n
   · obtain ⟨x, hx, _⟩ := HI.out.get hlt
     obtain ⟨b, o, rfl⟩ := HI.out.addr (by omega)
     have cx := (HI.out.below hB (Nat.le_refl _)).cell b o rfl k x hx
     have HB2 := Lib.hid hB; clear hB
     have hl : (xs.take k).length = k := by simp; have := HI.out.len; omega
     obtain ⟨zs, hzs⟩ : ∃ zs, zs = xs.take k := ⟨_, rfl⟩
     rw [← hzs] at hl HO2
     have HL := Lib.hid hl; clear hl
     have HZ := Lib.hid hzs; clear hzs
     have HX := Lib.hid hx; clear hx
     go_wp2_with (at_builtin; refine app1 _ rfl _ _ rfl w.heap.size _ zs rfl (HO2.out.alloc _) wr.heap.size 0 1 x rfl (by simp [go_sem]) (by rw [HL.out]; omega) (by simp; omega) ?_)
     intro g' cap' w' hown' hgr' hb'
     rw [HL.out] at hown' ⊢
     have HO3 := Lib.hid hown'; clear hown'
     have HB3 := Lib.hid ((HB2.out.alloc HB2.out.size (.cells #[.int .i64 x] 3)).trans hb'); clear hb' hgr'
     go_wp2_with fail
     go_roundg (gk - 1)
     case measure => have := HK.out; omega
     case rel => exact ⟨k + 1, g', cap', by have := HK.out; omega, by go_num, rfl, by rw [List.take_add_one, HX.out, ← HZ.out]; exact HO3.out, HB3.out⟩
   · obtain rfl : k = n := by have := HK.out; omega
     rw [List.take_of_length_le (by have := HI.out.len; omega)] at HO2
     have hl := HI.out.len
     have HL := Lib.hid hl; clear hl
     have HB2 := Lib.hid hB; clear hB
     go_wp2_with (at_builtin; refine app1 _ rfl _ _ rfl w.heap.size _ xs rfl (HO2.out.alloc _) wr.heap.size 0 1 77 rfl (by simp [go_sem]) (by rw [HL.out]; omega) (by simp; omega) ?_)
     intro g' cap' w' hown' hgr' hb'
     rw [HL.out] at hown' ⊢
     obtain ⟨ht, hg⟩ := hown'.tab
     have hcap : k + 1 ≤ cap' ∧ cap' ≤ maxLen := by
       rcases hown'.2 with ⟨e, _⟩ | ⟨g2, cap, cur, e, _, _, hle, hm, _⟩
       · cases e
       · obtain ⟨_, _, e3⟩ := Value.slice.inj e
         rw [List.length_append, HL.out] at hle
         rw [e3]
         exact ⟨hle, hm⟩
     have HT := Lib.hid hown'; clear ht
     have HB3 := Lib.hid ((HB2.out.alloc HB2.out.size (.cells #[.int .i64 77] 3)).trans hb'); clear hb' hgr' hown'
     obtain ⟨hc1, hc2⟩ := hcap
     unfold maxLen at hc2
     have hc3 : k ≤ cap' := by omega
     go_wp2_with fail
     go_ret
     refine ⟨g', cap', rfl, ?_, HB3.out⟩
     unfold RowF
     rw [HL.out]; exact HT.out
end Go.Proofs.YtkddkkcfpnndlaaGreatDoor

namespace Go.Proofs.YtkddkkcfpnndlaaGreatDoor
open Go.RowKit

theorem appV1 {ops : Array Oper} {rest : List Oper} {o : Oper} {a : Act} {Q : Exit → Act → World → Prop} (w : World) (hgd : o.guard = none) (s x : Operand)
   (ho : o.op = .call { callee := .builtin .append, args := #[s, x], argTypes := #[22, 22] })
   (base : Nat) (v : Value) (n : Nat) (vals : List Value) (hs : a.eval s = v) (hown : w.ownsRow base 25 1 v n vals) (b off c : Nat) (la : Option Addr) (ln lc : Nat) (hx : a.eval x = .slice (some ⟨b, off, none⟩) 1 c)
   (hc : w.cell? ⟨b, off, none⟩ = some (.slice la ln lc)) (hlen : n < 1000000000000) (hbase : base ≤ w.heap.size)
   (h : ∀ g cap w', w'.ownsRow base 25 1 (.slice (some ⟨g, 0, none⟩) (n + 1) cap) (n + 1) (vals ++ [.slice la ln lc]) → w.grownBy w' v.ownBlock → Below base w w' → (v.ownBlock = some g ∨ g = w.heap.size) → wpList Tryz.prog ops Q rest (a.put o.dst (.slice (some ⟨g, 0, none⟩) (n + 1) cap)) w') : wpList Tryz.prog ops Q (o :: rest) a w := by
 obtain ⟨i0, hi, hz0, hz1, hz2⟩ := info_parts infoInts
 refine wpList_append_own_at w hgd s x _ ho base 25 i0 _ 1 24 Tryz.underlying22 hi hz0 hz1 hz2 rfl (by decide) v n _ hs hown ⟨b, off, none⟩ 1 c [.slice la ln lc] hx rfl ?_ ?_ ?_ ?_ hbase ?_
 · intro j u hu
   cases j with
   | zero => simp at hu; subst hu; simpa [Addr.add] using hc
   | succ j => simp at hu
 · intro u hu; simp at hu; subst hu; rfl
 · unfold maxLen; omega
 · omega
 · intro v' w' hown' hg hnil hat
   have hne : v' ≠ .slice none 0 0 := fun e => by have := (hnil.1 e).2; omega
   rcases hown'.2 with ⟨e, _⟩ | ⟨g, cap, cur, hv, r⟩
   · exact absurd e hne
   · subst hv
     refine h g cap w' hown' hg ((Below.refl base w).grown hg hbase fun k hk => (World.ownsRow.lt hown k hk).1) ?_
     rcases hat with e | e
     · exact .inl e.symm
     · exact .inr (Option.some.inj e)

theorem mkRowsCap (c : Nat) (hc : c ≤ 1000000) (w : World) : (Instr.makeSlice 22 (.int .i64 0) (.int .i64 (c : Int))).run Tryz.prog w = .ok (.slice (some ⟨w.heap.size, 0, none⟩) 0 c) (w.alloc (.cells (List.replicate c (Value.slice none 0 0)).toArray 25)) := by
 obtain ⟨i0, hi, hz0, hz1, hz2⟩ := info_parts infoInts
 have h := run_make (P := Tryz.prog) w 22 25 i0 _ Tryz.underlying22 hi hz0 .i64 .i64 0 c (by omega) (by omega) (by rw [hz2]; omega) (by omega)
 rw [hz1] at h
 have e : madeCells (Value.slice none 0 0).cells (c * 1) = (List.replicate c (Value.slice none 0 0)).toArray := by
   apply Array.ext'
   rw [show (Value.slice none 0 0).cells = #[.slice none 0 0] from rfl, toList_madeCells_one]
   simp
 rw [Int.toNat_natCast, e] at h
 exact h

theorem owns_tab {w : World} {base g n c : Nat} {vals : List Value} (h : w.ownsRow base 25 1 (.slice (some ⟨g, 0, none⟩) n c) n vals) : Tab w g 25 vals ∧ base ≤ g ∧ vals.length = n ∧ n ≤ c ∧ c ≤ maxLen := by
 obtain ⟨h1, h2⟩ := h
 rcases h2 with ⟨e, _⟩ | ⟨g', cap, cur, e, hg, hh, hc, hm, hs, ht⟩
 · cases e
 · obtain ⟨e1, _, e3⟩ := Value.slice.inj e
   cases e1
   subst e3
   exact ⟨⟨cur, hh, by omega, by rw [h1]; simpa using ht⟩, hg, by omega, hc, hm⟩

end Go.Proofs.YtkddkkcfpnndlaaGreatDoor

namespace Go.Proofs.YtkddkkcfpnndlaaGreatDoor
open Go.RowKit

theorem RowF.widen {w : World} {base base' g c : Nat} {xs : List Int} (h : RowF w base g c xs) (hb : base' ≤ base) : RowF w base' g c xs := by
 obtain ⟨h1, h2⟩ := h
 refine ⟨h1, ?_⟩
 rcases h2 with h2 | ⟨g, cap, cur, e, hg, r⟩
 · exact .inl h2
 · exact .inr ⟨g, cap, cur, e, by omega, r⟩

structure TwinsF (w : World) (base B : Nat) (vals : List Value) (gs : List Nat) (xss : List (List Int)) : Prop where
 len : gs.length = xss.length
 nodup : gs.Nodup
 at' : ∀ g, g ∈ gs → base ≤ g ∧ g ≠ B ∧ g < w.heap.size
 row : ∀ (i : Nat) (xs : List Int) (g : Nat), xss[i]? = some xs → gs[i]? = some g → ∃ c, vals[i]? = some (Value.slice (some ⟨g, 0, none⟩) xs.length c) ∧ RowF w base g c xs

theorem TwinsF.below {w w' : World} {base B B' : Nat} {vals : List Value} {gs : List Nat} {xss : List (List Int)} (h : TwinsF w base B vals gs xss) (hb : Below B' w w') (hB : w.heap.size ≤ B') : TwinsF w' base B vals gs xss :=
 ⟨h.len, h.nodup, fun g hg => by have := h.at' g hg; have := hb.size; omega, fun i xs g h1 h2 => by
   obtain ⟨c, e1, e3⟩ := h.row i xs g h1 h2
   exact ⟨c, e1, e3.below hb hB⟩⟩

theorem TwinsF.snoc {w w' : World} {base B B' : Nat} {vals : List Value} {gs : List Nat} {xss : List (List Int)} (h : TwinsF w base B vals gs xss) (hvl : vals.length = xss.length) {v : Value} (hv : v.ownBlock = some B) (hg : w.grownBy w' v.ownBlock) (hB' : B = B' ∨ B' = w.heap.size)
   {g c : Nat} {xs : List Int} (hgb : base ≤ g) (hne : g ≠ B) (hlt : g < w.heap.size) (hnew : g ∉ gs) (ht : RowF w base g c xs) : TwinsF w' base B' (vals ++ [.slice (some ⟨g, 0, none⟩) xs.length c]) (gs ++ [g]) (xss ++ [xs]) := by
 have hbB : ∀ x, x ≠ B → x < w.heap.size → x ≠ B' := fun x h1 h2 => by rcases hB' with e | e <;> omega
 have hsz := hg.size
 refine ⟨by simp [h.len], ?_, fun x hx => ?_, fun i ys g' h1 h2 => ?_⟩
 · rw [List.nodup_append]
   exact ⟨h.nodup, by simp, fun a ha b hb e => by simp at hb; subst hb; exact hnew (e ▸ ha)⟩
 · rcases List.mem_append.1 hx with hx | hx
   · obtain ⟨a1, a2, a3⟩ := h.at' x hx
     exact ⟨a1, hbB x a2 a3, by omega⟩
   · simp at hx; subst hx
     exact ⟨hgb, hbB x hne hlt, by omega⟩
 · by_cases hi : i < xss.length
   · rw [List.getElem?_append_left hi] at h1
     rw [List.getElem?_append_left (by rw [h.len]; exact hi)] at h2
     obtain ⟨c', e1, e3⟩ := h.row i ys g' h1 h2
     obtain ⟨a1, a2, a3⟩ := h.at' g' (List.mem_of_getElem? h2)
     exact ⟨c', by rw [List.getElem?_append_left (by omega)]; exact e1, RowF.grown e3 hg (by rw [hv]; intro e; exact a2 (Option.some.inj e).symm)⟩
   · have hil : i = xss.length := by have := (List.getElem?_eq_some_iff.1 h1).1; simp at this; omega
     subst hil
     rw [List.getElem?_append_right (Nat.le_refl _)] at h1
     rw [List.getElem?_append_right (by rw [h.len]; exact Nat.le_refl _), h.len] at h2
     simp at h1 h2
     subst h1; subst h2
     exact ⟨c, by rw [List.getElem?_append_right (by omega), hvl]; simp, RowF.grown ht hg (by rw [hv]; intro e; exact hne (Option.some.inj e).symm)⟩

structure RowsF (w : World) (base B c M : Nat) (vals : List Value) (gs : List Nat) (xss : List (List Int)) : Prop where
 own : w.ownsRow base 25 1 (.slice (some ⟨B, 0, none⟩) (xss.length + 1) c) (xss.length + 1) (vals ++ [.slice (some ⟨M, 0, none⟩) 1 1])
 vlen : vals.length = xss.length
 rows : TwinsF w base B vals gs xss
 mark : TabI w M [77]
 m : base ≤ M ∧ M ≠ B ∧ M ∉ gs
def TwinLF (n : Nat) (xss : List (List Int)) (w : World) (e : Ending) (w' : World) : Prop :=
 ∃ B c M vals gs, e = .returned (.slice (some ⟨B, 0, none⟩) n c) ∧ RowsF w' w.heap.size B c M vals gs xss ∧ Below w.heap.size w w'

set_option maxHeartbeats 1000000 in
theorem twinListsF_any (a : Option Addr) (n c : Nat) (xss : List (List Int)) (w : World) (h : Rows w a n c xss) (hn : n ≤ 100000) (hx : ∀ xs, xs ∈ xss → xs.length ≤ 100000) :
   Calls Tryz.prog 9 #[.slice a n c] w (TwinLF n xss w) := by
 have HI := Lib.hid h; clear h
 have HX8 := Lib.hid hx; clear hx
 have hmk := mkRowsCap (n + 1) (by omega)
 have e1 : (((n + 1 : Nat)) : Int) = (n : Int) + 1 := by omega
 rw [e1] at hmk
 clear e1
 have ho : (w.alloc (.cells (List.replicate (n + 1) (Value.slice none 0 0)).toArray 25)).ownsRow w.heap.size 25 1 (.slice (some ⟨w.heap.size, 0, none⟩) 0 (n + 1)) 0 [] :=
   ⟨rfl, .inr ⟨w.heap.size, n + 1, (List.replicate (n + 1) (Value.slice none 0 0)).toArray, rfl, Nat.le_refl _, heap_alloc_new w _, Nat.zero_le _, by unfold maxLen; omega, by simp, by simp⟩⟩
 have HO := Lib.hid ho; clear ho
 have hb : Below w.heap.size w (w.alloc (.cells (List.replicate (n + 1) (Value.slice none 0 0)).toArray 25)) := (Below.refl _ _).alloc (Nat.le_refl _) _
 have HB := Lib.hid hb; clear hb
 go_enter Tryz.func9, Tryz.ntmps9
 go_wp2_with fail
 go_loopg [3, 4] n (fun g' s3 s4 wr => ∃ (k g c : Nat) (vals : List Value) (gs : List Nat), k + g' = n ∧ s4 = .int .i64 k ∧ s3 = .slice (some ⟨g, 0, none⟩) k c ∧ wr.ownsRow w.heap.size 25 1 (.slice (some ⟨g, 0, none⟩) k c) k vals ∧ TwinsF wr w.heap.size g vals gs (xss.take k) ∧ Below w.heap.size w wr)
 case atStart => exact ⟨0, _, _, [], [], by omega, rfl, rfl, HO.out, ⟨by simp, List.nodup_nil, (fun g hg => by cases hg), fun i xs g h1 _ => by simp at h1⟩, HB.out⟩
 case round =>
   obtain ⟨k, g, c, vals, gs, hk, rfl, rfl, hO, hT, hB⟩ := hrel
   have HK := Lib.hid hk; clear hk
   have hbs := hB.size
   obtain ⟨htab, hgb, hvl, _, _⟩ := owns_tab hO
   have hglt := htab.lt
   clear htab
   by_cases hlt : k < n
   · obtain ⟨xs, hx⟩ := HI.out.get hlt
     obtain ⟨b, o, rfl⟩ := HI.out.addr (by omega)
     obtain ⟨la, ln, lc, cx, hli⟩ := (HI.out.below hB (Nat.le_refl _)).cell b o rfl k xs hx
     have hxl : ln ≤ 100000 := by have := HX8.out xs (List.mem_of_getElem? hx); have := hli.len; omega
     have HC := Lib.hid (twinIntsF_any la ln lc xs wr hli hxl)
     have hln := hli.len
     have HB2 := Lib.hid hB; clear hB
     have HO2 := Lib.hid hO; clear hO
     have HT2 := Lib.hid hT; clear hT
     have HX := Lib.hid hx; clear hx
     clear hli
     go_wp2_with fail
     refine HC.out.mono ?_
     rintro e w1 ⟨g1, c1, rfl, ht1, hb1⟩
     have hg1 := ht1.parts.2.1
     clear HC
     have ho1 : w1.ownsRow w.heap.size 25 1 (.slice (some ⟨g, 0, none⟩) k c) k vals := by
       obtain ⟨r1, r2⟩ := HO2.out
       refine ⟨r1, ?_⟩
       rcases r2 with ⟨e, _⟩ | ⟨g', cap, cur, e, hg, hh, r⟩
       · cases e
       · have e' := e
         cases e'
         exact .inr ⟨g, c, cur, rfl, hg, by rw [hb1.block g hglt]; exact hh, r⟩
     have ht2 := HT2.out.below hb1 (Nat.le_refl _)
     have hnew : g1 ∉ gs := fun hm => by have := (HT2.out.at' g1 hm).2.2; omega
     have hg1lt := ht1.parts.2.2.2
     have HB3 := Lib.hid (HB2.out.trans (hb1.mono HB2.out.size))
     have HO3 := Lib.hid ho1; clear ho1
     have HT3 := Lib.hid ht2; clear ht2
     have HT1 := Lib.hid ht1; clear ht1
     have hsz1 := hb1.size
     clear hb1
     go_wp2_with (at_builtin; refine appV1 _ rfl _ _ rfl w.heap.size _ k vals rfl (World.ownsRow.alloc HO3.out _) w1.heap.size 0 1 (some ⟨g1, 0, none⟩) ln c1 rfl (by simp [go_sem]) (by omega) (by simp; omega) ?_)
     intro g' cap' w' hown' hgr' hb' hat'
     have hal : Below w1.heap.size w1 (w1.alloc (.cells #[.slice (some ⟨g1, 0, none⟩) ln c1] 25)) := (Below.refl _ _).alloc (Nat.le_refl _) _
     have hsn := (HT3.out.below hal (Nat.le_refl _)).snoc (B' := g') (g := g1) (c := c1) (xs := xs) (by rw [hvl]; simp; have := HI.out.len; omega) (v := .slice (some ⟨g, 0, none⟩) k c) rfl hgr' (hat'.imp (fun e => Option.some.inj e) (fun e => by rw [e]; simp)) (by omega) (by omega) (by simp; omega) hnew (RowF.widen (RowF.below HT1.out hal (Nat.le_refl _)) (by omega))
     rw [hln] at hsn
     have HSN := Lib.hid hsn; clear hsn
     have HO4 := Lib.hid hown'; clear hown'
     have HB4 := Lib.hid ((HB3.out.alloc HB3.out.size (.cells #[.slice (some ⟨g1, 0, none⟩) ln c1] 25)).trans hb'); clear hb' hgr' hat' hal
     go_wp2_with fail
     go_roundg (gk - 1)
     case measure => have := HK.out; omega
     case rel => exact ⟨k + 1, g', cap', _, _, by have := HK.out; omega, by go_num, rfl, HO4.out, by rw [List.take_add_one, HX.out]; exact HSN.out, HB4.out⟩
   · obtain rfl : k = n := by have := HK.out; omega
     rw [List.take_of_length_le (by have := HI.out.len; omega)] at hT
     have HB2 := Lib.hid hB; clear hB
     have HO2 := Lib.hid hO; clear hO
     have HT2 := Lib.hid hT; clear hT
     go_wp2_with (at_builtin; refine appV1 _ rfl _ _ rfl w.heap.size _ k vals rfl (World.ownsRow.alloc (World.ownsRow.alloc HO2.out _) _) (wr.heap.size + 1) 0 1 (some ⟨wr.heap.size, 0, none⟩) 1 1 rfl (by simp [go_sem]) (by omega) (by simp; omega) ?_)
     intro g' cap' w' hown' hgr' hb' hat'
     have hal : Below wr.heap.size wr ((wr.alloc (.cells #[.int .i64 77] 3)).alloc (.cells #[.slice (some ⟨wr.heap.size, 0, none⟩) 1 1] 25)) := ((Below.refl _ _).alloc (Nat.le_refl _) _).alloc (by simp) _
     have hT4 := HT2.out.below hal (Nat.le_refl _)
     obtain ⟨ht', hg', hvl', hcap1, hcap2⟩ := owns_tab hown'
     unfold maxLen at hcap2
     have hc3 : k ≤ cap' := by omega
     have hT5 : TwinsF w' w.heap.size g' vals gs xss := by
       have hsz := hgr'.size
       simp at hsz
       refine ⟨hT4.len, hT4.nodup, fun x hx => ?_, fun i ys x h1 h2 => ?_⟩
       · obtain ⟨a1, a2, a3⟩ := HT2.out.at' x hx
         refine ⟨a1, ?_, by omega⟩
         rcases hat' with e | e
         · have := Option.some.inj e; simp at this; omega
         · omega
       · obtain ⟨c', e1, e3⟩ := hT4.row i ys x h1 h2
         obtain ⟨a1, a2, a3⟩ := hT4.at' x (List.mem_of_getElem? h2)
         exact ⟨c', e1, RowF.grown e3 hgr' (fun e => a2 (Option.some.inj e).symm)⟩
     have HT5 := Lib.hid hT5; clear hT5 hT4
     have hmk : TabI w' wr.heap.size [77] := by
       have h0 : TabI ((wr.alloc (.cells #[.int .i64 77] 3)).alloc (.cells #[.slice (some ⟨wr.heap.size, 0, none⟩) 1 1] 25)) wr.heap.size [77] :=
         ⟨#[.int .i64 77], by rw [Below.heap_alloc _ _ _ (by simp)]; exact heap_alloc_new wr _, by simp, by simp⟩
       exact Tab.grown h0 hgr' (fun e => by have := Option.some.inj e; simp at this; omega)
     have hmn : w.heap.size ≤ wr.heap.size ∧ wr.heap.size ≠ g' ∧ wr.heap.size ∉ gs := by
       refine ⟨by omega, ?_, fun hm => by have := (HT2.out.at' _ hm).2.2; omega⟩
       rcases hat' with e | e
       · have := Option.some.inj e; simp at this; omega
       · omega
     have HTT := Lib.hid (And.intro hown' (And.intro hmk hmn)); clear ht' hmk hmn
     have HB4 := Lib.hid ((HB2.out.trans (hal.mono HB2.out.size)).trans hb'); clear hb' hgr' hat' hal hown'
     go_wp2_with fail
     go_ret
     have hxl := HI.out.len
     refine ⟨g', cap', wr.heap.size, vals, gs, rfl, ⟨?_, by omega, HT5.out, HTT.out.2.1, HTT.out.2.2⟩, HB4.out⟩
     rw [hxl]; exact HTT.out.1
end Go.Proofs.YtkddkkcfpnndlaaGreatDoor
