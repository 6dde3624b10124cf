/- Walks: salesroomlaw16.lives. -/
import Derived.Test.YtbnjeegicbffeaaFo9
import Derived.Test.YtbnjeegicbffeaaLm2
namespace Go.Proofs.Ytbnjeegicbffeaa
open Go.RowKit Sale Tree

theorem fofS_yes {m : Mkt} {o : Outc} {w w' : World} {e : Ending} (h : FofSays m o w e w') (l : List (Int × Int)) (ha : allB (woodOf m o) = true) (hl : outL o.prices.length (lv (woodOf m o) o.prices.length) = l) :
    ∃ b off c, e = .returned (.tuple #[.slice (some ⟨b, off, none⟩) l.length c, .int .i64 0]) ∧ Whys w' (some ⟨b, off, none⟩) l.length c l ∧ Below w.heap.size w w' ∨ l = [] := by
  subst hl
  obtain ⟨hb, (⟨_, a, n, c, rfl, hw⟩ | ⟨hn, _⟩)⟩ := h
  · have hlen := hw.len
    subst hlen
    by_cases h0 : (outL o.prices.length (lv (woodOf m o) o.prices.length)) = []
    · exact ⟨0, 0, 0, .inr h0⟩
    · obtain ⟨b, off, rfl⟩ := hw.addr (List.length_pos_iff.2 h0)
      exact ⟨b, off, c, .inl ⟨rfl, hw, hb⟩⟩
  · rw [ha] at hn; cases hn
theorem fofS_no {m : Mkt} {o : Outc} {w w' : World} {e : Ending} (h : FofSays m o w e w') (ha : allB (woodOf m o) = false) : e = .returned (.tuple #[.slice none 0 0, .int .i64 7]) ∧ Below w.heap.size w w' := by
  obtain ⟨hb, (⟨hy, _⟩ | ⟨_, e⟩)⟩ := h
  · rw [ha] at hy; cases hy
  · exact ⟨e, hb⟩

theorem out_lit (W : World) (N : Nat) (hN : W.heap.size = N) (hs ps : List Int) (hn pn : Nat) (h1 : hs.length = hn) (h2 : ps.length = pn) (hb1 : hn ≤ 100) (hb2 : pn ≤ 100) (hx1 : ∀ x, x ∈ hs → -1000 ≤ x ∧ x ≤ 1000) (hx2 : ∀ x, x ∈ ps → -1000 ≤ x ∧ x ≤ 1000) :
    OutAt ((W.alloc (.cells (iarr hs) 3)).alloc (.cells (iarr ps) 3)) (some ⟨N, 0, none⟩) (some ⟨N + 1, 0, none⟩) hn hn pn pn ⟨hs, ps⟩ ∧ Below W.heap.size W ((W.alloc (.cells (iarr hs) 3)).alloc (.cells (iarr ps) 3)) :=
  by subst hN; exact ⟨⟨row_lit ((Row.new W _ hs).alloc _) h1 hb1 hx1, row_lit (Row.new' _ _ ps (by simp)) h2 hb2 hx2⟩, ((Below.refl _ W).alloc (Nat.le_refl _) _).alloc (by simp) _⟩

def o1 : Outc := ⟨[0, -1], [5]⟩
def o2 : Outc := ⟨[0, -1], [6]⟩
def o3 : Outc := ⟨[0, 1, -1], [3, 3]⟩

set_option maxRecDepth 100000 in
set_option maxHeartbeats 400000 in
theorem lives16_any (w : World) : Calls Try.prog 21 #[] w fun e w' => e = .returned (.bool true) ∧ Below w.heap.size w w' := by
  have H0 := Lib.hid (m1_at w)
  have hs1 : (m1w w).heap.size = w.heap.size + 1 + 1 + 1 + 1 + 1 + 1 := by simp [m1w]
  have G1 := Lib.hid (m2_at (m1w w) _ hs1)
  have H1 := Lib.hid (H0.out.step (G1.out.below)); clear H0
  have HS1 := Lib.hid hs1; clear hs1
  have c0 := H1.out.row.cell (k := 0) rfl
  have c1 := H1.out.row.cell (k := 1) rfl
  have c2 := H1.out.row.cell (k := 2) rfl
  go_enter Try.func21, Try.ntmps21
  go_wp2_with fail
  have hsm : (m2w (m1w w) (w.heap.size + 1 + 1 + 1 + 1 + 1 + 1)).heap.size = w.heap.size + 1 + 1 + 1 + 1 + 1 + 1 + 1 + 1 + 1 + 1 + 1 + 1 + 1 := by simp [m2w, m1w]
  have h3 := out_lit (m2w (m1w w) (w.heap.size + 1 + 1 + 1 + 1 + 1 + 1)) _ hsm [0, -1] [5] 2 1 rfl rfl (by omega) (by omega) (by decide) (by decide)
  have H3 := Lib.hid (H1.out.step h3.2)
  have G3 := Lib.hid (G1.out.step h3.2)
  refine (fof_any _ _ _ _ _ 1 1 2 2 2 2 2 2 1 1 m1 o1 _ H3.out.mkt h3.1 (by decide +kernel)).mono ?_
  intro e w3 hf
  obtain ⟨lb, lo, lc, (⟨rfl, hy, hb⟩ | hl0)⟩ := fofS_yes hf [(1, 1)] (by decide +kernel) (by decide +kernel)
  case inr => cases hl0
  have H4 := Lib.hid (H3.out.step hb)
  have G4 := Lib.hid (G3.out.step hb)
  have Y4 := Lib.hid hy
  clear hf hb hy H3 G3 h3 c0 c1 c2 hsm HS1 H1 G1
  have c0 := H4.out.row.cell (k := 0) rfl
  have c1 := H4.out.row.cell (k := 1) rfl
  have c2 := H4.out.row.cell (k := 2) rfl
  go_wp2_with fail
  have h3 := out_lit w3 _ rfl [0, -1] [6] 2 1 rfl rfl (by omega) (by omega) (by decide) (by decide)
  have H5 := Lib.hid (H4.out.step h3.2)
  have G5 := Lib.hid (G4.out.step h3.2)
  have Y5 := Lib.hid (Y4.out.below h3.2 (Nat.le_refl _))
  refine (fof_any _ _ _ _ _ 1 1 2 2 2 2 2 2 1 1 m1 o2 _ H5.out.mkt h3.1 (by decide +kernel)).mono ?_
  intro e w4 hf
  obtain ⟨rfl, hb⟩ := fofS_no hf (by decide +kernel)
  have H6 := Lib.hid (H5.out.step hb)
  have G6 := Lib.hid (G5.out.step hb)
  have Y6 := Lib.hid (Y5.out.below hb (Nat.le_refl _))
  clear hf hb H5 G5 Y5 H4 G4 Y4 h3 c0 c1 c2
  have c0 := G6.out.row.cell (k := 0) rfl
  have c1 := G6.out.row.cell (k := 1) rfl
  have c2 := G6.out.row.cell (k := 2) rfl
  go_wp2_with fail
  have h3 := out_lit w4 _ rfl [0, 1, -1] [3, 3] 3 2 rfl rfl (by omega) (by omega) (by decide) (by decide)
  have H7 := Lib.hid (H6.out.step h3.2)
  have G7 := Lib.hid (G6.out.step h3.2)
  have Y7 := Lib.hid (Y6.out.below h3.2 (Nat.le_refl _))
  refine (fof_any _ _ _ _ _ 2 2 3 3 3 3 3 3 2 2 m2 o3 _ G7.out.mkt h3.1 (by decide +kernel)).mono ?_
  intro e w5 hf
  obtain ⟨kb, ko, kc, (⟨rfl, hy, hb⟩ | hl0)⟩ := fofS_yes hf [(2, 1), (0, 2)] (by decide +kernel) (by decide +kernel)
  case inr => cases hl0
  have Y8 := Lib.hid (Y7.out.below hb (Nat.le_refl _))
  have d0 := Y8.out.cell _ _ rfl 0 _ rfl
  have d1 := hy.cell _ _ rfl 0 _ rfl
  have d2 := hy.cell _ _ rfl 1 _ rfl
  simp only [Nat.zero_mul, Nat.add_zero, Nat.one_mul] at d0 d1 d2
  obtain ⟨d00, d01⟩ := d0
  obtain ⟨d10, d11⟩ := d1
  obtain ⟨d20, d21⟩ := d2
  have HB := Lib.hid (H7.out.below.trans (hb.mono H7.out.below.size))
  clear hf hb H6 H7 G6 G7 Y6 Y7 h3 c0 c1 c2 hy
  simp only [List.length_cons, List.length_nil]
  go_wp2_with fail
  go_ret
  exact ⟨rfl, HB.out⟩
end Go.Proofs.Ytbnjeegicbffeaa
