/- Walks: alive (some answers of More and Reach). -/
import Derived.Test.YtbnjeegicbffeaaPl1
namespace Go.Proofs.Ytbnjeegicbffeaa
open Go.RowKit

/-- the world behind the literal lists of two bidders -/
def w2 (w : World) (xs ys : List Int) (k1 k2 : Nat) : World := ((w.alloc (.cells (iarr xs) 3)).alloc (.cells (iarr ys) 3)).alloc (.cells #[.slice (some ⟨w.heap.size, 0, none⟩) k1 k1, .slice (some ⟨w.heap.size + 1, 0, none⟩) k2 k2] 22)

theorem moreLit2 (w : World) (L1 L2 : List Nat) (k1 k2 : Nat) (items : Int) (has : List Int) (f : Nat) (r : Option (List Int)) (h1 : (nats L1).length = k1) (h2 : (nats L2).length = k2) (hk1 : k1 ≤ 8) (hk2 : k2 ≤ 8) (hb1 : ∀ x, x ∈ nats L1 → -100 ≤ x ∧ x ≤ 100) (hb2 : ∀ x, x ∈ nats L2 → -100 ≤ x ∧ x ≤ 100)
    (hl : has.length = 2) (hb : ∀ x, x ∈ has → -100 ≤ x ∧ x ≤ 100) (hok : bOk ([L1, L2].map nats) items has f = true) (hr : moreOf [L1, L2] has f = r) :
    Calls Try.prog 32 #[.slice (some ⟨w.heap.size + 1 + 1, 0, none⟩) 2 2, .int .i64 items, .slice (some ⟨w.heap.size + 1 + 1 + 1, 0, none⟩) 2 2, .int .i64 f]
      ((w2 w (nats L1) (nats L2) k1 k2).alloc (.cells (iarr has) 3)) fun e w' => MoreRes 2 r ((w2 w (nats L1) (nats L2) k1 k2).alloc (.cells (iarr has) 3)) e w' ∧ Below w.heap.size w w' := by
  obtain ⟨hR, hB⟩ := lit2 w (nats L1) (nats L2) k1 k2 h1 h2 hk1 hk2 hb1 hb2
  have hsz : (w2 w (nats L1) (nats L2) k1 k2).heap.size = w.heap.size + 1 + 1 + 1 := by simp [w2]
  have := moreLit (w2 w (nats L1) (nats L2) k1 k2) (w2 w (nats L1) (nats L2) k1 k2) (some ⟨w.heap.size + 1 + 1, 0, none⟩) [L1, L2] items has f r hR (Below.refl _ _) hl hb hok hr
  rw [hsz] at this
  refine this.mono ?_
  rintro e w' ⟨h, h'⟩
  exact ⟨h, hB.trans (h'.mono (by omega))⟩

theorem sorted_eq {xs ys : List Int} (hp : xs.isPerm ys = true) (hs : ys.Pairwise (· ≤ ·)) : sorted xs = ys :=
  ((sorted_perm xs).trans (List.isPerm_iff.1 hp)).eq_of_pairwise (fun _ _ _ _ h1 h2 => Int.le_antisymm h1 h2) (sorted_pair xs) hs

theorem reachLit2 (w : World) (L1 L2 : List Nat) (k1 k2 : Nat) (items : Int) (has : List Int) (f : Nat) (who what : List Int) (h1 : (nats L1).length = k1) (h2 : (nats L2).length = k2) (hk1 : k1 ≤ 8) (hk2 : k2 ≤ 8) (hb1 : ∀ x, x ∈ nats L1 → -100 ≤ x ∧ x ≤ 100) (hb2 : ∀ x, x ∈ nats L2 → -100 ≤ x ∧ x ≤ 100)
    (hl : has.length = 2) (hb : ∀ x, x ∈ has → -100 ≤ x ∧ x ≤ 100) (hok : bOk ([L1, L2].map nats) items has f = true) (hwho : sorted (nats (reachOf [L1, L2] has f).ws) = who) (hwhat : nats (whatOf (reachOf [L1, L2] has f).came 8) = what) :
    Calls Try.prog 29 #[.slice (some ⟨w.heap.size + 1 + 1, 0, none⟩) 2 2, .int .i64 items, .slice (some ⟨w.heap.size + 1 + 1 + 1, 0, none⟩) 2 2, .int .i64 f]
      ((w2 w (nats L1) (nats L2) k1 k2).alloc (.cells (iarr has) 3)) fun e w' => ∃ a1 n1 a2 n2, e = .returned (.tuple #[.slice a1 n1 n1, .slice a2 n2 n2, .int .i64 0]) ∧ Ints w' a1 n1 n1 who ∧ Ints w' a2 n2 n2 what ∧ Below w.heap.size w w' := by
  obtain ⟨hR, hB⟩ := lit2 w (nats L1) (nats L2) k1 k2 h1 h2 hk1 hk2 hb1 hb2
  have hsz : (w2 w (nats L1) (nats L2) k1 k2).heap.size = w.heap.size + 1 + 1 + 1 := by simp [w2]
  obtain ⟨i2, hB2⟩ := lit1 (w2 w (nats L1) (nats L2) k1 k2) has 2 hl (by omega) hb
  have hall := hB.trans (hB2.mono (by omega))
  rw [hsz] at i2
  refine (Reach_yes _ _ 2 2 2 2 f [L1, L2] items has _ (hR.below hB2 (Nat.le_refl _)) i2 hok).mono ?_
  rintro e w' ⟨a1, n1, a2, n2, h1, h2, h3, h4⟩
  unfold reachOf at hwho hwhat
  rw [hl] at hwho hwhat
  exact ⟨a1, n1, a2, n2, h1, hwho ▸ h2, hwhat ▸ h3, hall.trans (h4.mono (by simp; omega))⟩

set_option maxRecDepth 100000 in
set_option maxHeartbeats 2000000 in
theorem alive7_any (w : World) : Calls Try.prog 30 #[] w fun e w' => e = .returned (.bool true) ∧ Below w.heap.size w w' := by
  obtain ⟨hR, hBg⟩ := lit2 w (nats [0]) (nats [0, 1]) 1 2 rfl rfl (by omega) (by omega) (by decide) (by decide)
  have HR := Lib.hid hR; clear hR
  have HBG := Lib.hid hBg; clear hBg
  go_enter Try.func30, Try.ntmps30
  go_wp2_with fail
  refine (moreLit2 w [0] [0, 1] 1 2 2 [-1, 0] 0 (some [0, 1]) rfl rfl (by omega) (by omega) (by decide) (by decide) rfl (by decide) (by decide) (by decide +kernel)).mono ?_
  rintro e w1 ⟨⟨a1, rfl, hi, hb1⟩, hb⟩
  have HI1 := Lib.hid hi; clear hi
  have HB1 := Lib.hid hb; clear hb
  have hal : Below (w2 w (nats [0]) (nats [0, 1]) 1 2).heap.size (w2 w (nats [0]) (nats [0, 1]) 1 2) ((w2 w (nats [0]) (nats [0, 1]) 1 2).alloc (.cells (iarr [-1, 0]) 3)) := (Below.refl _ _).alloc (Nat.le_refl _) _
  have HRG := Lib.hid (Rows.below (Rows.below HR.out hal (Nat.le_refl _)) hb1 (Nat.le_refl _))
  clear hb1 hal
  go_wp2_with fail
  refine (moreLit w1 w1 _ [[0], [0, 1]] 2 [0, -1] 1 (some [0, 1]) HRG.out (Below.refl _ _) rfl (by decide) (by decide) (by decide +kernel)).mono ?_
  rintro e w2 ⟨⟨a2, rfl, hi, _⟩, hb⟩
  have HI2 := Lib.hid hi; clear hi
  have HB2 := Lib.hid hb; clear hb
  go_wp2_with fail
  refine (moreLit2 w2 [0] [0] 1 1 1 [0, -1] 1 none rfl rfl (by omega) (by omega) (by decide) (by decide) rfl (by decide) (by decide) (by decide +kernel)).mono ?_
  rintro e w3 ⟨⟨rfl, _⟩, hb⟩
  have HB3 := Lib.hid hb; clear hb
  go_wp2_with fail
  refine (reachLit2 w3 [0] [0] 1 1 1 [0, -1] 1 [0, 1] [0] rfl rfl (by omega) (by omega) (by decide) (by decide) rfl (by decide) (by decide) (sorted_eq (by decide +kernel) (by decide)) (by decide +kernel)).mono ?_
  rintro e w4 ⟨a4, n4, b4, m4, rfl, hi, hj, hb⟩
  have HI4 := Lib.hid hi; clear hi
  have HJ4 := Lib.hid hj; clear hj
  have HB4 := Lib.hid hb; clear hb
  go_wp2_with fail
  obtain ⟨i5, hb5⟩ := lit1 w4 [0, -1] 2 rfl (by omega) (by decide)
  have HC23 := Lib.hid (HB2.out.trans (HB3.out.mono HB2.out.size))
  have HC24 := Lib.hid (HC23.out.trans (HB4.out.mono HC23.out.size))
  refine (More_no _ _ 2 2 2 2 ([[0], [0, 1]].map nats) 2 0 [0, -1] _ (HRG.out.below (HC24.out.trans (hb5.mono HC24.out.size)) (Nat.le_refl _)) i5 (by decide)).mono ?_
  rintro e w5 ⟨rfl, hb⟩
  have HB5 := Lib.hid (hb5.trans (hb.mono hb5.size)); clear hb hb5 i5
  have HC45 := Lib.hid HB5.out
  have HC35 := Lib.hid (HB4.out.trans (HC45.out.mono HB4.out.size))
  have HC25 := Lib.hid (HB3.out.trans (HC35.out.mono HB3.out.size))
  have HC15 := Lib.hid (HB2.out.trans (HC25.out.mono HB2.out.size))
  have HALL := Lib.hid (HB1.out.trans (HC15.out.mono HB1.out.size))
  go_wp2_with fail
  refine (sameLit7 w5 w1 a1 2 2 [0, 1] [0, 1] 2 HI1.out HC15.out rfl (by omega) (by decide)).mono ?_
  rintro e w6 ⟨rfl, hb⟩
  have HB6 := Lib.hid hb; clear hb
  go_wp2_with fail
  refine (sameLit7 w6 w2 a2 2 2 [0, 1] [0, 1] 2 HI2.out (HC25.out.trans (HB6.out.mono HC25.out.size)) rfl (by omega) (by decide)).mono ?_
  rintro e w7 ⟨rfl, hb⟩
  have HB7 := Lib.hid (HB6.out.trans (hb.mono HB6.out.size)); clear hb
  go_wp2_with fail
  refine (sameLit7 w7 w4 a4 n4 n4 [0, 1] [0, 1] 2 HI4.out (HC45.out.trans (HB7.out.mono HC45.out.size)) rfl (by omega) (by decide)).mono ?_
  rintro e w8 ⟨rfl, hb⟩
  have HB8 := Lib.hid (HB7.out.trans (hb.mono HB7.out.size)); clear hb
  go_wp2_with fail
  refine (sameLit7 w8 w4 b4 m4 m4 [0] [0] 1 HJ4.out (HC45.out.trans (HB8.out.mono HC45.out.size)) rfl (by omega) (by decide)).mono ?_
  rintro e w9 ⟨rfl, hb⟩
  have HB9 := Lib.hid (HB8.out.trans (hb.mono HB8.out.size)); clear hb
  go_wp2_with fail
  go_ret
  exact ⟨rfl, HALL.out.trans (HB9.out.mono HALL.out.size)⟩
end Go.Proofs.Ytbnjeegicbffeaa
