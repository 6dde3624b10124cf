/- Walks: slices.ContainsFunc over integers, whatever is asked; halls.Few: how many want nothing else. Walks: halls.Few: of some, how many want nothing but what is in a list. -/
import Derived.Test.YtkddkkcfpnndlaaGreatDoorVq27
import Derived.Test.YtkddkkcfpnndlaaGreatDoorVq29
namespace Go.Proofs.YtkddkkcfpnndlaaGreatDoor
open Go.RowKit

/-- what a function value is asked of an integer -/
def AsksI (g : Nat) (v : Value) (w : World) (p : Int → Bool) : Prop :=
  ∀ (w' : World) (x : Int), Below w.heap.size w w' → Calls Tryz.prog g #[.int .i64 x, v] w' fun e w'' => e = .returned (.bool (p x)) ∧ Below w'.heap.size w' w''

set_option maxHeartbeats 400000 in
theorem indexI_any (a : Option Addr) (n c : Nat) (xs : List Int) (g : Nat) (v : Value) (p : Int → Bool) (w : World) (h : Ints w a n c xs) (hg : Enters g) (hp : AsksI g v w p) :
    Calls Tryz.prog 191 #[.slice a n c, .func (.func g) #[] #[v]] w fun e w' => e = .returned (.int .i64 (idxOf (xs.findIdx? p))) ∧ Below w.heap.size w w' := by
  have hb := h.big
  unfold Enters at hg
  go_enter Tryz.func191, Tryz.ntmps191
  go_wp2_with fail
  go_loopg [8] n (fun g' s8 wr => ∃ k : Nat, k + g' = n ∧ s8 = .int .i64 k ∧ Below w.heap.size w wr ∧ (xs.take k).findIdx? p = none)
  case atStart => exact ⟨0, by omega, rfl, Below.refl _ _, rfl⟩
  case round =>
    obtain ⟨k, hk, rfl, hB, hf⟩ := hrel
    by_cases hlt : k < n
    · obtain ⟨x, hx, _⟩ := h.get hlt
      obtain ⟨b, o, rfl⟩ := h.addr (by omega)
      have hc := (h.below hB (Nat.le_refl _)).cell b o rfl k x hx
      have HP := Lib.hid (hp wr x hB)
      have H := Lib.hid h; clear h hp
      have HF := Lib.hid hf; clear hf
      have HX := Lib.hid hx; clear hx
      have HK := Lib.hid hk; clear hk
      have HB := Lib.hid hB; clear hB
      cases hpx : p x with
      | true =>
        have HQ := Lib.hid hpx; clear hpx
        go_wp2_with fail
        refine HP.out.mono ?_
        rw [HQ.out]
        rintro e w1 ⟨rfl, hb1⟩
        have HB1 := Lib.hid hb1; clear hb1
        go_wp2_with fail
        go_ret
        refine ⟨ret_int ?_, HB.out.trans (HB1.out.mono HB.out.size)⟩
        rw [findIdx_at HX.out HF.out HQ.out]; rfl
      | false =>
        have HQ := Lib.hid hpx; clear hpx
        go_wp2_with fail
        refine HP.out.mono ?_
        rw [HQ.out]
        rintro e w1 ⟨rfl, hb1⟩
        have HB1 := Lib.hid hb1; clear hb1
        go_wp2_with fail
        go_roundg (gk - 1)
        case measure => have := HK.out; omega
        case rel => exact ⟨k + 1, by have := HK.out; omega, by go_num, HB.out.trans (HB1.out.mono HB.out.size), findIdx_on HX.out HF.out HQ.out⟩
    · obtain rfl : k = n := by omega
      have HF := Lib.hid hf; clear hf
      have HB := Lib.hid hB; clear hB
      have H := Lib.hid h; clear h hp
      go_wp2_with fail
      go_ret
      refine ⟨ret_int ?_, HB.out⟩
      have hl := H.out.len
      have hf := HF.out
      rw [List.take_of_length_le (by omega)] at hf
      rw [hf]; rfl
set_option maxHeartbeats 400000 in
theorem containsI_any (a : Option Addr) (n c : Nat) (xs : List Int) (g : Nat) (v : Value) (p : Int → Bool) (w : World) (h : Ints w a n c xs) (hg : Enters g) (hp : AsksI g v w p) :
    Calls Tryz.prog 163 #[.slice a n c, .func (.func g) #[] #[v]] w fun e w' => e = .returned (.bool (xs.any p)) ∧ Below w.heap.size w w' := by
  have HH := Lib.hid h; clear h
  have HG := Lib.hid hg; clear hg
  have HP := Lib.hid hp; clear hp
  go_enter Tryz.func163, Tryz.ntmps163
  go_wp2_with fail
  refine (indexI_any a n c xs g v p w HH.out HG.out HP.out).mono ?_
  rintro e w1 ⟨rfl, hb1⟩
  have HB1 := Lib.hid hb1; clear hb1
  go_wp2_with fail
  go_ret
  refine ⟨ret_bool ?_, HB1.out⟩
  rw [idxOf_ge, ← List.findIdx?_isSome]

theorem outside_any (B : Nat) (a : Option Addr) (n c : Nat) (l : List Nat) (x : Int) (w : World) (hB : w.cell? ⟨B, 0, none⟩ = some (.slice a n c)) (h : Ints w a n c (nats l)) :
    Calls Tryz.prog 216 #[.int .i64 x, .pointer (some ⟨B, 0, none⟩)] w fun e w' => e = .returned (.bool (!(nats l).contains x)) ∧ Below w.heap.size w w' := by
  have H := Lib.hid h; clear h
  go_enter Tryz.func216, Tryz.ntmps216
  go_wp2_with fail
  refine (contains_any a n c (nats l) x w H.out).mono ?_
  rintro e w1 ⟨rfl, rfl⟩
  go_wp2_with fail
  go_ret
  exact ⟨(ret_bool (by simp) : Ending.returned (.bool !decide (x ∈ nats l)) = _), Below.refl _ _⟩

theorem within_step (nb : Nat → List Nat) (sm X : List Nat) {j i : Nat} (h : sm[j]? = some i) : (Sale.within nb (sm.take (j + 1)) X).length = (Sale.within nb (sm.take j) X).length + if (nb i).all fun k => X.contains k then 1 else 0 := by
  unfold Sale.within
  rw [List.take_add_one, h, List.filter_append, List.length_append]
  congr 1
  show (List.filter (fun i => (nb i).all fun k => X.contains k) [i]).length = _
  rw [List.filter_cons]
  cases hh : (nb i).all fun k => X.contains k <;> rfl
theorem near_one {G : List (List Nat)} (h8 : ∀ w, w < G.length → ∀ k, k ∈ nbOf G w → k < 8) {i : Nat} (hi : i < G.length) (l : List Nat) :
    (!(nats (whatOf (nearOf G [i]) 8)).any fun x => !(nats l).contains x) = (nbOf G i).all fun k => l.contains k := by
  rw [Bool.eq_iff_iff]
  simp only [Bool.not_eq_true', List.any_eq_false, List.all_eq_true, List.contains_eq_mem, decide_eq_true_eq]
  constructor
  · intro h k hk
    have hk8 := h8 i hi k hk
    have := h (k : Int) (mem_nats.2 (List.mem_filter.2 ⟨List.mem_range.2 hk8, by simp [nearOf, hk]⟩))
    exact mem_nats.1 (by simpa using this)
  · intro h x hx
    obtain ⟨k, hk, rfl⟩ := List.mem_map.1 hx
    obtain ⟨_, h2⟩ := List.mem_filter.1 hk
    have hk2 : k ∈ nbOf G i := by
      by_cases e : k ∈ nbOf G i
      · exact e
      · simp [nearOf, e] at h2
    simpa using mem_nats.2 (h k hk2)
end Go.Proofs.YtkddkkcfpnndlaaGreatDoor

namespace Go.Proofs.YtkddkkcfpnndlaaGreatDoor
open Go.RowKit

/-- what the function value has taken in -/
structure InAt (W : World) (B5 B3 B4 : Nat) (sa : Option Addr) (sn sc : Nat) (ga : Option Addr) (gn gc : Nat) (items : Int) : Prop where
  b5 : Boxed W B5 25 (.slice sa sn sc)
  b3 : Boxed W B3 22 (.slice ga gn gc)
  b4 : Boxed W B4 3 (.int .i64 items)
theorem InAt.step {W W' : World} {B5 B3 B4 : Nat} {sa : Option Addr} {sn sc : Nat} {ga : Option Addr} {gn gc : Nat} {items : Int} (h : InAt W B5 B3 B4 sa sn sc ga gn gc items) (hb : Below W.heap.size W W') : InAt W' B5 B3 B4 sa sn sc ga gn gc items :=
  ⟨boxed_on h.b5 hb, boxed_on h.b3 hb, boxed_on h.b4 hb⟩

set_option maxRecDepth 100000 in
set_option maxHeartbeats 2000000 in
theorem within_fn (B5 B3 B4 : Nat) (sa ga la : Option Addr) (sn sc gn gc ln lc : Nat) (G : List (List Nat)) (items : Int) (sm l : List Nat) (W : World) (hA : InAt W B5 B3 B4 sa sn sc ga gn gc items)
    (hg : Rows W ga gn gc (G.map nats)) (hs : Ints W sa sn sc (nats sm)) (hl : Ints W la ln lc (nats l)) (hgc : gcheck (G.map nats) items = true) (hsM : ∀ i, i ∈ sm → i < gn) (hs8 : sn ≤ 8) :
    Calls Tryz.prog 214 #[.slice la ln lc, .pointer (some ⟨B5, 0, none⟩), .pointer (some ⟨B3, 0, none⟩), .pointer (some ⟨B4, 0, none⟩)] W fun e W' => e = .returned (.int .i64 ((Sale.within (nbOf G) sm l).length : Nat)) ∧ Below W.heap.size W W' := by
  have hgl : G.length = gn := by have := hg.len; simpa using this
  have hsl : sm.length = sn := by have := hs.len; simpa [nats] using this
  have hb0 : Below W.heap.size W (W.alloc (.cells #[.slice la ln lc] 25)) := (Below.refl _ _).alloc (Nat.le_refl _) _
  have hx0 : Boxed (W.alloc (.cells #[.slice la ln lc] 25)) W.heap.size 25 (.slice la ln lc) := Boxed.new W _ _
  have hA0 := hA.step hb0
  have c5 := hA0.b5.cell
  have HX0 := Lib.hid (And.intro hx0 (And.intro hA0 hb0)); clear hx0 hA0 hb0
  have HG := Lib.hid hg; clear hg
  have HS := Lib.hid hs; clear hs
  have HLL := Lib.hid hl; clear hl
  have HGL := Lib.hid hgl; clear hgl
  have HSL := Lib.hid hsl; clear hsl
  have HGC := Lib.hid hgc; clear hgc
  have HSM := Lib.hid hsM; clear hsM
  clear hA
  go_enter Tryz.func214, Tryz.ntmps214
  go_wp2_with fail
  go_loopg [5, 12] sn (fun g s5 s12 wr => ∃ j : Nat, j + g = sn ∧ s12 = .int .i64 j ∧ s5 = .int .i64 ((Sale.within (nbOf G) (sm.take j) l).length : Nat) ∧ Below W.heap.size W wr ∧ InAt wr B5 B3 B4 sa sn sc ga gn gc items ∧ Boxed wr W.heap.size 25 (.slice la ln lc))
  case atStart => exact ⟨0, by omega, rfl, by simp [Sale.within], HX0.out.2.2, HX0.out.2.1, HX0.out.1⟩
  case round =>
    obtain ⟨j, hj, rfl, rfl, hb, hA, hx⟩ := hrel
    have HJ := Lib.hid hj; clear hj
    have hwl : (Sale.within (nbOf G) (sm.take j) l).length ≤ 8 := by
      refine Nat.le_trans (List.length_filter_le _ _) ?_
      rw [List.length_take]; have := HSL.out; omega
    by_cases hlt : j < sn
    · obtain ⟨i, hi⟩ : ∃ i, sm[j]? = some i := ⟨_, List.getElem?_eq_getElem (by rw [HSL.out]; exact hlt)⟩
      have hig := HSM.out i (List.mem_of_getElem? hi)
      have hws := within_step (nbOf G) sm l hi
      rw [← near_one (g8_of HGC.out) (by rw [HGL.out]; exact hig) l] at hws
      obtain ⟨sb, so, rfl⟩ := HS.out.addr (by omega)
      have cs := (HS.out.below hb (Nat.le_refl _)).cell sb so rfl j (i : Int) (by simp [nats, hi])
      have k3 := hA.b3.cell
      have k4 := hA.b4.cell
      have hb1 : Below wr.heap.size wr (wr.alloc (.cells #[.int .i64 (i : Int)] 3)) := (Below.refl _ _).alloc (Nat.le_refl _) _
      have HNR := Lib.hid (Near_yes ga (some ⟨wr.heap.size, 0, none⟩) gn gc 1 1 G items [i] (wr.alloc (.cells #[.int .i64 (i : Int)] 3)) ((HG.out.below hb (Nat.le_refl _)).below hb1 (Nat.le_refl _)) (Ints.one (w := wr) (i : Int) (by have := HS.out.bd (i : Int) (by simp only [nats, List.mem_map]; exact ⟨i, List.mem_of_getElem? hi, rfl⟩); exact this)) (by
        simp only [nearOk, HGC.out, Bool.true_and, List.length_map, HGL.out]
        simp [nats, risesFrom]; omega))
      have HB := Lib.hid (hb.trans (hb1.mono hb.size))
      have HA1 := Lib.hid (hA.step hb1)
      have HX1 := Lib.hid (boxed_on hx hb1)
      have HWS := Lib.hid hws; clear hws
      have HI := Lib.hid hi; clear hi
      clear hb hA hx hb1
      obtain ⟨wl, hwl'⟩ : ∃ wl, wl = (Sale.within (nbOf G) (sm.take j) l).length := ⟨_, rfl⟩
      rw [← hwl'] at hwl HWS ⊢
      clear hwl'
      go_wp2_with fail
      refine HNR.out.mono ?_
      rintro e w2 ⟨na, nn, nc, rfl, hni, hb2⟩
      have HA2 := Lib.hid (HA1.out.step hb2)
      have hx2 := boxed_on HX1.out hb2
      have kx := hx2.cell
      have HB2 := Lib.hid (HB.out.trans (hb2.mono HB.out.size)); clear hb2
      have HCF := Lib.hid (containsI_any na nn nc (nats (whatOf (nearOf G [i]) 8)) 216 (.pointer (some ⟨W.heap.size, 0, none⟩)) (fun x => !(nats l).contains x) w2 hni (fun _ _ => enters_of Tryz.func216 (by kernel_rfl) rfl _ _) (fun w' x hb' => outside_any W.heap.size la ln lc l x w' (boxed_on hx2 hb').cell ((HLL.out.below HB2.out (Nat.le_refl _)).below hb' (Nat.le_refl _))))
      have HX2 := Lib.hid hx2; clear hx2 hni
      cases hcf : (nats (whatOf (nearOf G [i]) 8)).any fun x => !(nats l).contains x with
      | true =>
        have HCC := Lib.hid hcf; clear hcf
        go_wp2_with fail
        refine HCF.out.mono ?_
        rw [HCC.out]
        rintro e w3 ⟨rfl, hb3⟩
        have HA3 := Lib.hid (HA2.out.step hb3)
        have HX3 := Lib.hid (boxed_on HX2.out hb3)
        have HB3 := Lib.hid (HB2.out.trans (hb3.mono HB2.out.size)); clear hb3
        go_wp2_with fail
        go_roundg (gk - 1)
        case measure => have := HJ.out; omega
        case rel => exact ⟨j + 1, by have := HJ.out; omega, by go_num, by rw [HWS.out, HCC.out]; rfl, HB3.out, HA3.out, HX3.out⟩
      | false =>
        have HCC := Lib.hid hcf; clear hcf
        go_wp2_with fail
        refine HCF.out.mono ?_
        rw [HCC.out]
        rintro e w3 ⟨rfl, hb3⟩
        have HA3 := Lib.hid (HA2.out.step hb3)
        have HX3 := Lib.hid (boxed_on HX2.out hb3)
        have HB3 := Lib.hid (HB2.out.trans (hb3.mono HB2.out.size)); clear hb3
        go_wp2_with fail
        go_roundg (gk - 1)
        case measure => have := HJ.out; omega
        case rel => exact ⟨j + 1, by have := HJ.out; omega, by go_num, by rw [HWS.out, HCC.out]; rfl, HB3.out, HA3.out, HX3.out⟩
    · obtain rfl : j = sn := by have := HJ.out; omega
      rw [List.take_of_length_le (by rw [HSL.out]; exact Nat.le_refl _)]
      have HB := Lib.hid hb; clear hb hA hx
      go_wp2_with fail
      go_ret
      exact ⟨rfl, HB.out⟩
end Go.Proofs.YtkddkkcfpnndlaaGreatDoor
