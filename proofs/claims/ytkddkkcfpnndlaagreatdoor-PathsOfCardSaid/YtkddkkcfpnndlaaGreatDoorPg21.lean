/- Walks: the law FirstsIdle: what the operations of its two great regions yield. Walks: the reference's graphs: do the items fit? Walks: the reference's paths: who holds an item? may the question be? -/
import Derived.Test.YtkddkkcfpnndlaaGreatDoorPg10
import Derived.Test.YtkddkkcfpnndlaaGreatDoorPg15
import Derived.Test.YtkddkkcfpnndlaaGreatDoorPg16
import Derived.Test.YtkddkkcfpnndlaaGreatDoorPg17
import Derived.Test.YtkddkkcfpnndlaaGreatDoorPg18
import Derived.Test.YtkddkkcfpnndlaaGreatDoorPg05
import Derived.Test.YtkddkkcfpnndlaaGreatDoorPg19
import Derived.Test.YtkddkkcfpnndlaaGreatDoorPg20
import Derived.Test.YtkddkkcfpnndlaaGreatDoorPg08
import Derived.BigRegion
namespace Go.Proofs.YtkddkkcfpnndlaaGreatDoor
open Go.RowKit Sale

theorem Ints.drop {w : World} {b o n c : Nat} {xs : List Int} (h : Ints w (some ⟨b, o, none⟩) n c xs) {k : Nat} (hk : k ≤ n) : Ints w (some ⟨b, o + k, none⟩) (n - k) (c - k) (xs.drop k) :=
  ⟨by rw [List.length_drop, h.len], by have := h.cap; omega, by have := h.big; omega, fun _ => ⟨b, o + k, rfl⟩, fun b' o' e j y hy => by
    cases e
    rw [List.getElem?_drop] at hy
    have := h.cell b o rfl (k + j) y hy
    rwa [← Nat.add_assoc] at this, fun y hy => h.bd y (List.mem_of_mem_drop hy), fun e => by cases e⟩
theorem Ints.take' {w : World} {a : Option Addr} {n c : Nat} {xs : List Int} (h : Ints w a n c xs) {k : Nat} (hk : k ≤ n) : Ints w a k c (xs.take k) :=
  ⟨by rw [List.length_take, h.len]; omega, Nat.le_trans hk h.cap, by have := h.big; omega, fun h0 => h.addr (by omega), fun b o e j x hx => by
    have hj : j < k := by have := (List.getElem?_eq_some_iff.1 hx).1; simp at this; omega
    rw [List.getElem?_take_of_lt hj] at hx
    exact h.cell b o e j x hx, fun x hx => h.bd x (List.mem_of_mem_take hx), fun e => by have := h.nil e; omega⟩
theorem Own.lower {w : World} {base B : Nat} {v : Value} {xs : List Int} (h : Own w base v xs) (hB : B ≤ base) : Own w B v xs := by
  obtain ⟨h1, h2⟩ := h
  refine ⟨h1, ?_⟩
  rcases h2 with h2 | ⟨g, cap, cur, hv, hg, r⟩
  · exact .inl h2
  · exact .inr ⟨g, cap, cur, hv, by omega, r⟩
theorem Own.step {w w' : World} {base : Nat} {v : Value} {xs : List Int} (h : Own w base v xs) (hb : Below w.heap.size w w') : Own w' base v xs := h.below hb (Nat.le_refl _)
theorem OwnRows.step {w w' : World} {base : Nat} {v : Value} {xs : List (List Int)} (h : OwnRows w base v xs) (hb : Below w.heap.size w w') : OwnRows w' base v xs := h.below hb (Nat.le_refl _)

end Go.Proofs.YtkddkkcfpnndlaaGreatDoor

namespace Go.Proofs.YtkddkkcfpnndlaaGreatDoor
open Go.RowKit

set_option maxHeartbeats 4000000 in
set_option maxRecDepth 100000 in
theorem fits06_any (ga ha : Option Addr) (gn gc hn hc : Nat) (g : List (List Int)) (items : Int) (has : List Int) (w : World) (hg : Rows w ga gn gc g) (hh : Ints w ha hn hc has) :
    Calls Tryz.prog 147 #[.slice ga gn gc, .int .i64 items, .slice ha hn hc] w fun e w' => e = .returned (.bool (fitsB g items has)) ∧ Below w.heap.size w w' := by
  have hl1 := hg.len
  have hl2 := hh.len
  have hb1 := hg.big
  have hb2 := hh.big
  have HG := Lib.hid hg; clear hg
  have HH := Lib.hid hh; clear hh
  have HL1 := Lib.hid hl1; clear hl1
  have HL2 := Lib.hid hl2; clear hl2
  cases hck : gcheck g items with
  | false =>
    have HC := Lib.hid hck; clear hck
    go_enter Tryz.func147, Tryz.ntmps147
    go_wp2_with fail
    refine (check06_any ga gn gc g items w HG.out).mono ?_
    rw [HC.out]
    rintro e w1 ⟨rfl, hb⟩
    have HB := Lib.hid hb; clear hb
    go_wp2_with fail
    go_ret
    exact ⟨ret_bool (by simp [fitsB, HC.out]), HB.out⟩
  | true =>
    have HC := Lib.hid hck; clear hck
    by_cases hlen : hn = gn
    · subst hlen
      obtain ⟨fv, hfv⟩ : ∃ fv, fitsB g items has = fv := ⟨_, rfl⟩
      rw [hfv]
      have hfit : fv = fitTo g has hn := by
        rw [← hfv, fitsB, HC.out, decide_eq_true (by rw [HL1.out, HL2.out]), HL2.out]; rfl
      have HFV := Lib.hid hfit; clear hfit hfv
      have e1 : ((hn : Int) != (hn : Int)) = false := by simp
      go_enter Tryz.func147, Tryz.ntmps147
      go_wp2_with fail
      refine (check06_any ga hn gc g items w HG.out).mono ?_
      rw [HC.out]
      rintro e w1 ⟨rfl, hb⟩
      have HB := Lib.hid hb; clear hb
      go_wp2_with fail
      go_loopg [7] hn (fun g' s7 wr => ∃ k : Nat, k + g' = hn ∧ s7 = .int .i64 k ∧ Below w.heap.size w wr ∧ fitTo g has k = true)
      case atStart => exact ⟨0, by omega, rfl, HB.out, rfl⟩
      case round =>
        obtain ⟨k, hk, rfl, hB, hf⟩ := hrel
        have HF := Lib.hid hf; clear hf
        have HK := Lib.hid hk; clear hk
        obtain ⟨w2, rfl⟩ : ∃ w2, w2 = wr := ⟨_, rfl⟩
        by_cases hlt : k < hn
        · obtain ⟨h, hx, _⟩ := HH.out.get hlt
          obtain ⟨bh, oh, rfl⟩ := HH.out.addr (by omega)
          have hcx := (HH.out.below hB (Nat.le_refl _)).cell bh oh rfl k h hx
          have HB2 := Lib.hid hB; clear hB
          have HX := Lib.hid hx; clear hx
          have i1 : (k : Int) < (hn : Int) := by omega
          by_cases hh1 : h = -1
          · have e2 : (h == -1) = true := by simp [hh1]
            have HH1 := Lib.hid hh1; clear hh1
            go_wp2_with fail
            go_roundg (gk - 1)
            case measure => have := HK.out; omega
            case rel => exact ⟨k + 1, by have := HK.out; omega, by go_num, HB2.out, by rw [fitTo_succ HX.out, HF.out, okFit]; simp [HH1.out]⟩
          have e2 : (h == -1) = false := by simp [hh1]
          have HH1 := Lib.hid hh1; clear hh1
          obtain ⟨l, hl⟩ := HG.out.get (k := k) hlt
          obtain ⟨bg, og, rfl⟩ := HG.out.addr (by omega)
          obtain ⟨la, ln, lc, hcl, hli⟩ := (HG.out.below HB2.out (Nat.le_refl _)).cell bg og rfl k l hl
          have HLI := Lib.hid hli; clear hli
          have hok : okFit g has k h = (l.contains h && !(has.take k).contains h) := by
            rw [okFit, decide_eq_false HH1.out, hl]; rfl
          have HOK := Lib.hid hok; clear hok hl
          have HTK := Lib.hid ((HH.out.below HB2.out (Nat.le_refl _)).take' (k := k) (by omega))
          have hbd : Below w2.heap.size w2 w2.drew := (Below.refl _ _).drew
          have hne' : Nonempty (Kept (Below w2.heap.size w2)) := ⟨⟨_, hbd⟩⟩
          have k0 : ∀ z : Kept (Below w2.heap.size w2), z.w.cell? ⟨bg, og + k, none⟩ = some (.slice la ln lc) := fun z => cell_step z.h hcl
          have k1 : ∀ z : Kept (Below w2.heap.size w2), z.w.cell? ⟨bh, oh + k, none⟩ = some (.int .i64 h) := fun z => cell_step z.h hcx
          have hC1 : ∀ z : Kept (Below w2.heap.size w2), Calls Tryz.prog 99 #[.slice la ln lc, .int .i64 h] z.w fun e w' => e = .returned (.bool (l.contains h)) ∧ ∃ y : Kept (Below w2.heap.size w2), w' = y.w := fun z =>
            Kept.call ((has06_any la ln lc l h z.w (HLI.out.below z.h (Nat.le_refl _))).mono fun _ _ ⟨a1, a2⟩ => ⟨a1, a2 ▸ z.h⟩)
          have hC2 : ∀ z : Kept (Below w2.heap.size w2), Calls Tryz.prog 99 #[.slice (some ⟨bh, oh, none⟩) k hc, .int .i64 h] z.w fun e w' => e = .returned (.bool ((has.take k).contains h)) ∧ ∃ y : Kept (Below w2.heap.size w2), w' = y.w := fun z =>
            Kept.call ((has06_any _ k hc (has.take k) h z.w (HTK.out.below z.h (Nat.le_refl _))).mono fun _ _ ⟨a1, a2⟩ => ⟨a1, a2 ▸ z.h⟩)
          obtain ⟨b1, hb1e⟩ : ∃ b1, b1 = l.contains h := ⟨_, rfl⟩
          obtain ⟨b2, hb2e⟩ : ∃ b2, b2 = (has.take k).contains h := ⟨_, rfl⟩
          rw [← hb1e] at hC1
          rw [← hb2e] at hC2
          rw [← hb1e, ← hb2e] at HOK
          have hcap := HH.out.cap
          have HC1 := Lib.hid hC1; clear hC1
          have HC2 := Lib.hid hC2; clear hC2 hb1e hb2e
          cases b1 with
          | false =>
            have hv : fv = false := by
              rw [HFV.out]; exact fitTo_no HX.out hlt (by rw [HOK.out]; rfl)
            subst hv
            go_wp2_with fail
            clear hcl hcx
            refine wp_region_kept (Below w2.heap.size w2) (by kernel_rfl) (by kernel_rfl) hbd ?_
            repeat (go_big_quiet_step ((go_at_call 99; first | with_reducible exact HC1.out _ | with_reducible exact HC2.out _)))
            refine wpQuiet_nil ?_
            intro w3 hw'
            obtain ⟨⟨wz, hb3⟩, hwz⟩ := hw'
            obtain rfl : w3 = wz := hwz
            have HB3 := Lib.hid (HB2.out.trans (hb3.mono HB2.out.size)); clear hb3 k0 k1 hne' hbd HC1 HC2
            go_wp2_with fail
            go_ret
            exact ⟨rfl, HB3.out⟩
          | true =>
            cases b2 with
            | true =>
              have hv : fv = false := by
                rw [HFV.out]; exact fitTo_no HX.out hlt (by rw [HOK.out]; rfl)
              subst hv
              go_wp2_with fail
              clear hcl hcx
              refine wp_region_kept (Below w2.heap.size w2) (by kernel_rfl) (by kernel_rfl) hbd ?_
              repeat (go_big_quiet_step ((go_at_call 99; first | with_reducible exact HC1.out _ | with_reducible exact HC2.out _)))
              refine wpQuiet_nil ?_
              intro w3 hw'
              obtain ⟨⟨wz, hb3⟩, hwz⟩ := hw'
              obtain rfl : w3 = wz := hwz
              have HB3 := Lib.hid (HB2.out.trans (hb3.mono HB2.out.size)); clear hb3 k0 k1 hne' hbd HC1 HC2
              go_wp2_with fail
              go_ret
              exact ⟨rfl, HB3.out⟩
            | false =>
              go_wp2_with fail
              clear hcl hcx
              refine wp_region_kept (Below w2.heap.size w2) (by kernel_rfl) (by kernel_rfl) hbd ?_
              repeat (go_big_quiet_step ((go_at_call 99; first | with_reducible exact HC1.out _ | with_reducible exact HC2.out _)))
              refine wpQuiet_nil ?_
              intro w3 hw'
              obtain ⟨⟨wz, hb3⟩, hwz⟩ := hw'
              obtain rfl : w3 = wz := hwz
              have HB3 := Lib.hid (HB2.out.trans (hb3.mono HB2.out.size)); clear hb3 k0 k1 hne' hbd HC1 HC2
              go_wp2_with fail
              go_roundg (gk - 1)
              case measure => have := HK.out; omega
              case rel => exact ⟨k + 1, by have := HK.out; omega, by go_num, HB3.out, by rw [fitTo_succ HX.out, HF.out, HOK.out]; rfl⟩
        · obtain rfl : k = hn := by have := HK.out; omega
          have hv : fv = true := by rw [HFV.out]; exact HF.out
          subst hv
          have HB2 := Lib.hid hB; clear hB
          go_wp2_with fail
          go_ret
          exact ⟨rfl, HB2.out⟩
    · have e1 : ((hn : Int) != (gn : Int)) = true := by simp; omega
      have hv : fitsB g items has = false := by
        rw [fitsB, decide_eq_false (by rw [HL1.out, HL2.out]; exact hlen), Bool.and_false]; rfl
      rw [hv]
      clear hv hlen
      go_enter Tryz.func147, Tryz.ntmps147
      go_wp2_with fail
      refine (check06_any ga gn gc g items w HG.out).mono ?_
      rw [HC.out]
      rintro e w1 ⟨rfl, hb⟩
      have HB := Lib.hid hb; clear hb
      go_wp2_with fail
      go_ret
      exact ⟨rfl, HB.out⟩
end Go.Proofs.YtkddkkcfpnndlaaGreatDoor

namespace Go.Proofs.YtkddkkcfpnndlaaGreatDoor
open Go.RowKit

/-- the first that holds k, or -1 -/
def HoldR (has : List Int) (k r : Int) : Prop := (r = -1 ∧ ∀ x, x ∈ has → x ≠ k) ∨ ∃ i : Nat, r = i ∧ has[i]? = some k ∧ ∀ x, x ∈ has.take i → x ≠ k
set_option maxHeartbeats 1000000 in
theorem holder07_any (a : Option Addr) (n c : Nat) (xs : List Int) (k : Int) (w : World) (h : Ints w a n c xs) :
    Calls Tryz.prog 148 #[.slice a n c, .int .i64 k] w fun e w' => ∃ r : Int, e = .returned (.int .i64 r) ∧ HoldR xs k r ∧ w = w' := by
  have hb := h.big
  have HH := Lib.hid h; clear h
  go_enter Tryz.func148, Tryz.ntmps148
  go_wp2_with fail
  go_loopg [5] n (fun g s5 wr => ∃ j : Nat, j + g = n ∧ s5 = .int .i64 j ∧ (∀ x, x ∈ xs.take j → x ≠ k) ∧ wr = w)
  case atStart => exact ⟨0, by omega, rfl, fun x h => by simp at h, rfl⟩
  case round =>
    obtain ⟨j, hj, rfl, ht, rfl⟩ := hrel
    have HJ := Lib.hid hj; clear hj
    have HT := Lib.hid ht; clear ht
    by_cases hlt : j < n
    · obtain ⟨x, hx, _⟩ := HH.out.get hlt
      obtain ⟨b, o, rfl⟩ := HH.out.addr (by omega)
      have hc := HH.out.cell b o rfl j x hx
      have HX := Lib.hid hx; clear hx
      have i1 : (j : Int) < (n : Int) := by omega
      by_cases e : x = k
      · have e1 : (x == k) = true := by simpa using e
        have HE := Lib.hid e; clear e
        go_wp2_with fail
        go_ret
        exact ⟨j, rfl, .inr ⟨j, rfl, by rw [← HE.out]; exact HX.out, HT.out⟩, rfl⟩
      · have e1 : (x == k) = false := by simpa using e
        have HE := Lib.hid e; clear e
        go_wp2_with fail
        go_roundg (gk - 1)
        case measure => have := HJ.out; omega
        case rel =>
          refine ⟨j + 1, by have := HJ.out; omega, by go_num, fun y hy => ?_, rfl⟩
          rw [List.take_add_one, HX.out] at hy
          simp only [Option.toList_some, List.mem_append, List.mem_singleton] at hy
          rcases hy with hy | rfl
          · exact HT.out y hy
          · exact HE.out
    · obtain rfl : j = n := by have := HJ.out; omega
      have hl := HH.out.len
      have HL := Lib.hid hl; clear hl
      go_wp2_with fail
      go_ret
      refine ⟨-1, rfl, .inl ⟨rfl, ?_⟩, rfl⟩
      have ht := HT.out
      rw [List.take_of_length_le (by have := HL.out; omega)] at ht
      exact ht

set_option maxHeartbeats 1000000 in
set_option maxRecDepth 100000 in
theorem may07_any (ga ha : Option Addr) (gn gc hn hc : Nat) (g : List (List Int)) (items : Int) (has : List Int) (start : Int) (w : World) (hg : Rows w ga gn gc g) (hh : Ints w ha hn hc has) :
    Calls Tryz.prog 95 #[.slice ga gn gc, .int .i64 items, .slice ha hn hc, .int .i64 start] w fun e w' => e = .returned (.bool (bOk g items has start)) ∧ Below w.heap.size w w' := by
  have hl1 := hg.len
  have hl2 := hh.len
  have HG := Lib.hid hg; clear hg
  have HH := Lib.hid hh; clear hh
  have HL1 := Lib.hid hl1; clear hl1
  have HL2 := Lib.hid hl2; clear hl2
  cases hf : fitsB g items has with
  | false =>
    have HF := Lib.hid hf; clear hf
    go_enter Tryz.func95, Tryz.ntmps95
    go_wp2_with fail
    refine (fits06_any ga ha gn gc hn hc g items has w HG.out HH.out).mono ?_
    rw [HF.out]
    rintro e w1 ⟨rfl, hb⟩
    have HB := Lib.hid hb; clear hb
    go_wp2_with fail
    go_ret
    exact ⟨ret_bool (by simp [bOk, HF.out]), HB.out⟩
  | true =>
    have hlen : hn = gn := by
      have h := hf
      simp only [fitsB, Bool.and_eq_true, decide_eq_true_eq] at h
      rw [← HL1.out, ← HL2.out]; exact h.1.2
    subst hlen
    have HF := Lib.hid hf; clear hf
    by_cases s0 : 0 ≤ start
    case neg =>
      have f1 : decide (0 ≤ start) = false := by simpa using s0
      go_enter Tryz.func95, Tryz.ntmps95
      go_wp2_with fail
      refine (fits06_any ga ha hn gc hn hc g items has w HG.out HH.out).mono ?_
      rw [HF.out]
      rintro e w1 ⟨rfl, hb⟩
      have HB := Lib.hid hb; clear hb
      go_wp2_with fail
      go_ret
      exact ⟨ret_bool (by rw [bOk, f1, Bool.and_false]; rfl), HB.out⟩
    have f1 : decide (0 ≤ start) = true := by simpa using s0
    by_cases s1 : start < hn
    case neg =>
      have f2 : decide (start < (hn : Int)) = false := by simpa using s1
      go_enter Tryz.func95, Tryz.ntmps95
      go_wp2_with fail
      refine (fits06_any ga ha hn gc hn hc g items has w HG.out HH.out).mono ?_
      rw [HF.out]
      rintro e w1 ⟨rfl, hb⟩
      have HB := Lib.hid hb; clear hb
      go_wp2_with fail
      go_ret
      exact ⟨ret_bool (by rw [bOk, HL1.out, f2, Bool.and_false]; rfl), HB.out⟩
    obtain ⟨f, rfl⟩ := Int.eq_ofNat_of_zero_le s0
    have f2 : decide ((f : Int) < (hn : Int)) = true := by simpa using s1
    have hfl : f < hn := by omega
    obtain ⟨x, hx, _⟩ := HH.out.get hfl
    obtain ⟨b, o, rfl⟩ := HH.out.addr (by omega)
    have hv : bOk g items has (f : Int) = (x == -1) := by
      rw [bOk, HF.out, f1, HL1.out, f2, Int.toNat_natCast, hx]
      by_cases e : x = -1 <;> simp [e]
    have HV := Lib.hid hv; clear hv
    have HX := Lib.hid hx; clear hx s0
    go_enter Tryz.func95, Tryz.ntmps95
    go_wp2_with fail
    refine (fits06_any ga (some ⟨b, o, none⟩) hn gc hn hc g items has w HG.out HH.out).mono ?_
    rw [HF.out]
    rintro e w1 ⟨rfl, hb⟩
    have hc := (HH.out.below hb (Nat.le_refl _)).cell b o rfl f x HX.out
    have HB := Lib.hid hb; clear hb
    go_wp2_with fail
    go_ret
    exact ⟨ret_bool (by rw [HV.out]), HB.out⟩
end Go.Proofs.YtkddkkcfpnndlaaGreatDoor
