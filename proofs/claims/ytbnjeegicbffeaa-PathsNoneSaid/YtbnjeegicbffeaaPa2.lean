/- Walks: the law PathsNear. -/
import Derived.Test.YtbnjeegicbffeaaPa1
namespace Go.Proofs.Ytbnjeegicbffeaa
open Go.RowKit

theorem hold_free {G : List (List Nat)} {m : List Int} {f : Nat} (hb : BOk G m f) (x : Nat) : (Way.holdTo (hasAt m) m.length x == 0) = !decide ((x : Int) ∈ m) := by
  rw [Bool.eq_iff_iff]
  simp only [beq_iff_eq, Bool.not_eq_true', decide_eq_false_iff_not]
  constructor
  · intro h hm
    obtain ⟨i, hi⟩ := List.mem_iff_getElem?.1 hm
    have hr : hasAt m i = some x := by rw [hasAt_of hi, if_neg (by omega), Int.toNat_natCast]
    have := (hb.held.hold x i).2 hr
    omega
  · intro h
    apply Way.holdTo_zero
    intro i e
    obtain ⟨z, hz, hz1, hz2⟩ := hasAt_some e
    have := hb.bd z (List.mem_of_getElem? hz)
    exact h ((by omega : z = (x : Int)) ▸ List.mem_of_getElem? hz)

/-- the first item of a list that nobody has -/
def firstFree (m : List Int) (L : List Nat) : Option Nat := L.find? fun x => !decide ((x : Int) ∈ m)

theorem near_more {G : List (List Nat)} {m : List Int} {f k : Nat} (hb : BOk G m f) (h : firstFree m (nbOf G f) = some k) : moreOf G m f = some (m.set f (k : Int)) := by
  unfold moreOf
  rw [Way.more_first (k := k) hb.zero (by rw [← h]; unfold firstFree; congr 1; funext x; exact hold_free hb x)]
  simp only [Option.map_some]
  rw [← hasAt_set hb.lt, ← listOf_hasAt (by rw [List.length_set]) fun x hx => ?_]
  rcases List.mem_or_eq_of_mem_set hx with h | h
  · exact (hb.bd x h).1
  · omega

set_option maxRecDepth 100000 in
set_option maxHeartbeats 1000000 in
theorem pathsNear_any (ga ma : Option Addr) (gn gc mn mc : Nat) (g : List (List Int)) (items : Int) (m : List Int) (start : Int) (w : World) (hg : Rows w ga gn gc g) (hm : Ints w ma mn mc m) :
    Calls Try.prog 13 #[.agg #[.slice ga gn gc, .int .i64 items], .slice ma mn mc, .int .i64 start] w fun e w' => e = .returned (.bool true) ∧ Below w.heap.size w w' := by
  have HG := Lib.hid hg; clear hg
  have HM := Lib.hid hm; clear hm
  have HB0 := Lib.hid (pw_start w ga gn gc items)
  have hgr := HG.out.below (pw_kept HB0.out).2.2.2 (Nat.le_refl _)
  have hmr := HM.out.below (pw_kept HB0.out).2.2.2 (Nat.le_refl _)
  rcases bCase g items m start with hok | ⟨G, f, rfl, rfl, hok⟩
  · have HC := Lib.hid (More_no ga ma gn gc mn mc g items start m (pw w ga gn gc items) hgr hmr hok)
    clear hgr hmr hok
    go_enter Try.func13, Try.ntmps13
    go_wp2_with fail
    refine HC.out.mono ?_
    rintro e w1 ⟨rfl, hb1⟩
    have HB1 := Lib.hid (pw_below HB0.out hb1); clear hb1 HC
    go_wp2_with fail
    refine (alive7_any w1).mono ?_
    rintro e w2 ⟨rfl, hb⟩
    have HB2 := Lib.hid (pw_below HB1.out hb); clear hb
    go_wp2_with fail
    go_ret
    exact ⟨rfl, (pw_kept HB2.out).2.2.2⟩
  · have HC := Lib.hid (More_res ga ma gn gc mn mc f G items m (pw w ga gn gc items) hgr hmr hok)
    have hbo := bOk_parts hok
    have HBO := Lib.hid hbo; clear hbo
    clear hgr hmr hok
    have hmG : mn = G.length := by have := HBO.out.len; have := HM.out.len; omega
    have hGn : G.length = gn := by have := HG.out.len; simpa using this
    have hfm : f < mn := by have := HBO.out.lt; have := HM.out.len; omega
    have hmn8 : mn ≤ 8 := by have := HBO.out.n8; omega
    obtain rfl : mn = gn := by omega
    clear hmG
    have HGN := Lib.hid hGn; clear hGn
    -- what More says, in one form
    obtain ⟨fo, hfo⟩ : ∃ fo, fo = firstFree m (nbOf G f) := ⟨_, rfl⟩
    have hcase : (∃ l : List Int, moreOf G m f = some l ∧ ∀ k, fo = some k → l = m.set f (k : Int)) ∨ (moreOf G m f = none ∧ fo = none) := by
      cases hfr : firstFree m (nbOf G f) with
      | none =>
        cases hmo : moreOf G m f with
        | none => exact .inr ⟨rfl, by rw [hfo, hfr]⟩
        | some l => exact .inl ⟨l, rfl, fun k hk => by rw [hfo, hfr] at hk; cases hk⟩
      | some k =>
        rw [near_more HBO.out hfr]
        exact .inl ⟨_, rfl, fun k' hk => by rw [hfo, hfr] at hk; cases hk; rfl⟩
    have HFO := Lib.hid hfo; clear hfo
    -- the loop, and what stands behind it, from any world behind More
    obtain ⟨L, hL⟩ : ∃ L, G[f]? = some L := ⟨_, List.getElem?_eq_getElem (by have := HGN.out; omega)⟩
    have hnb : nbOf G f = L := by simp [nbOf, hL]
    obtain ⟨bg, og, rfl⟩ := HG.out.addr (by omega)
    obtain ⟨bm, om, rfl⟩ := HM.out.addr (by omega)
    obtain ⟨la, ln, lc, hcl0, hli⟩ := HG.out.cell bg og rfl f (nats L) (by rw [List.getElem?_map, hL]; rfl)
    have hln : L.length = ln := by have := hli.len; simpa [nats] using this
    have hlb := hli.big
    have HNB := Lib.hid hnb; clear hnb
    have HLI := Lib.hid hli; clear hli
    have HLN := Lib.hid hln; clear hln
    have HCL := Lib.hid hcl0; clear hcl0
    have HLL := Lib.hid hL; clear hL
    have i1 : (f : Int) < (mn : Int) := by omega
    rcases hcase with ⟨l, hmo, hlk⟩ | ⟨hmo, hfn⟩
    · rw [hmo] at HC
      have HLK := Lib.hid hlk; clear hlk
      clear hmo
      go_enter Try.func13, Try.ntmps13
      go_wp2_with fail
      refine HC.out.mono ?_
      rintro e w1 ⟨a1, rfl, hi1, hb1⟩
      have HB1 := Lib.hid (pw_below HB0.out hb1); clear hb1 HC
      have HI1 := Lib.hid hi1; clear hi1
      obtain ⟨c0, c1, hs1, hB1⟩ := pw_kept HB1.out
      have cl : w1.cell? ⟨bg, og + f, none⟩ = some (.slice la ln lc) := by rw [hB1.cell (p := ⟨bg, og + f, none⟩) (block_lt_of_cell HCL.out)]; exact HCL.out
      have HM1 := Lib.hid (HM.out.below hB1 (Nat.le_refl _))
      have HLI1 := Lib.hid (HLI.out.below hB1 (Nat.le_refl _))
      have HBW1 := Lib.hid hB1; clear hB1
      have e1 : decide ((f : Int) < 0) = false := by simp
      have e2 : decide ((mn : Int) ≤ (f : Int)) = false := by simp; omega
      have e2' : ¬ (mn ≤ f) := by omega
      have e3 : ((mn : Int) != (mn : Int)) = false := by simp
      go_wp2_with fail
      go_loopg [10, 11] ln (fun g' s10 s11 wr => g' ≤ ln ∧ wr = w1 ∧ s11 = .int .i64 ((g' : Int) - 1) ∧ s10 = .int .i64 (itm (firstFree m (L.drop g'))))
      case atStart => exact ⟨Nat.le_refl _, rfl, rfl, by rw [List.drop_eq_nil_of_le (by rw [HLN.out]; exact Nat.le_refl _)]; rfl⟩
      case round =>
        obtain ⟨hgl, rfl, rfl, rfl⟩ := hrel
        cases gk with
        | succ r =>
          rw [show (((r + 1 : Nat) : Int) - 1) = (r : Int) by omega]
          obtain ⟨x, hx⟩ : ∃ x, L[r]? = some x := ⟨_, List.getElem?_eq_getElem (by rw [HLN.out]; omega)⟩
          obtain ⟨lb, lo, rfl⟩ := HLI1.out.addr (by omega)
          have cx := HLI1.out.cell lb lo rfl r (x : Int) (by simp [nats, hx])
          have hd : L.drop r = x :: L.drop (r + 1) := by
            have h2 : L[r]'(by have := HLN.out; omega) = x := (List.getElem?_eq_some_iff.1 hx).2
            rw [← h2]; exact List.drop_eq_getElem_cons _
          have hff : firstFree m (L.drop r) = if (x : Int) ∈ m then firstFree m (L.drop (r + 1)) else some x := by
            rw [hd]; unfold firstFree; rw [List.find?_cons]
            by_cases h : (x : Int) ∈ m <;> simp [h]
          obtain ⟨o, ho⟩ : ∃ o, o = firstFree m (L.drop (r + 1)) := ⟨_, rfl⟩
          rw [← ho] at hff ⊢
          have i2 : (r : Int) < (ln : Int) := by omega
          have i3 : r ≤ ln := by omega
          have HX := Lib.hid hx; clear hx
          have HD := Lib.hid hd; clear hd
          have HFF := Lib.hid hff; clear hff
          have HOO := Lib.hid ho; clear ho
          by_cases hxm : (x : Int) ∈ m
          · have e4 : decide ((x : Int) ∈ m) = true := by simp [hxm]
            have HXM := Lib.hid hxm; clear hxm
            go_wp2_with fail
            refine (lhas_any _ mn mc m x wr HM1.out).mono ?_
            rw [e4]
            rintro e w3 ⟨rfl, rfl⟩
            go_wp2_with fail
            go_roundg r
            case measure => omega
            case rel => exact ⟨i3, rfl, rfl, by rw [HFF.out, if_pos HXM.out]⟩
          · have e4 : decide ((x : Int) ∈ m) = false := by simp [hxm]
            have HXM := Lib.hid hxm; clear hxm
            go_wp2_with fail
            refine (lhas_any _ mn mc m x wr HM1.out).mono ?_
            rw [e4]
            rintro e w3 ⟨rfl, rfl⟩
            go_wp2_with fail
            go_roundg r
            case measure => omega
            case rel => exact ⟨i3, rfl, rfl, by rw [HFF.out, if_neg HXM.out]; rfl⟩
        | zero =>
          rw [List.drop_zero, show firstFree m L = fo by rw [HFO.out, HNB.out]]
          cases fo with
          | none =>
            simp only [itm, Int.ofNat_zero, Int.zero_sub]
            go_wp2_with fail
            refine (alive7_any wr).mono ?_
            rintro e w2 ⟨rfl, hb⟩
            have HB2 := Lib.hid (pw_below HB1.out hb); clear hb
            go_wp2_with fail
            go_ret
            exact ⟨rfl, (pw_kept HB2.out).2.2.2⟩
          | some k =>
            have hlk := HLK.out k rfl
            have HLK2 := Lib.hid hlk; clear hlk
            rw [itm_some]
            have e5 : ((k : Int) == -1) = false := by simp
            simp only [Int.natCast_zero, Int.zero_sub]
            have HBR := Lib.hid (Below.refl wr.heap.size wr)
            go_wp2_with (at_builtin; refine appMany _ rfl _ _ rfl wr.heap.size _ [] rfl (Own.nil _ _) _ mn mc m rfl HM1.out (by omega) (by simp; omega) (Nat.le_refl _) ?_)
            intro v' w2 hown' _ hb' _
            obtain ⟨va, vc, rfl, hmr, _⟩ := hown'.myRow
            rw [HM1.out.len] at hmr ⊢
            obtain ⟨gb, rfl, hgb1, hgb2⟩ := hmr.lt (by omega)
            have hset := hmr.set f (k : Int)
            have hmi := hmr.ints (by omega) (fun x hx => HM1.out.bd x hx)
            obtain ⟨x, hx, _⟩ := hmi.get hfm
            have cx := hmi.cell gb 0 rfl f x hx
            rw [Nat.zero_add] at cx
            have cf := hmr.frozen (by omega) f
            have HSET := Lib.hid hset; clear hset
            have HMI := Lib.hid hmi; clear hmi
            have HX := Lib.hid hx; clear hx
            have HB2 := Lib.hid hb'; clear hb' hown' hmr
            go_wp2_with fail
            refine (alive7_any _).mono ?_
            rintro e w3 ⟨rfl, hb⟩
            have hst : Below wr.heap.size wr (w2.setCell ⟨gb, f, none⟩ (.int .i64 (k : Int))) := HB2.out.setCell hgb1 _
            have hst3 := hst.trans (hb.mono hst.size)
            have hwant : Ints w3 (some ⟨gb, 0, none⟩) mn vc (m.set f (k : Int)) := (HSET.out.ints (by omega) (fun x hx => by
              rcases List.mem_or_eq_of_mem_set hx with h | h
              · exact HM1.out.bd x h
              · have := HBO.out.n8
                have hk8 : k < 8 := by
                  have h1 := HFO.out
                  have h2 := List.mem_of_find?_eq_some h1.symm
                  rw [HNB.out] at h2
                  exact HBO.out.lists L (List.mem_of_getElem? HLL.out) k h2
                omega)).below hb (Nat.le_refl _)
            have HW3 := Lib.hid hwant; clear hwant
            have HI3 := Lib.hid (HI1.out.below hst3 (Nat.le_refl _))
            have HB3 := Lib.hid (pw_below HB1.out hst3); clear hb hst hst3
            go_wp2_with fail
            refine (same_any a1 _ mn mn mn vc l (m.set f (k : Int)) w3 HI3.out HW3.out).mono ?_
            rw [show decide (l = m.set f (k : Int)) = true by simp [HLK2.out]]
            rintro e w4 ⟨rfl, hb⟩
            have HB4 := Lib.hid (pw_below HB3.out hb); clear hb
            go_wp2_with fail
            go_ret
            exact ⟨rfl, (pw_kept HB4.out).2.2.2⟩
    · rw [hmo] at HC
      have HFN := Lib.hid hfn; clear hfn
      clear hmo
      go_enter Try.func13, Try.ntmps13
      go_wp2_with fail
      refine HC.out.mono ?_
      rintro e w1 ⟨rfl, hb1⟩
      have HB1 := Lib.hid (pw_below HB0.out hb1); clear hb1 HC
      obtain ⟨c0, c1, hs1, hB1⟩ := pw_kept HB1.out
      have cl : w1.cell? ⟨bg, og + f, none⟩ = some (.slice la ln lc) := by rw [hB1.cell (p := ⟨bg, og + f, none⟩) (block_lt_of_cell HCL.out)]; exact HCL.out
      have HM1 := Lib.hid (HM.out.below hB1 (Nat.le_refl _))
      have HLI1 := Lib.hid (HLI.out.below hB1 (Nat.le_refl _))
      have HBW1 := Lib.hid hB1; clear hB1
      have e1 : decide ((f : Int) < 0) = false := by simp
      have e2 : decide ((mn : Int) ≤ (f : Int)) = false := by simp; omega
      have e2' : ¬ (mn ≤ f) := by omega
      have e3 : ((mn : Int) != (mn : Int)) = false := by simp
      go_wp2_with fail
      go_loopg [10, 11] ln (fun g' s10 s11 wr => g' ≤ ln ∧ wr = w1 ∧ s11 = .int .i64 ((g' : Int) - 1) ∧ s10 = .int .i64 (itm (firstFree m (L.drop g'))))
      case atStart => exact ⟨Nat.le_refl _, rfl, rfl, by rw [List.drop_eq_nil_of_le (by rw [HLN.out]; exact Nat.le_refl _)]; rfl⟩
      case round =>
        obtain ⟨hgl, rfl, rfl, rfl⟩ := hrel
        cases gk with
        | succ r =>
          rw [show (((r + 1 : Nat) : Int) - 1) = (r : Int) by omega]
          obtain ⟨x, hx⟩ : ∃ x, L[r]? = some x := ⟨_, List.getElem?_eq_getElem (by rw [HLN.out]; omega)⟩
          obtain ⟨lb, lo, rfl⟩ := HLI1.out.addr (by omega)
          have cx := HLI1.out.cell lb lo rfl r (x : Int) (by simp [nats, hx])
          have hd : L.drop r = x :: L.drop (r + 1) := by
            have h2 : L[r]'(by have := HLN.out; omega) = x := (List.getElem?_eq_some_iff.1 hx).2
            rw [← h2]; exact List.drop_eq_getElem_cons _
          have hff : firstFree m (L.drop r) = if (x : Int) ∈ m then firstFree m (L.drop (r + 1)) else some x := by
            rw [hd]; unfold firstFree; rw [List.find?_cons]
            by_cases h : (x : Int) ∈ m <;> simp [h]
          obtain ⟨o, ho⟩ : ∃ o, o = firstFree m (L.drop (r + 1)) := ⟨_, rfl⟩
          rw [← ho] at hff ⊢
          have i2 : (r : Int) < (ln : Int) := by omega
          have i3 : r ≤ ln := by omega
          have HX := Lib.hid hx; clear hx
          have HD := Lib.hid hd; clear hd
          have HFF := Lib.hid hff; clear hff
          have HOO := Lib.hid ho; clear ho
          by_cases hxm : (x : Int) ∈ m
          · have e4 : decide ((x : Int) ∈ m) = true := by simp [hxm]
            have HXM := Lib.hid hxm; clear hxm
            go_wp2_with fail
            refine (lhas_any _ mn mc m x wr HM1.out).mono ?_
            rw [e4]
            rintro e w3 ⟨rfl, rfl⟩
            go_wp2_with fail
            go_roundg r
            case measure => omega
            case rel => exact ⟨i3, rfl, rfl, by rw [HFF.out, if_pos HXM.out]⟩
          · have e4 : decide ((x : Int) ∈ m) = false := by simp [hxm]
            have HXM := Lib.hid hxm; clear hxm
            go_wp2_with fail
            refine (lhas_any _ mn mc m x wr HM1.out).mono ?_
            rw [e4]
            rintro e w3 ⟨rfl, rfl⟩
            go_wp2_with fail
            go_roundg r
            case measure => omega
            case rel => exact ⟨i3, rfl, rfl, by rw [HFF.out, if_neg HXM.out]; rfl⟩
        | zero =>
          rw [List.drop_zero, show firstFree m L = none by rw [← HFN.out, HFO.out, HNB.out]]
          simp only [itm, Int.ofNat_zero, Int.zero_sub]
          go_wp2_with fail
          refine (alive7_any wr).mono ?_
          rintro e w2 ⟨rfl, hb⟩
          have HB2 := Lib.hid (pw_below HB1.out hb); clear hb
          go_wp2_with fail
          go_ret
          exact ⟨rfl, (pw_kept HB2.out).2.2.2⟩
end Go.Proofs.Ytbnjeegicbffeaa
