/- Walks: paths.More. -/
import Derived.Test.YtbnjeegicbffeaaPs4
import Derived.Test.YtbnjeegicbffeaaWay3
namespace Go.Proofs.Ytbnjeegicbffeaa
open Go.RowKit

/-- lists that may be who may have what hold no number of a sign -/
theorem gcheck_nats {g : List (List Int)} {items : Int} (h : gcheck g items = true) : ∃ G : List (List Nat), g = G.map nats := by
  obtain ⟨_, _, _, q4⟩ := gcheck_parts h
  refine ⟨g.map fun l => l.map Int.toNat, ?_⟩
  rw [List.map_map]
  conv => lhs; rw [← List.map_id g]
  refine List.map_congr_left fun l hl => ?_
  simp only [id_eq, Function.comp_apply, nats, List.map_map]
  conv => lhs; rw [← List.map_id l]
  refine List.map_congr_left fun x hx => ?_
  have := (risesFrom_bd (q4 l hl) x hx).1
  simp; omega

theorem mem_nats {L : List Nat} {k : Nat} : (k : Int) ∈ nats L ↔ k ∈ L := by
  unfold nats
  rw [List.mem_map]
  constructor
  · rintro ⟨a, ha, e⟩
    obtain rfl : a = k := by omega
    exact ha
  · exact fun h => ⟨k, h, rfl⟩

theorem nbOf_map {G : List (List Nat)} {i : Nat} : (G.map nats)[i]?.getD [] = nats (nbOf G i) := by
  unfold nbOf
  rw [List.getElem?_map]
  cases G[i]? <;> rfl

theorem hasAt_some {has : List Int} {i k : Nat} (h : hasAt has i = some k) : ∃ x, has[i]? = some x ∧ x ≠ -1 ∧ x.toNat = k := by
  unfold hasAt at h
  cases hx : has[i]? with
  | none => rw [hx] at h; cases h
  | some x =>
    rw [hx] at h
    simp only at h
    split at h
    · cases h
    · rename_i hne; exact ⟨x, rfl, hne, by simpa using h⟩

/-- what fits is a matching -/
theorem fits_mat {G : List (List Nat)} {items : Int} {has : List Int} (h : fitsB (G.map nats) items has = true) : Way.Mat (nbOf G) has.length (hasAt has) := by
  refine ⟨fun w k e => ?_, fun w w' k e e' => ?_, fun w k e => ?_⟩
  · obtain ⟨x, hx, _⟩ := hasAt_some e
    exact (List.getElem?_eq_some_iff.1 hx).1
  · obtain ⟨x, hx, hne, ex⟩ := hasAt_some e
    obtain ⟨x', hx', hne', ex'⟩ := hasAt_some e'
    have b1 := fits_item h hx hne
    have b2 := fits_item h hx' hne'
    obtain rfl : x = x' := by omega
    have h3 := (fitsB_parts h).2.2
    rcases Nat.lt_trichotomy w w' with hlt | rfl | hlt
    · have := (okFit_at h3 (List.getElem?_eq_some_iff.1 hx').1 hx' hne).2
      exact absurd (List.mem_iff_getElem?.2 ⟨w, by rw [List.getElem?_take_of_lt hlt, hx]⟩) this
    · rfl
    · have := (okFit_at h3 (List.getElem?_eq_some_iff.1 hx).1 hx hne).2
      exact absurd (List.mem_iff_getElem?.2 ⟨w', by rw [List.getElem?_take_of_lt hlt, hx']⟩) this
  · obtain ⟨x, hx, hne, ex⟩ := hasAt_some e
    have b1 := fits_item h hx hne
    have hm := b1.2.2.2
    rw [nbOf_map] at hm
    obtain ⟨y, rfl⟩ := Int.eq_ofNat_of_zero_le b1.1
    rw [mem_nats] at hm
    simpa [← ex] using hm

theorem hasAt_set {hs : List Int} {i k : Nat} (hi : i < hs.length) : hasAt (hs.set i (k : Int)) = Sale.upd (hasAt hs) i (some k) := by
  funext x
  by_cases e : x = i
  · subst e
    rw [Sale.upd_same]
    have : (hs.set x (k : Int))[x]? = some (k : Int) := List.getElem?_set_self hi
    rw [hasAt_of this, if_neg (by omega), Int.toNat_natCast]
  · rw [Sale.upd_other e]
    unfold hasAt
    rw [List.getElem?_set_ne (Ne.symm e)]

/-- a search may begin: what holds then -/
structure BOk (G : List (List Nat)) (has : List Int) (f : Nat) : Prop where
  mat : Way.Mat (nbOf G) has.length (hasAt has)
  zero : hasAt has f = none
  lt : f < has.length
  len : has.length = G.length
  n8 : G.length ≤ 8
  lists : ∀ l, l ∈ G → ∀ k, k ∈ l → k < 8
  bd : ∀ x, x ∈ has → -1 ≤ x ∧ x < 8

theorem bOk_parts {G : List (List Nat)} {items : Int} {has : List Int} {f : Nat} (h : bOk (G.map nats) items has f = true) : BOk G has f := by
  simp only [bOk, Bool.and_eq_true, decide_eq_true_eq] at h
  obtain ⟨⟨⟨hf, _⟩, hfl⟩, hx⟩ := h
  rw [Int.toNat_natCast] at hx
  obtain ⟨h1, h2, h3⟩ := fitsB_parts hf
  obtain ⟨q1, q2, q3, q4⟩ := gcheck_parts h1
  rw [List.length_map] at h2 q3
  refine ⟨fits_mat hf, by rw [hasAt_of hx, if_pos rfl], (List.getElem?_eq_some_iff.1 hx).1, h2, q3, fun l hl k hk => ?_, fun x hx => ?_⟩
  · have := risesFrom_bd (q4 (nats l) (List.mem_map.2 ⟨l, hl, rfl⟩)) (k : Int) (mem_nats.2 hk)
    omega
  · obtain ⟨i, hi⟩ := List.mem_iff_getElem?.1 hx
    by_cases hne : x = -1
    · omega
    · have := fits_item hf hi hne
      omega

theorem MyRow.drew {w : World} {base : Nat} {a : Option Addr} {n c : Nat} {xs : List Int} (h : MyRow w base a n c xs) : MyRow w.drew base a n c xs := ⟨h.len, h.cap, h.nil, h.own⟩
theorem VRow.other {w : World} {B : Nat} {T : TypeId} {vals : List Value} (h : VRow w B T vals) {a : Addr} (ha : B ≠ a.block) (v : Value) : VRow (w.setCell a v) B T vals := by
  unfold VRow; rw [heap_setCell_other w a B v ha]; exact h

theorem MyRow.keep {w w' : World} {base B : Nat} {a : Option Addr} {n c : Nat} {xs : List Int} (h : MyRow w base a n c xs) (hb : Below B w w') (hlt : 0 < n → ∀ b o, a = some ⟨b, o, none⟩ → b < B) : MyRow w' base a n c xs :=
  ⟨h.len, h.cap, h.nil, fun hn => by
    obtain ⟨g, cur, e, hg, hh, r⟩ := h.own hn
    exact ⟨g, cur, e, hg, by rw [hb.block g (hlt hn g 0 e)]; exact hh, r⟩⟩

/-- what More tells -/
def MoreSays (n : Nat) (r : Option (Nat → Option Nat)) (w : World) (e : Ending) (w' : World) : Prop := match r with
  | none => e = .returned (.tuple #[.slice none 0 0, .bool false, .int .i64 0]) ∧ Below w.heap.size w w'
  | some h' => ∃ a hs, e = .returned (.tuple #[.slice a n n, .bool true, .int .i64 0]) ∧ Ints w' a n n hs ∧ hasAt hs = h' ∧ (∀ x, x ∈ hs → -1 ≤ x ∧ x < 8) ∧ Below w.heap.size w w'

set_option maxRecDepth 100000 in
set_option maxHeartbeats 1000000 in
theorem More_no (ga ha : Option Addr) (gn gc hn hc : Nat) (g : List (List Int)) (items start : Int) (has : List Int) (w : World) (hg : Rows w ga gn gc g) (hh : Ints w ha hn hc has) (hok : bOk g items has start = false) :
    Calls Try.prog 32 #[.slice ga gn gc, .int .i64 items, .slice ha hn hc, .int .i64 start] w fun e w' => e = .returned (.tuple #[.slice none 0 0, .bool false, .int .i64 1]) ∧ Below w.heap.size w w' := by
  have HC := Lib.hid (begin_no ga ha gn gc hn hc g items start has w hg hh hok)
  clear hg hh hok
  go_enter Try.func32, Try.ntmps32
  go_wp2_with fail
  refine HC.out.mono ?_
  rintro e w1 ⟨rfl, hb⟩
  have HB := Lib.hid hb; clear hb
  go_wp2_with fail
  go_ret3
  exact ⟨rfl, HB.out⟩

set_option maxRecDepth 100000 in
set_option maxHeartbeats 1000000 in
theorem More_yes (ga ha : Option Addr) (gn gc hn hc f : Nat) (G : List (List Nat)) (items : Int) (has : List Int) (w : World) (hg : Rows w ga gn gc (G.map nats)) (hh : Ints w ha hn hc has) (hok : bOk (G.map nats) items has f = true) :
    Calls Try.prog 32 #[.slice ga gn gc, .int .i64 items, .slice ha hn hc, .int .i64 f] w (MoreSays hn (Way.more (nbOf G) (Way.holdTo (hasAt has) hn) (hasAt has) f) w) := by
  have hb := bOk_parts hok
  have HC := Lib.hid (begin_yes ga ha gn gc hn hc f (G.map nats) items has w hg hh hok)
  have HBO := Lib.hid hb; clear hb
  have HG := Lib.hid hg; clear hg
  have hhl := hh.len
  have hgl := HG.out.len
  rw [List.length_map] at hgl
  have HHL := Lib.hid hhl; clear hhl
  have HGL := Lib.hid hgl; clear hgl
  clear hok hh
  obtain ⟨R, hR⟩ : ∃ R, R = Way.more (nbOf G) (Way.holdTo (hasAt has) hn) (hasAt has) f := ⟨_, rfl⟩
  rw [← hR]
  have HR0 := Lib.hid hR; clear hR
  go_enter Try.func32, Try.ntmps32
  go_wp2_with fail
  refine HC.out.mono ?_
  rintro e w1 ⟨B, a', rfl, hBz, hS, hM, hab, hb⟩
  clear HC
  have HB := Lib.hid hb; clear hb
  have HM := Lib.hid hM; clear hM
  have HAB := Lib.hid hab; clear hab
  have hbw : B + 1 < w1.heap.size := by obtain ⟨wv, hV, _⟩ := hS; exact hV.lt
  have hgn : gn ≤ 8 := by have := HBO.out.n8; have := HGL.out; omega
  have hfg : f < gn := by have := HBO.out.lt; have := HBO.out.len; have := HGL.out; omega
  have hHeld : Way.Held (nbOf G) (hasAt has) (Way.holdTo (hasAt has) hn) := HBO.out.mat.held (by rw [HHL.out]; exact Nat.le_refl _)
  have HGO := Lib.hid (goes_any false B ga gn gc (.slice a' hn hn) f G (hasAt has) (Way.holdTo (hasAt has) hn) w1 w HG.out HB.out hBz hbw hS hHeld HBO.out.zero hfg (fun x k e => by have := HBO.out.mat.lt x k e; have := HBO.out.len; have := HGL.out; omega) HBO.out.lists hgn)
  have HH := Lib.hid hHeld; clear hHeld
  clear hS
  go_wp2_with fail
  refine HGO.out.mono ?_
  rintro e w2 ⟨rfl, hS2, hb2⟩
  clear HGO
  have hR := HR0.out
  clear HR0
  unfold Way.more at hR
  rcases hgo : Way.goes (nbOf G) (Way.holdTo (hasAt has) hn) false 9 0 ⟨[f], fun _ => 0⟩ with ⟨s, o⟩
  rw [hgo] at hS2 hR
  have HGOES := Lib.hid hgo; clear hgo
  have HB2 := Lib.hid hb2; clear hb2
  have HS2 := Lib.hid hS2; clear hS2
  cases o with
  | none =>
    have HR := Lib.hid hR; clear hR
    have hall := HB.out.trans (HB2.out.mono hBz)
    have HALL := Lib.hid hall; clear hall
    simp only [Option.isSome_none, item0, Option.getD_none]
    go_wp2_with fail
    go_ret3
    rw [HR.out]
    exact ⟨rfl, HALL.out⟩
  | some k0 =>
    have HR := Lib.hid hR; clear hR
    simp only [Option.isSome_some, item0, Option.getD_some]
    go_wp2_with fail
    have h8 : ∀ w k, hasAt has w = some k → k < 8 := fun x k e => by
      have hk := HBO.out.mat.fits x k e
      unfold nbOf at hk
      cases hGx : G[x]? with
      | none => rw [hGx] at hk; cases hk
      | some l => rw [hGx] at hk; exact HBO.out.lists l (List.mem_of_getElem? hGx) k hk
    obtain ⟨_, hI, _, hc0⟩ := Way.aug_found HH.out HBO.out.zero h8 HGOES.out
    obtain ⟨i0, hi0⟩ : ∃ i, s.came k0 = i + 1 := ⟨s.came k0 - 1, by omega⟩
    obtain ⟨j0, hj0⟩ := List.mem_iff_getElem?.1 (hI.came k0 i0 hi0).2
    have hj9 : j0 < 9 := by
      have := hI.length HH.out h8
      have := (List.getElem?_eq_some_iff.1 hj0).1
      omega
    have hpos : 0 < hn := by have := HBO.out.lt; have := HHL.out; omega
    obtain ⟨gb, hga, _, hgl1⟩ := HM.out.lt hpos
    subst hga
    have hgbB : gb < B := HAB.out hpos gb 0 rfl
    obtain ⟨wv, hV, _, _⟩ := HS2.out
    have HAT := Lib.hid (Way.At.mk (has := hasAt has) (H := hasAt has) hi0 hj0 (fun _ _ _ _ => rfl))
    have HI := Lib.hid hI; clear hI
    have HV := Lib.hid hV; clear hV
    have H8 := Lib.hid h8; clear h8
    have hws : ∀ x, x ∈ s.ws → x < hn := fun x hx => by
      obtain ⟨j, hj⟩ := List.mem_iff_getElem?.1 hx
      cases j with
      | zero => have := HI.out.head; rw [this] at hj; cases hj; have := HBO.out.lt; have := HHL.out; omega
      | succ j => obtain ⟨k', i, j', e1, _⟩ := HI.out.rest j x hj; have := HBO.out.mat.lt x k' e1; have := HHL.out; omega
    have HWS := Lib.hid hws; clear hws
    clear hi0 hj0 hc0
    have HALL := Lib.hid (HB.out.trans (HB2.out.mono hBz))
    have hn8 : hn ≤ 8 := by have := HBO.out.len; have := HBO.out.n8; have := HHL.out; omega
    go_loopg [13] 9 (fun g' s13 wr => ∃ hs : List Int, VRow wr (B + 1) 89 (sCells (.slice ga gn gc) (.slice (some ⟨gb, 0, none⟩) hn hn) wv s.came (Way.holdTo (hasAt has) hn)) ∧ MyRow wr w.heap.size (some ⟨gb, 0, none⟩) hn hn hs ∧ Below w.heap.size w wr ∧ (∀ x, x ∈ hs → -1 ≤ x ∧ x < 8) ∧
      ((s13 = .int .i64 (-1) ∧ hasAt hs = Way.aug s.came 9 k0 (hasAt has)) ∨ ∃ k i j : Nat, s13 = .int .i64 k ∧ Way.At (hasAt has) s k i j (hasAt hs) ∧ j < g' ∧ Way.aug s.came 9 k0 (hasAt has) = Way.aug s.came g' k (hasAt hs)))
    case atStart => exact ⟨has, HV.out, HM.out.keep HB2.out HAB.out, HALL.out, HBO.out.bd, .inr ⟨k0, i0, j0, rfl, HAT.out, hj9, rfl⟩⟩
    case round =>
      obtain ⟨hs, hV, hM, hB3, hbd, hcase⟩ := hrel
      rcases hcase with ⟨rfl, hfin⟩ | ⟨k, i, j, rfl, hat, hj, hfin⟩
      · have c1 := hV.cell (k := 1) rfl
        have HM3 := Lib.hid hM; clear hM
        have HB3 := Lib.hid hB3; clear hB3
        have HFIN := Lib.hid hfin; clear hfin
        have HBD := Lib.hid hbd; clear hbd
        have HV3 := Lib.hid hV; clear hV
        go_wp2_with fail
        go_ret3
        rw [HR.out]
        exact ⟨_, hs, rfl, HM3.out.ints (by omega) (fun x hx => by have := HBD.out x hx; omega), HFIN.out, HBD.out, HB3.out⟩
      · have hin : i < hn := HWS.out i (List.mem_of_getElem? hat.idx)
        have hkn := (HI.out.came k i hat.came).1
        have hk8 : k < 8 := by
          unfold nbOf at hkn
          cases hGx : G[i]? with
          | none => rw [hGx] at hkn; cases hkn
          | some l => rw [hGx] at hkn; exact HBO.out.lists l (List.mem_of_getElem? hGx) k hkn
        obtain ⟨hHi, hstep⟩ := hat.step HI.out HBO.out.zero
        obtain ⟨x, hx⟩ : ∃ x, hs[i]? = some x := ⟨_, List.getElem?_eq_getElem (by rw [hM.len]; exact hin)⟩
        have hxb := hbd x (List.mem_of_getElem? hx)
        have c1 := hV.cell (k := 1) rfl
        have cc := hV.cell (sCells_came (came := s.came) (hold := Way.holdTo (hasAt has) hn) hk8)
        have ci := (hM.ints (by omega) (fun x hx => by have := hbd x hx; omega)).cell gb 0 rfl i x hx
        rw [Nat.zero_add] at ci
        have cf := hM.frozen hpos i
        rw [hat.came] at cc
        unfold iv at cc
        have ew : IntKind.i64.wrap (((i + 1 : Nat) : Int) - 1) = (i : Int) := by rw [IntWalk.i64_in _ (by omega)]; omega
        have i1 : (i : Int) < (hn : Int) := by omega
        have i2 : (k : Int) < 8 := by omega
        have hset := hM.set i (k : Int)
        have hval := hasAt_set (hs := hs) (k := k) (by rw [hM.len]; exact hin)
        have HSET := Lib.hid hset; clear hset
        have HVAL := Lib.hid hval; clear hval
        have HX := Lib.hid hx; clear hx
        have HM3 := Lib.hid hM; clear hM
        have HB3 := Lib.hid hB3; clear hB3
        have HFIN := Lib.hid hfin; clear hfin
        have HBD := Lib.hid hbd; clear hbd
        have HV3 := Lib.hid hV; clear hV
        have HAT3 := Lib.hid hat; clear hat
        have HHI := Lib.hid hHi; clear hHi
        have HST := Lib.hid hstep; clear hstep
        clear hkn
        go_wp2_with fail
        go_region
        go_wp2_with fail
        go_roundg (gk - 1)
        case measure => omega
        case rel =>
          obtain ⟨g0, rfl⟩ : ∃ g0, gk = g0 + 1 := ⟨gk - 1, by omega⟩
          rw [Nat.add_sub_cancel]
          refine ⟨hs.set i (k : Int), (HV3.out.other (by simp; omega) _).drew, HSET.out.drew, (HB3.out.setCell (by simp; omega) _).drew, fun y hy => ?_, ?_⟩
          · rcases List.mem_or_eq_of_mem_set hy with h | h
            · exact HBD.out y h
            · omega
          · have hat := HAT3.out
            have hfin := HFIN.out
            have hci : s.came k - 1 = i := by have := hat.came; omega
            rcases HST.out with hnone | ⟨k2, i2, j2, hsome, hj2, hat2⟩
            · left
              rw [← HHI.out] at hnone
              rw [hasAt_of HX.out] at hnone
              have hx1 : x = -1 := by
                apply Classical.byContradiction
                intro hne
                rw [if_neg hne] at hnone; cases hnone
              refine ⟨by rw [hx1], ?_⟩
              rw [hfin, HVAL.out]
              simp only [Way.aug, hci, hasAt_of HX.out, if_pos hx1]
            · right
              rw [← HHI.out] at hsome
              have hsome2 := hsome
              rw [hasAt_of HX.out] at hsome2
              have hx1 : x = (k2 : Int) := by
                split at hsome2
                · cases hsome2
                · have := Option.some.inj hsome2; omega
              refine ⟨k2, i2, j2, by rw [hx1], by rw [HVAL.out]; exact hat2, by omega, ?_⟩
              rw [hfin, HVAL.out]
              simp only [Way.aug, hci, hsome]
end Go.Proofs.Ytbnjeegicbffeaa
