/- Walks: payments: the book of a market, and what all have but one. -/
import Derived.Test.YtbnjeegicbffeaaMg2
import Derived.Test.YtbnjeegicbffeaaWt4
import Derived.Deep.DeepCutAuto
namespace Go.Proofs.Ytbnjeegicbffeaa
open Go.RowKit Sale

/-- the order as numbers of no sign; who has what -/
def ordN (m : Mkt) : List Nat := m.ord.map Int.toNat
def hasM (m : Mkt) : List Int := firstOf (gainsM m) m.res.length (ordN m)
theorem hasM_length (m : Mkt) : (hasM m).length = m.bids.length := by unfold hasM; rw [firstOf_length, gainsM_length]
theorem MOk.ordN {m : Mkt} (h : MOk m) : m.ord = (ordN m).map (fun k : Nat => (k : Int)) ∧ (ordN m).Perm (List.range m.bids.length) := by
  obtain ⟨on, e, hp⟩ := h.order
  have : Go.Proofs.Ytbnjeegicbffeaa.ordN m = on := by
    unfold Go.Proofs.Ytbnjeegicbffeaa.ordN
    rw [e, List.map_map]
    conv => rhs; rw [← List.map_id on]
    exact List.map_congr_left fun x _ => by simp
  rw [this]
  exact ⟨e, hp⟩
theorem MOk.first {m : Mkt} (h : MOk m) : IsFirst (gi (gainsM m)) m.res.length (Go.Proofs.Ytbnjeegicbffeaa.ordN m) (slotOf (hasM m)) :=
  first_is (by rw [gainsM_length]; exact h.ordN.2)
theorem MOk.fits {m : Mkt} (h : MOk m) : Fits (gi (gainsM m)) m.res.length (List.range m.bids.length) (fun _ => true) (slotOf (hasM m)) := h.first.fits.perm h.ordN.2
theorem MOk.best {m : Mkt} (h : MOk m) : total (gi (gainsM m)) (slotOf (hasM m)) (List.range m.bids.length) = opt (gi (gainsM m)) m.res.length (List.range m.bids.length) (fun _ => true) := by
  rw [← opt_perm h.first.nodup h.ordN.2, ← h.first.best, total_perm h.ordN.2]
theorem hasM_ge (m : Mkt) : ∀ x, x ∈ hasM m → -1 ≤ x := firstOf_ge _ _ _
/-- an entry: none, or an item that is there -/
theorem MOk.item {m : Mkt} (h : MOk m) {i : Nat} {x : Int} (hx : (hasM m)[i]? = some x) (hne : x ≠ -1) : ∃ k : Nat, x = (k : Int) ∧ k < m.res.length ∧ slotOf (hasM m) i = some k ∧ 0 ≤ gi (gainsM m) i k := by
  have hi : i < m.bids.length := by rw [← hasM_length]; exact (List.getElem?_eq_some_iff.1 hx).1
  have h1 := hasM_ge m x (List.mem_of_getElem? hx)
  have hs : slotOf (hasM m) i = some x.toNat := by rw [slot_of hx, if_neg hne]
  have h2 := h.fits.some i (List.mem_range.2 hi) _ hs
  exact ⟨x.toNat, by omega, h2.1, hs, h2.2.2⟩

theorem FirstM {m : Mkt} (h : MOk m) (ga oa : Option Addr) (gn gc on oc : Nat) (w : World) (hg : Rows w ga gn gc (gainsM m)) (ho : Ints w oa on oc m.ord) :
    Calls Try.prog 23 #[.slice ga gn gc, .int .i64 (m.res.length : Nat), .slice oa on oc] w (RetList 0 (hasM m) w) := by
  have h1 := h.ordN.1
  have h2 := h.ord
  rw [h1] at ho h2
  exact First_yes ga oa gn gc on oc (gainsM m) m.res.length (ordN m) w hg ho h.wcheck (by rw [gainsM_length]; exact h2)

/-- a book's cells -/
def bookV (ra ba oa ga ha : Option Addr) (rn rc bn bc on oc gc hc : Nat) : List Value := [.slice ra rn rc, .slice ba bn bc, .slice oa on oc, .slice ga bn gc, .slice ha bn hc]
structure BookAt (w : World) (Bk : Nat) (ra ba oa ga ha : Option Addr) (rn rc bn bc on oc gc hc : Nat) (m : Mkt) : Prop where
  row : VRow w Bk 112 (bookV ra ba oa ga ha rn rc bn bc on oc gc hc)
  mkt : MktAt w ra ba oa rn rc bn bc on oc m
  gains : Rows w ga bn gc (gainsM m)
  has : Ints w ha bn hc (hasM m)
theorem Rows.step {w w' : World} {a : Option Addr} {n c : Nat} {xss : List (List Int)} (h : Rows w a n c xss) (hb : Below w.heap.size w w') : Rows w' a n c xss := h.below hb (Nat.le_refl _)
theorem BookAt.step {w w' : World} {Bk : Nat} {ra ba oa ga ha : Option Addr} {rn rc bn bc on oc gc hc : Nat} {m : Mkt} (h : BookAt w Bk ra ba oa ga ha rn rc bn bc on oc gc hc m) (hb : Below w.heap.size w w') : BookAt w' Bk ra ba oa ga ha rn rc bn bc on oc gc hc m :=
  ⟨h.row.step hb, h.mkt.below hb (Nat.le_refl _), h.gains.step hb, h.has.step hb⟩

set_option maxRecDepth 100000 in
set_option maxHeartbeats 2000000 in
theorem newBook_any (ra ba oa : Option Addr) (rn rc bn bc on oc : Nat) (m : Mkt) (w : World) (hm : MktAt w ra ba oa rn rc bn bc on oc m) (hc : mcheck m = true) :
    Calls Try.prog 60 #[.agg #[.slice ra rn rc, .slice ba bn bc, .slice oa on oc]] w fun e w' => ∃ Bk ga ha hc, e = .returned (.pointer (some ⟨Bk, 0, none⟩)) ∧ BookAt w' Bk ra ba oa ga ha rn rc bn bc on oc bn hc m ∧ Below w.heap.size w w' := by
  have hok := mcheck_ok hc
  have hrl := hm.res.len
  have HOK := Lib.hid hok; clear hok
  have HRL := Lib.hid hrl; clear hrl
  have hb0 : Below w.heap.size w ((w.alloc (.cells #[.slice ra rn rc, .slice ba bn bc, .slice oa on oc] 25)).alloc (.cells #[.slice ra rn rc, .slice ba bn bc, .slice oa on oc, .slice none 0 0, .slice none 0 0] 112)) := ((Below.refl _ w).alloc (Nat.le_refl _) _).alloc (by simp) _
  have HM := Lib.hid hm; clear hm
  have HG := Lib.hid (Gains_made ra ba oa rn rc bn bc on oc m _ (HM.out.below hb0 (Nat.le_refl _)) hc)
  have HB0 := Lib.hid hb0; clear hb0
  go_enter Try.func60, Try.ntmps60
  go_wp2_with fail
  refine HG.out.mono ?_
  rintro e w1 ⟨gb, vals, rfl, hg1, hb1⟩
  have hV1 : VRow w1 (w.heap.size + 1) 112 [.slice ra rn rc, .slice ba bn bc, .slice oa on oc, .slice none 0 0, .slice none 0 0] := by
    have h := VRow.new (w.alloc (.cells #[.slice ra rn rc, .slice ba bn bc, .slice oa on oc] 25)) 112 [.slice ra rn rc, .slice ba bn bc, .slice oa on oc, .slice none 0 0, .slice none 0 0]
    rw [show (w.alloc (.cells #[.slice ra rn rc, .slice ba bn bc, .slice oa on oc] 25)).heap.size = w.heap.size + 1 by simp] at h
    exact VRow.step h hb1
  have hM1 : VRow w1 w.heap.size 25 [.slice ra rn rc, .slice ba bn bc, .slice oa on oc] := VRow.step ((VRow.new w _ _).alloc _) hb1
  have HBW1 := Lib.hid (HB0.out.trans (hb1.mono (by simp; omega)))
  have hz1 := hV1.lt
  have c3 := hV1.cell (k := 3) rfl
  have f3 := hV1.frozen 3
  have m0 := hM1.cell (k := 0) rfl
  have m2 := hM1.cell (k := 2) rfl
  have hV2 := hV1.set 3 (.slice (some ⟨gb, 0, none⟩) bn bn)
  have hM2 := hM1
  have hne : w.heap.size ≠ w.heap.size + 1 := by omega
  have m0' : (w1.setCell ⟨w.heap.size + 1, 3, none⟩ (.slice (some ⟨gb, 0, none⟩) bn bn)).cell? ⟨w.heap.size, 0, none⟩ = some (.slice ra rn rc) := by rw [World.cell?_setCell_far _ _ _ _ (by simp)]; exact m0
  have m2' : (w1.setCell ⟨w.heap.size + 1, 3, none⟩ (.slice (some ⟨gb, 0, none⟩) bn bn)).cell? ⟨w.heap.size, 2, none⟩ = some (.slice oa on oc) := by rw [World.cell?_setCell_far _ _ _ _ (by simp)]; exact m2
  have c3' := hV2.cell (k := 3) rfl
  have hs3 : ∀ v, v ∈ [Value.slice ra rn rc, .slice ba bn bc, .slice oa on oc, .slice none 0 0, .slice none 0 0] → ∃ a n c, v = .slice a n c := fun v hv => by
    simp at hv
    rcases hv with rfl | rfl | rfl | rfl <;> exact ⟨_, _, _, rfl⟩
  have HV2 := Lib.hid hV2; clear hV2
  have HG1 := Lib.hid hg1; clear hg1
  have HHV := Lib.hid hV1; clear hV1
  have HHM := Lib.hid hM1; clear hM1 hM2 hb1 HG
  have hbl := HM.out.bids.len
  have HBL := Lib.hid hbl; clear hbl
  have hbig := HM.out.bids.big
  go_upto_region 3 with fail
  obtain ⟨w2, hw2⟩ : ∃ w2, w2 = w1.setCell ⟨w.heap.size + 1, 3, none⟩ (.slice (some ⟨gb, 0, none⟩) bn bn) := ⟨_, rfl⟩
  rw [← hw2] at m0' m2' c3' HV2 ⊢
  have hg2 := HG1.out.under (p := ⟨w.heap.size + 1, 3, none⟩) (by simp) (.slice (some ⟨gb, 0, none⟩) bn bn)
  rw [← hw2] at hg2
  have hb2 := HBW1.out.setCell (p := ⟨w.heap.size + 1, 3, none⟩) (by simp) (.slice (some ⟨gb, 0, none⟩) bn bn)
  rw [← hw2] at hb2
  have hsz2 : w2.heap.size = w1.heap.size := by rw [hw2]; simp
  have hr2 := hg2.rows (by rw [gainsM_length]; exact HBL.out) hbig
  have hfirst := fun W (hW : Below w2.heap.size w2 W) => FirstM HOK.out (some ⟨gb, 0, none⟩) oa bn bn on oc W (hr2.step hW) (HM.out.ord.below (hb2.trans (hW.mono hb2.size)) (Nat.le_refl _))
  rw [HRL.out] at hfirst
  have f4 := HV2.out.frozen 4
  have c4 := HV2.out.cell (k := 4) rfl
  have HG2 := Lib.hid hg2; clear hg2
  have HB2 := Lib.hid hb2; clear hb2
  have HF := Lib.hid hfirst; clear hfirst
  have HSZ := Lib.hid hsz2; clear hsz2
  clear hw2 m0 m2 c3 f3 hr2
  go_region_held3 (fun w' => w'.cell? ⟨w.heap.size, 0, none⟩ = some (.slice ra rn rc) ∧ w'.cell? ⟨w.heap.size, 2, none⟩ = some (.slice oa on oc) ∧ w'.cell? ⟨w.heap.size + 1, 3, none⟩ = some (.slice (some ⟨gb, 0, none⟩) bn bn))
    (first | (go_split_ands; refine ⟨?_, ?_, ?_⟩ <;> first | assumption | go_keep) | go_keep)
    ((go_at_call 23; refine (HF.out _ (Below.refl _ _).drew).mono ?_; rintro e w3 ⟨a3, n3, cap3, rfl, hi3, hb3⟩; have q0 := cell_step (v := .slice ra rn rc) (b := w.heap.size) (o := 0) hb3 m0'; have q1 := cell_step (v := .slice oa on oc) (b := w.heap.size) (o := 2) hb3 m2'; have q2 := cell_step (v := .slice (some ⟨gb, 0, none⟩) bn bn) (b := w.heap.size + 1) (o := 3) hb3 c3'; have q3 := cell_step (v := .slice none 0 0) (b := w.heap.size + 1) (o := 4) hb3 c4; have q4 : w3.frozen? ⟨w.heap.size + 1, 4, none⟩ = false := (hb3.frozen (p := ⟨w.heap.size + 1, 4, none⟩) (by simp; exact block_lt_of_cell c4)).trans f4; have q5 := ((HV2.out.step ((Below.refl w2.heap.size w2).drew.trans hb3)).set 4 (.slice a3 n3 cap3)).cell (k := 3) rfl))
  go_wp2_with fail
  go_ret
  have hn3 : n3 = bn := by rw [← hi3.len, hasM_length]; exact HBL.out
  subst hn3
  have hB3 : Below w.heap.size w w3 := HB2.out.trans ((Below.refl w2.heap.size w2).drew.trans hb3 |>.mono HB2.out.size)
  have hst : Below w2.heap.size w2 w3 := (Below.refl w2.heap.size w2).drew.trans hb3
  have hV3 := (HV2.out.step hst).set 4 (.slice a3 n3 cap3)
  have hG3 := ((HG2.out.below hst (by rw [HSZ.out]; exact Nat.le_refl _)).under (p := ⟨w.heap.size + 1, 4, none⟩) (by simp) (.slice a3 n3 cap3)).rows (by rw [gainsM_length]; exact HBL.out) hbig
  have hap := hi3.apartV (HV2.out.step hst) (fun v hv => by
    simp at hv
    rcases hv with rfl | rfl | rfl | rfl | rfl <;> exact ⟨_, _, _, rfl⟩)
  refine ⟨w.heap.size + 1, _, a3, cap3, rfl, ⟨hV3, ?_, hG3, hi3.far hap _⟩, hB3.setCell (by simp) _⟩
  exact HM.out.below (hB3.setCell (by simp) _) (Nat.le_refl _)
end Go.Proofs.Ytbnjeegicbffeaa
