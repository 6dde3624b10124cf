/- Walks: the book's lists lie apart: Apart tells so. -/
import Derived.Test.YtkddkkcfpnndlaaGreatDoorOq40
import Derived.Test.YtkddkkcfpnndlaaGreatDoorOq42
namespace Go.Proofs.YtkddkkcfpnndlaaGreatDoor
open Go.RowKit

theorem Raw.low {T HT : TypeId} {w w' : World} {lo B : Nat} {v : Value} {l : List Held} (h : Raw T HT w lo B v l) (hf : Fs (Blk l) w w') (hlo : lo ≤ w.heap.size) : Below lo w w' :=
 hf.to_below hlo fun _ hb => h.lots.under hb
theorem Raw.low2 {T HT : TypeId} {w w' : World} {lo B c : Nat} {v : Value} {a : Option Addr} {l : List Held} (h : Raw T HT w lo B v l) (ev : v = .slice a l.length c) (hf : Fs (fun b => Blk l b ∨ ∃ o, a = some ⟨b, o, none⟩) w w') (hlo : lo ≤ B) (hB : B < w.heap.size) : Below lo w w' := by
 refine hf.to_below (by omega) fun b hb hS => ?_
 rcases hS with hS | ⟨o, e⟩
 · exact h.lots.under hb hS
 · obtain ⟨_, h2⟩ := h.held
   rcases h2 with ⟨e2, _⟩ | ⟨g, cap, cur, e2, hg, hh, _⟩
   · rw [ev] at e2; injection e2 with e3; rw [e3] at e; cases e
   · rw [ev] at e2; injection e2 with e3; rw [e3] at e; cases e; omega
theorem Raw.writ2 {T HT : TypeId} {w : World} {lo B c : Nat} {v : Value} {a : Option Addr} {l : List Held} (h : Raw T HT w lo B v l) (ev : v = .slice a l.length c) : Writ T HT w B (fun b => Blk l b ∨ ∃ o, a = some ⟨b, o, none⟩) := by
 subst ev; exact Writ.grow h
theorem Long.step {P : World → Nat → Value → Prop} {T HT : TypeId} {w w' : World} {base B N : Nat} {v : Value} {l : List Held} (M : MkP B T P) (h : Long P T HT w base B v N l) (hb : Below w.heap.size w w') : Long P T HT w' base B v N l :=
 h.off M (S := fun _ => False) (Fs.below hb) (fun _ _ _ h => h) (fun _ _ _ h => h) (fun _ _ _ _ h => h)
theorem BookRow.step {w w' : World} {B n : Nat} {vB vI vL : Value} (h : BookRow w B n vB vI vL) (hb : Below w.heap.size w w') : BookRow w' B n vB vI vL := h.fr (S := fun _ => False) (Fr.below hb) (fun h => h)
theorem Seg.raw {T HT : TypeId} {w : World} {lo B : Nat} {v : Value} {l : List Held} (hs : Seg T w lo B (l.map slc)) (hh : Helds HT w (B + 1) v l) : Raw T HT w lo B v l := by
 refine ⟨hh, ⟨fun i x hx => hs.lot (slc x) (List.mem_map.2 ⟨x, List.mem_of_getElem? hx, rfl⟩), fun b ⟨x, hx, hc, o, e⟩ => hs.lt (slc x) (List.mem_map.2 ⟨x, hx, rfl⟩) b o e hc, ?_⟩⟩
 have key : ∀ (i j : Nat) (x y : Held), i < j → l[i]? = some x → l[j]? = some y → ∀ b o o', 0 < x.c → 0 < y.c → x.a = some ⟨b, o, none⟩ → y.a ≠ some ⟨b, o', none⟩ := by
   intro i j x y hij hx hy
   have hp := List.pairwise_iff_getElem.1 hs.apart i j (by have := (List.getElem?_eq_some_iff.1 hx).1; simpa using this) (by have := (List.getElem?_eq_some_iff.1 hy).1; simpa using this) hij
   obtain ⟨h1, h2⟩ := List.getElem?_eq_some_iff.1 hx
   obtain ⟨h3, h4⟩ := List.getElem?_eq_some_iff.1 hy
   simp only [List.getElem_map, h2, h4] at hp
   exact hp
 intro i j x y hne hx hy b o o' hcx hcy ex ey
 rcases Nat.lt_or_gt_of_ne hne with h | h
 · exact key i j x y h hx hy b o o' hcx hcy ex ey
 · exact key j i y x h hy hx b o' o hcy hcx ey ex

set_option maxHeartbeats 4000000 in
theorem apart_any (B n lo : Nat) (sB sI sL : List Slc) (w : World) (h : BookHas w B n sB sI sL) (hn : n ≤ 900000) (hlo : lo ≤ B) (h1 : Seg 5 w lo B sB) (h2 : Seg 3 w lo B sI) (h3 : Seg 25 w lo B sL)
   (hx : ∀ x, x ∈ sB ∨ x ∈ sI ∨ x ∈ sL → x.n ≤ 900000) : Calls Tryz.prog 18 #[.pointer (some ⟨B, 0, none⟩)] w (fun e w' => e = .returned (.bool true) ∧ Below lo w w') := by
 have hBw := h.lt
 obtain ⟨lB, lI, lL, ⟨vB, vI, vL, hbk⟩, rfl, rfl, rfl, hlen, hno⟩ := h
 have HNB := Lib.hid (show ∀ x, x ∈ lB → x.no ≤ 1000000 ∧ x.n ≤ 900000 from fun x hm => ⟨by have := hno x (.inl hm); omega, hx (slc x) (.inl (List.mem_map.2 ⟨x, hm, rfl⟩))⟩)
 have HNI := Lib.hid (show ∀ x, x ∈ lI → x.no ≤ 1000000 ∧ x.n ≤ 900000 from fun x hm => ⟨by have := hno x (.inr (.inl hm)); omega, hx (slc x) (.inr (.inl (List.mem_map.2 ⟨x, hm, rfl⟩)))⟩)
 have HNL := Lib.hid (show ∀ x, x ∈ lL → x.no ≤ 1000000 ∧ x.n ≤ 900000 from fun x hm => ⟨by have := hno x (.inr (.inr hm)); omega, hx (slc x) (.inr (.inr (List.mem_map.2 ⟨x, hm, rfl⟩)))⟩)
 have HB := Lib.hid (h1.raw hbk.bs)
 have HI := Lib.hid (h2.raw hbk.is)
 have HL := Lib.hid (h3.raw hbk.ls)
 have HROW := Lib.hid hbk.row
 have HLO := Lib.hid hlo
 have HBW := Lib.hid hBw
 have HBE := Lib.hid (Below.refl lo w)
 clear h1 h2 h3 hbk hlo hBw hx hno hlen hn
 go_enter Tryz.func18, Tryz.ntmps18
 go_wp2_with fail
 refine (fillByte_any B n lo vB vI vL lB w HROW.out HB.out HNB.out).mono ?_
 rintro e w1 ⟨⟨v, rfl⟩, hf, hnew⟩
 have hW := Writ.blk (HT := 153) HB.out.lots
 have hbe := HB.out.low hf (Nat.le_trans HLO.out (Nat.le_of_lt HBW.out))
 have HROW' := Lib.hid (HROW.out.fr hf.fr (fun hb => Nat.lt_irrefl _ (HB.out.lots.lt B hb)))
 have HI' := Lib.hid (HI.out.off hf (hW.off (by decide) (by decide)))
 have HL' := Lib.hid (HL.out.off hf (hW.off (by decide) (by decide)))
 have HB' := Lib.hid hnew
 have HBE' := Lib.hid (HBE.out.trans hbe)
 have HBW' := Lib.hid (Nat.lt_of_lt_of_le HBW.out hf.fr.1)
 clear hf hnew hW hbe HROW HBE HBW HB HI HL
 have HROW := HROW'; clear HROW'
 have HBE := HBE'; clear HBE'
 have HBW := HBW'; clear HBW'
 have HB := HB'; clear HB'
 have HI := HI'; clear HI'
 have HL := HL'; clear HL'
 go_wp2_with fail
 refine (fillInt_any B n lo vB vI vL lI w1 HROW.out HI.out HNI.out).mono ?_
 rintro e w2 ⟨⟨v, rfl⟩, hf, hnew⟩
 have hW := Writ.blk (HT := 151) HI.out.lots
 have hbe := HI.out.low hf (Nat.le_trans HLO.out (Nat.le_of_lt HBW.out))
 have HROW' := Lib.hid (HROW.out.fr hf.fr (fun hb => Nat.lt_irrefl _ (HI.out.lots.lt B hb)))
 have HB' := Lib.hid (HB.out.off (markPB B) hf (hW.off (by decide) (by decide)) (hW.off (by decide) (by decide)) (hW.offB (by decide)))
 have HL' := Lib.hid (HL.out.off hf (hW.off (by decide) (by decide)))
 have HI' := Lib.hid hnew
 have HBE' := Lib.hid (HBE.out.trans hbe)
 have HBW' := Lib.hid (Nat.lt_of_lt_of_le HBW.out hf.fr.1)
 clear hf hnew hW hbe HROW HBE HBW HB HI HL
 have HROW := HROW'; clear HROW'
 have HBE := HBE'; clear HBE'
 have HBW := HBW'; clear HBW'
 have HB := HB'; clear HB'
 have HI := HI'; clear HI'
 have HL := HL'; clear HL'
 go_wp2_with fail
 refine (fillText_none B n vB vI vL w2 HROW.out).mono ?_
 rintro e w' ⟨⟨v, rfl⟩, hw⟩
 replace hw := hw.symm
 subst hw
 go_wp2_with fail
 refine (fillIntList_any B n lo vB vI vL lL w2 HROW.out HL.out HNL.out).mono ?_
 rintro e w3 ⟨⟨v, rfl⟩, hf, hnew⟩
 have hW := Writ.blk (HT := 149) HL.out.lots
 have hbe := HL.out.low hf (Nat.le_trans HLO.out (Nat.le_of_lt HBW.out))
 have HROW' := Lib.hid (HROW.out.fr hf.fr (fun hb => Nat.lt_irrefl _ (HL.out.lots.lt B hb)))
 have HB' := Lib.hid (HB.out.off (markPB B) hf (hW.off (by decide) (by decide)) (hW.off (by decide) (by decide)) (hW.offB (by decide)))
 have HI' := Lib.hid (HI.out.off (markPI B) hf (hW.off (by decide) (by decide)) (hW.off (by decide) (by decide)) (hW.offB (by decide)))
 have HL' := Lib.hid hnew
 have HBE' := Lib.hid (HBE.out.trans hbe)
 have HBW' := Lib.hid (Nat.lt_of_lt_of_le HBW.out hf.fr.1)
 clear hf hnew hW hbe HROW HBE HBW HB HI HL
 have HROW := HROW'; clear HROW'
 have HBE := HBE'; clear HBE'
 have HBW := HBW'; clear HBW'
 have HB := HB'; clear HB'
 have HI := HI'; clear HI'
 have HL := HL'; clear HL'
 go_wp2_with fail
 refine (fillByteList_none B n vB vI vL w3 HROW.out).mono ?_
 rintro e w' ⟨⟨v, rfl⟩, hw⟩
 replace hw := hw.symm
 subst hw
 go_wp2_with fail
 refine (fillWhy_none B n vB vI vL w3 HROW.out).mono ?_
 rintro e w' ⟨⟨v, rfl⟩, hw⟩
 replace hw := hw.symm
 subst hw
 go_wp2_with fail
 refine (fillFrame_none B n vB vI vL w3 HROW.out).mono ?_
 rintro e w' ⟨⟨v, rfl⟩, hw⟩
 replace hw := hw.symm
 subst hw
 go_wp2_with fail
 refine (fillReply_none B n vB vI vL w3 HROW.out).mono ?_
 rintro e w' ⟨⟨v, rfl⟩, hw⟩
 replace hw := hw.symm
 subst hw
 go_wp2_with fail
 refine (fillRecord_none B n vB vI vL w3 HROW.out).mono ?_
 rintro e w' ⟨⟨v, rfl⟩, hw⟩
 replace hw := hw.symm
 subst hw
 go_wp2_with fail
 refine (growByte_any B n lo vB vI vL lB w3 HROW.out HB.out (Nat.le_trans HLO.out (Nat.le_of_lt HBW.out)) HNB.out).mono ?_
 rintro e w4 ⟨⟨v, rfl⟩, a, c, l', ev, hrow, hf, hnew⟩
 have hW := HB.out.raw.writ2 ev
 have hbe := HB.out.raw.low2 ev hf HLO.out HBW.out
 have HROW' := Lib.hid hrow
 have HI' := Lib.hid (HI.out.off (markPI B) hf (hW.off (by decide) (by decide)) (hW.off (by decide) (by decide)) (hW.offB (by decide)))
 have HL' := Lib.hid (HL.out.off (markPL B) hf (hW.off (by decide) (by decide)) (hW.off (by decide) (by decide)) (hW.offB (by decide)))
 have HB' := Lib.hid hnew
 have HBE' := Lib.hid (HBE.out.trans hbe)
 have HBW' := Lib.hid (Nat.lt_of_lt_of_le HBW.out hf.fr.1)
 clear hf hnew hW hbe HROW HBE HBW HB HI HL ev hrow
 have HROW := HROW'; clear HROW'
 have HBE := HBE'; clear HBE'
 have HBW := HBW'; clear HBW'
 have HB := HB'; clear HB'
 have HI := HI'; clear HI'
 have HL := HL'; clear HL'
 obtain ⟨l4, hl0⟩ : ∃ z, z = l' := ⟨_, rfl⟩
 rw [← hl0] at HB
 clear hl0
 clear a c
 go_wp2_with fail
 refine (growInt_any B n lo vB vI vL lI w4 HROW.out HI.out (Nat.le_trans HLO.out (Nat.le_of_lt HBW.out)) HNI.out).mono ?_
 rintro e w5 ⟨⟨v, rfl⟩, a, c, l', ev, hrow, hf, hnew⟩
 have hW := HI.out.raw.writ2 ev
 have hbe := HI.out.raw.low2 ev hf HLO.out HBW.out
 have HROW' := Lib.hid hrow
 have HB' := Lib.hid (HB.out.off (markPB B) hf (hW.off (by decide) (by decide)) (hW.off (by decide) (by decide)) (hW.offB (by decide)))
 have HL' := Lib.hid (HL.out.off (markPL B) hf (hW.off (by decide) (by decide)) (hW.off (by decide) (by decide)) (hW.offB (by decide)))
 have HI' := Lib.hid hnew
 have HBE' := Lib.hid (HBE.out.trans hbe)
 have HBW' := Lib.hid (Nat.lt_of_lt_of_le HBW.out hf.fr.1)
 clear hf hnew hW hbe HROW HBE HBW HB HI HL ev hrow
 have HROW := HROW'; clear HROW'
 have HBE := HBE'; clear HBE'
 have HBW := HBW'; clear HBW'
 have HB := HB'; clear HB'
 have HI := HI'; clear HI'
 have HL := HL'; clear HL'
 obtain ⟨l5, hl0⟩ : ∃ z, z = l' := ⟨_, rfl⟩
 rw [← hl0] at HI
 clear hl0
 clear a c
 go_wp2_with fail
 refine (growText_none B n vB vI vL w5 HROW.out).mono ?_
 rintro e w' ⟨⟨v, rfl⟩, hw⟩
 replace hw := hw.symm
 subst hw
 go_wp2_with fail
 refine (growIntList_any B n lo vB vI vL lL w5 HROW.out HL.out (Nat.le_trans HLO.out (Nat.le_of_lt HBW.out)) HNL.out).mono ?_
 rintro e w6 ⟨⟨v, rfl⟩, a, c, l', ev, hrow, hf, hnew⟩
 have hW := HL.out.raw.writ2 ev
 have hbe := HL.out.raw.low2 ev hf HLO.out HBW.out
 have HROW' := Lib.hid hrow
 have HB' := Lib.hid (HB.out.off (markPB B) hf (hW.off (by decide) (by decide)) (hW.off (by decide) (by decide)) (hW.offB (by decide)))
 have HI' := Lib.hid (HI.out.off (markPI B) hf (hW.off (by decide) (by decide)) (hW.off (by decide) (by decide)) (hW.offB (by decide)))
 have HL' := Lib.hid hnew
 have HBE' := Lib.hid (HBE.out.trans hbe)
 have HBW' := Lib.hid (Nat.lt_of_lt_of_le HBW.out hf.fr.1)
 clear hf hnew hW hbe HROW HBE HBW HB HI HL ev hrow
 have HROW := HROW'; clear HROW'
 have HBE := HBE'; clear HBE'
 have HBW := HBW'; clear HBW'
 have HB := HB'; clear HB'
 have HI := HI'; clear HI'
 have HL := HL'; clear HL'
 obtain ⟨l6, hl0⟩ : ∃ z, z = l' := ⟨_, rfl⟩
 rw [← hl0] at HL
 clear hl0
 clear a c
 go_wp2_with fail
 refine (growByteList_none B n vB vI vL w6 HROW.out).mono ?_
 rintro e w' ⟨⟨v, rfl⟩, hw⟩
 replace hw := hw.symm
 subst hw
 go_wp2_with fail
 refine (growWhy_none B n vB vI vL w6 HROW.out).mono ?_
 rintro e w' ⟨⟨v, rfl⟩, hw⟩
 replace hw := hw.symm
 subst hw
 go_wp2_with fail
 refine (growFrame_none B n vB vI vL w6 HROW.out).mono ?_
 rintro e w' ⟨⟨v, rfl⟩, hw⟩
 replace hw := hw.symm
 subst hw
 go_wp2_with fail
 refine (growReply_none B n vB vI vL w6 HROW.out).mono ?_
 rintro e w' ⟨⟨v, rfl⟩, hw⟩
 replace hw := hw.symm
 subst hw
 go_wp2_with fail
 refine (growRecord_none B n vB vI vL w6 HROW.out).mono ?_
 rintro e w' ⟨⟨v, rfl⟩, hw⟩
 replace hw := hw.symm
 subst hw
 go_wp2_with fail
 refine (lookByte_any B n lo _ vB vI vL l4 w6 HROW.out HB.out).mono ?_
 rintro e w7 ⟨rfl, hb⟩
 replace HB := Lib.hid (HB.out.step (markPB B) hb)
 replace HI := Lib.hid (HI.out.step (markPI B) hb)
 replace HL := Lib.hid (HL.out.step (markPL B) hb)
 replace HROW := Lib.hid (HROW.out.step hb)
 replace HBE := Lib.hid (HBE.out.trans (hb.mono (Nat.le_trans HLO.out (Nat.le_of_lt HBW.out))))
 replace HBW := Lib.hid (Nat.lt_of_lt_of_le HBW.out hb.size)
 clear hb
 go_wp2_with fail
 refine (lookInt_any B n lo _ vB vI vL l5 w7 HROW.out HI.out).mono ?_
 rintro e w8 ⟨rfl, hb⟩
 replace HB := Lib.hid (HB.out.step (markPB B) hb)
 replace HI := Lib.hid (HI.out.step (markPI B) hb)
 replace HL := Lib.hid (HL.out.step (markPL B) hb)
 replace HROW := Lib.hid (HROW.out.step hb)
 replace HBE := Lib.hid (HBE.out.trans (hb.mono (Nat.le_trans HLO.out (Nat.le_of_lt HBW.out))))
 replace HBW := Lib.hid (Nat.lt_of_lt_of_le HBW.out hb.size)
 clear hb
 go_wp2_with fail
 refine (lookText_none B n vB vI vL w8 HROW.out).mono ?_
 rintro e w' ⟨rfl, hw⟩
 replace hw := hw.symm
 subst hw
 go_wp2_with fail
 refine (lookIntList_any B n lo _ vB vI vL l6 w8 HROW.out HL.out).mono ?_
 rintro e w9 ⟨rfl, hb⟩
 replace HB := Lib.hid (HB.out.step (markPB B) hb)
 replace HI := Lib.hid (HI.out.step (markPI B) hb)
 replace HL := Lib.hid (HL.out.step (markPL B) hb)
 replace HROW := Lib.hid (HROW.out.step hb)
 replace HBE := Lib.hid (HBE.out.trans (hb.mono (Nat.le_trans HLO.out (Nat.le_of_lt HBW.out))))
 replace HBW := Lib.hid (Nat.lt_of_lt_of_le HBW.out hb.size)
 clear hb
 go_wp2_with fail
 refine (lookByteList_none B n vB vI vL w9 HROW.out).mono ?_
 rintro e w' ⟨rfl, hw⟩
 replace hw := hw.symm
 subst hw
 go_wp2_with fail
 refine (lookWhy_none B n vB vI vL w9 HROW.out).mono ?_
 rintro e w' ⟨rfl, hw⟩
 replace hw := hw.symm
 subst hw
 go_wp2_with fail
 refine (lookFrame_none B n vB vI vL w9 HROW.out).mono ?_
 rintro e w' ⟨rfl, hw⟩
 replace hw := hw.symm
 subst hw
 go_wp2_with fail
 refine (lookReply_none B n vB vI vL w9 HROW.out).mono ?_
 rintro e w' ⟨rfl, hw⟩
 replace hw := hw.symm
 subst hw
 go_wp2_with fail
 refine (lookRecord_none B n vB vI vL w9 HROW.out).mono ?_
 rintro e w' ⟨rfl, hw⟩
 replace hw := hw.symm
 subst hw
 go_wp2_with fail
 go_ret
 exact ⟨rfl, HBE.out⟩
end Go.Proofs.YtkddkkcfpnndlaaGreatDoor
