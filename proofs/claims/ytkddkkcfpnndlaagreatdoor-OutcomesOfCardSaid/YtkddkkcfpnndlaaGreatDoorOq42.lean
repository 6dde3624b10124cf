/- Walks: the book's lists of the kind Int: marks are written into all, more is put behind each, all are looked at. Walks: the book's lists of the kind Byte: marks are written into all, more is put behind each, all are looked at. Walks: the book's lists of the kind IntList: marks are written into all, more is put behind each, all are looked at. -/
import Derived.Test.YtkddkkcfpnndlaaGreatDoorOq40
import Derived.Test.YtkddkkcfpnndlaaGreatDoorOq11
import Derived.RegionCalls
import Derived.Deep.RegionWith
import Derived.Deep.RegionHeld3
import Derived.Maps.AppendAt
import Derived.BigQuiet
import Derived.Deep.QuietTactic
namespace Go.Proofs.YtkddkkcfpnndlaaGreatDoor
open Go.RowKit

def PI (_ : World) (no : Nat) (v : Value) : Prop := v = .int .i64 (-(no : Int))
theorem markPI (kb : Nat) : MkP kb 3 PI :=
 ⟨fun _ _ v h => by rw [show v = _ from h]; rfl, fun _ _ _ _ _ h _ _ => h, fun _ _ _ _ _ _ _ _ h => h⟩
theorem mark_any (n : Nat) (hn : n ≤ 1000000) (w : World) : Calls Tryz.prog 129 #[.int .i64 (n : Int)] w (fun e w' => e = .returned (.int .i64 (-(n : Int))) ∧ w' = w) := by
 go_enter Tryz.func129, Tryz.ntmps129
 go_wp2_with fail
 go_ret
 exact ⟨by first | rfl | (congr 1; congr 1; go_num), rfl⟩
theorem isI_any (v : Value) (n : Nat) (hn : n ≤ 1000000) (w : World) (hv : PI w n v) : Calls Tryz.prog 138 #[v, .int .i64 (n : Int)] w (fun e w' => e = .returned (.bool true) ∧ w' = w) := by
 obtain rfl : v = .int .i64 (-(n : Int)) := hv
 go_enter Tryz.func138, Tryz.ntmps138
 go_wp2_with fail
 go_ret
 exact ⟨by simp, rfl⟩

set_option maxHeartbeats 1000000 in
theorem fillInt_any (B n base : Nat) (vB vI vL : Value) (l : List Held) (w : World) (h : BookRow w B n vB vI vL) (hR : Raw 3 151 w base B vI l) (hno : ∀ x, x ∈ l → x.no ≤ 1000000 ∧ x.n ≤ 900000) :
   Calls Tryz.prog 67 #[.pointer (some ⟨B, 0, none⟩)] w (fun e w' => (∃ v, e = .returned v) ∧ Fs (Blk l) w w' ∧ Full PI 3 151 w' base B vI l) := by
 obtain ⟨hI, hL⟩ := hR
 obtain ⟨a, c, rfl, hlc, hcm, hpos⟩ := hI.form
 have HH := Lib.hid (And.intro h hI); clear h hI
 have HP := Lib.hid hpos; clear hpos
 have HL := Lib.hid hL; clear hL
 have HN := Lib.hid hno; clear hno
 have HC := Lib.hid hlc; clear hlc
 have HM := Lib.hid hcm; clear hcm
 go_enter Tryz.func67, Tryz.ntmps67
 go_wp2_with fail
 go_loopg [2, 3, 4] l.length (fun g' s2 s3 s4 wr => ∃ i : Nat, i + g' = l.length ∧ s2 = .int .i64 i ∧ Fs (Blk l) w wr ∧ ∀ (j : Nat) (x : Held), j < i → l[j]? = some x → MF PI 3 wr base x.a x.n x.c x.no)
 case atStart => exact ⟨0, by omega, rfl, Fs.refl _ _, fun j x hj => by omega⟩
 case round =>
   obtain ⟨i, hk, rfl, hF, hD⟩ := hrel
   obtain ⟨w1, rfl⟩ : ∃ w1, w1 = wr := ⟨_, rfl⟩
   have HK := Lib.hid hk; clear hk
   have HF := Lib.hid hF; clear hF
   have HD := Lib.hid hD; clear hD
   have hbs := HF.out.fr.1
   have hBn : ¬ Blk l B := fun hb => Nat.lt_irrefl _ (HL.out.lt B hb)
   have hrow := HH.out.1.fr HF.out.fr hBn
   have hhel := HH.out.2.fr HF.out.fr (fun b hb _ hS => by have := HL.out.lt b hS; omega)
   have c2 := hrow.cells.2.2.1
   have HR := Lib.hid hrow; clear hrow
   have HE := Lib.hid hhel; clear hhel
   clear hBn
   by_cases hlt : i < l.length
   · obtain ⟨x, hx⟩ : ∃ x, l[i]? = some x := ⟨l[i], by simp [hlt]⟩
     obtain ⟨g, cur, rfl, _⟩ := HP.out (by omega)
     obtain ⟨d0, d1, d2, _⟩ := HE.out.cell hx
     have HX := Lib.hid hx; clear hx
     have hlen2 := HC.out
     have hcm2 := HM.out
     unfold maxLen at hcm2
     have hxm : x ∈ l := List.mem_of_getElem? HX.out
     obtain ⟨hn1, hn2⟩ := HN.out x hxm
     have HXM := Lib.hid hxm; clear hxm
     have HMK := Lib.hid (fun W => mark_any x.no hn1 W)
     have hgB : B < w1.heap.size := by
       have := Array.getElem?_eq_some_iff.1 (show w1.heap[B]? = some _ from HR.out)
       exact this.1
     obtain ⟨wo, hwo⟩ : ∃ wo, wo = w1.alloc (.cells #[Value.slice x.a x.n x.c, Value.slice x.la x.ln x.lc, Value.int IntKind.i64 ↑x.no] 151) := ⟨_, rfl⟩
     have hvr : VRow wo w1.heap.size 151 x.cells := by rw [hwo]; exact heap_alloc_new w1 _
     have hfo : Fs (Blk l) w1 wo := by rw [hwo]; exact Fs.below ((Below.refl _ _).alloc (Nat.le_refl _) _)
     have hbo : Below w1.heap.size w1 wo := by rw [hwo]; exact (Below.refl _ _).alloc (Nat.le_refl _) _
     have HBO := Lib.hid hbo; clear hbo
     have hxlt : ∀ b o, x.a = some ⟨b, o, none⟩ → 0 < x.c → b < w1.heap.size := fun b o e hc => by have := HL.out.lt b ⟨x, HXM.out, hc, o, e⟩; omega
     have HFO := Lib.hid hfo; clear hfo
     have HXLT := Lib.hid hxlt; clear hxlt
     go_wp2_with fail
     rw [← hwo]
     have HVR := Lib.hid hvr; clear hvr
     obtain ⟨gO, hgO⟩ : ∃ m, m = gk - 1 := ⟨_, rfl⟩
     have HGO := Lib.hid hgO; clear hgO
     have HWO := Lib.hid hwo; clear hwo
     go_loopg [4] x.n (fun g' s4 wr => ∃ k : Nat, k + g' = x.n ∧ s4 = .int .i64 k ∧ Fs (fun b => 0 < x.c ∧ ∃ o, x.a = some ⟨b, o, none⟩) wo wr ∧ ∀ b o, x.a = some ⟨b, o, none⟩ → ∀ k', k' < k → ∃ v, wr.cell? ⟨b, o + k', none⟩ = some v ∧ PI wr x.no v)
     case atStart => exact ⟨0, by omega, rfl, Fs.refl _ _, fun _ _ _ k' hk' => by omega⟩
     case round =>
       obtain ⟨k, hk2, rfl, hF2, hD2⟩ := hrel
       have HK2 := Lib.hid hk2; clear hk2
       have HF2 := Lib.hid hF2; clear hF2
       have HD2 := Lib.hid hD2; clear hD2
       have hv2 : VRow wr w1.heap.size 151 x.cells := by
         unfold VRow
         rw [HF2.out.fr.2 w1.heap.size (Array.getElem?_eq_some_iff.1 (show wo.heap[w1.heap.size]? = some _ from HVR.out)).1 (fun ⟨hc, o, e⟩ => by have := HXLT.out _ o e hc; omega)]
         exact HVR.out
       have e0 : wr.cell? ⟨w1.heap.size, 0, none⟩ = some (.slice x.a x.n x.c) := VRow.cell hv2 rfl
       have e2 : wr.cell? ⟨w1.heap.size, 2, none⟩ = some (.int .i64 (x.no : Int)) := VRow.cell hv2 rfl
       have hv2l := hv2.lt
       clear hv2
       by_cases hlt2 : k < x.n
       · obtain ⟨b, o, hxa⟩ : ∃ b o, x.a = some ⟨b, o, none⟩ := by
           rcases HL.out.lot i x HX.out with ⟨h0, _⟩ | ⟨b, o, cur, e, _⟩
           · omega
           · exact ⟨b, o, e⟩
         have hlot := ((HL.out.lot i x HX.out).fs ((HF.out.trans HFO.out).mono (fun _ _ h => h))).fs HF2.out
         obtain ⟨curx, hcurx, hx0, hfz, hcc⟩ : ∃ curx, wr.heap[b]? = some (.cells curx 3 (0, 0)) ∧ (∃ z, wr.cell? ⟨b, o + k, none⟩ = some z) ∧ wr.frozen? ⟨b, o + k, none⟩ = false ∧ 0 < x.c := by
           rcases hlot with ⟨h0, _⟩ | ⟨b', o', cur, e, _, hh, hsz, hnc⟩
           · omega
           · rw [hxa] at e; cases e
             refine ⟨cur, hh, ⟨cur[o + k]'(by omega), ?_⟩, frozen_of_row wr b _ cur _ hh, by omega⟩
             rw [cell_of_row wr b _ cur _ _ hh]; simp
         obtain ⟨z, hz⟩ := hx0
         have hblt := HXLT.out b o hxa hcc
         rw [hxa] at e0
         have HLOT := Lib.hid hlot; clear hlot
         have HXA := Lib.hid hxa; clear hxa
         have HCC := Lib.hid hcc; clear hcc
         have HCU := Lib.hid hcurx; clear hcurx
         go_wp2_with fail
         go_region_with (go_at_call 129; refine (HMK.out _).mono ?_; rintro e w' ⟨rfl, rfl⟩)
         all_goals
           go_wp2_with fail
           go_roundg (gk - 1)
           case measure => have := HK2.out; omega
           case rel =>
             have hF3 : Fs (fun b => 0 < x.c ∧ ∃ o, x.a = some ⟨b, o, none⟩) wr (wr.setCell ⟨b, o + k, none⟩ (.int .i64 (-(x.no : Int)))) := Fs.set (S := fun b => 0 < x.c ∧ ∃ o, x.a = some ⟨b, o, none⟩) wr ⟨HCC.out, o, HXA.out⟩ _
             have hF4 := (HF2.out.trans hF3).trans (Fs.below ((Below.refl _ _).drew))
             refine ⟨k + 1, by have := HK2.out; omega, by go_num, hF4, ?_⟩
             intro b' o' e k' hk'
             rw [HXA.out] at e
             cases e
             show ∃ v, (wr.setCell ⟨b, o + k, none⟩ (.int .i64 (-(x.no : Int)))).cell? ⟨b, o + k', none⟩ = some v ∧ _
             by_cases ek : k' = k
             · subst ek
               exact ⟨_, World.cell?_setCell_same _ _ _ hz, rfl⟩
             · rw [World.cell?_setCell_other _ _ _ _ (fun e => ek (by injection e; omega))]
               exact HD2.out b o HXA.out k' (by omega)
       · obtain rfl : k = x.n := by have := HK2.out; omega
         go_wp2_with fail
         go_roundg gO
         case measure => have := HK.out; have := HGO.out; omega
         case rel =>
           have hxb : ∀ b', b' < wo.heap.size → (0 < x.c ∧ ∃ o, x.a = some ⟨b', o, none⟩) → Blk l b' := fun b' _ ⟨hc, o, e⟩ => ⟨x, HXM.out, hc, o, e⟩
           have hF4 : Fs (Blk l) w wr := (HF.out.trans HFO.out).trans (HF2.out.mono hxb)
           refine ⟨i + 1, by have := HK.out; have := HGO.out; omega, by go_num, hF4, ?_⟩
           intro j y hj hy
           by_cases ej : j = i
           · subst ej
             have hyx : y = x := by have := HX.out; rw [hy] at this; exact Option.some.inj this
             subst hyx
             exact MF.of_cells ((HL.out.lot j y hy).fs hF4) HD2.out
           · have h1 := (HD.out j y (by omega) hy).step (markPI B) HBO.out
             refine h1.fs (markPI B) HF2.out (fun b o e hc _ ⟨hxc, o2, e2⟩ => HL.out.apart j i y x ej hy HX.out b o o2 hc hxc e e2) ?_
             intro b cur hB _ ⟨hxc, o2, e2⟩
             have := HL.out.lt b ⟨x, HXM.out, hxc, o2, e2⟩
             omega
   · obtain rfl : i = l.length := by have := HK.out; omega
     go_wp2_with fail
     go_end0
     exact ⟨⟨_, rfl⟩, HF.out, ⟨⟨HE.out, HL.out.fs HF.out⟩, fun j x hx => HD.out j x (List.getElem?_eq_some_iff.1 hx).1 hx⟩⟩

theorem appLotI {ops : Array Oper} {rest : List Oper} {o : Oper} {act : Act} {Q : Exit → Act → World → Prop} (w : World) (hgd : o.guard = none) (s x : Operand)
   (ho : o.op = .call { callee := .builtin .append, args := #[s, x], argTypes := #[25, 25] })
   (base : Nat) (a : Option Addr) (n c : Nat) (vals : List Value) (hs : act.eval s = .slice a n c) (hf : FilledBy 3 w base a n c vals) (xb : Nat) (u : Value) (hu : u.oneCell' = true) (hx : act.eval x = .slice (some ⟨xb, 0, none⟩) 1 1)
   (hc : w.cell? ⟨xb, 0, none⟩ = some u) (hlen : n < 1000000) (hbase : base ≤ w.heap.size)
   (h : ∀ a' c' w', FilledBy 3 w' base a' (n + 1) c' (vals ++ [u]) → ((∃ b off, a = some ⟨b, off, none⟩ ∧ a' = a ∧ c' = c ∧ n < c ∧ w' = w.setCell ⟨b, off + n, none⟩ u) ∨ (∃ g, a' = some ⟨g, 0, none⟩ ∧ w.heap.size ≤ g ∧ Below w.heap.size w w')) → wpList Tryz.prog ops Q rest (act.put o.dst (.slice a' (n + 1) c')) w') : wpList Tryz.prog ops Q (o :: rest) act w := by
 obtain ⟨i0, hi, hz0, hz1, hz2⟩ := info_parts infoInt
 exact appLot w hgd s x ho Tryz.underlying25 hi hz0 hz1 hz2 rfl (by decide) base a n c vals hs hf xb u hx hc hu hlen hbase h

set_option maxHeartbeats 1000000 in
theorem growInt_any (B n base : Nat) (vB vI vL : Value) (l : List Held) (w : World) (h : BookRow w B n vB vI vL) (hR : Full PI 3 151 w base B vI l) (hbase : base ≤ w.heap.size) (hno : ∀ x, x ∈ l → x.no ≤ 1000000 ∧ x.n ≤ 900000) :
   Calls Tryz.prog 76 #[.pointer (some ⟨B, 0, none⟩)] w (fun e w' => (∃ v, e = .returned v) ∧ ∃ (a : Option Addr) (c : Nat) (l' : List Held), vI = .slice a l.length c ∧ BookRow w' B n vB vI vL ∧ Fs (fun b => Blk l b ∨ ∃ o, a = some ⟨b, o, none⟩) w w' ∧ Long PI 3 151 w' base B vI l.length l') := by
 obtain ⟨⟨hI, hL⟩, hM⟩ := hR
 obtain ⟨a, c, rfl, hlc, hcm, hpos⟩ := hI.form
 have HP := Lib.hid hpos; clear hpos
 have HL := Lib.hid hL; clear hL
 have HN := Lib.hid hno; clear hno
 have HC := Lib.hid hlc; clear hlc
 have HM := Lib.hid hcm; clear hcm
 have HB0 := Lib.hid hbase; clear hbase
 obtain ⟨w1, hw1⟩ : ∃ w1, w1 = w := ⟨_, rfl⟩
 have HI0 := Lib.hid (And.intro h (And.intro hI hM)); clear h hI hM hw1
 go_enter Tryz.func76, Tryz.ntmps76
 go_wp2_with fail
 go_loopg [2, 3, 4, 5] l.length (fun g' s2 s3 s4 s5 wr => ∃ (i : Nat) (l' : List Held), i + g' = l.length ∧ s2 = .int .i64 i ∧ BookRow wr B n vB (.slice a l.length c) vL ∧ Helds 151 wr (B + 1) (.slice a l.length c) l' ∧ w.heap.size ≤ wr.heap.size ∧ GrewTo PI 3 w wr base B a l l' i)
 case atStart => exact ⟨0, l, by omega, rfl, HI0.out.1, HI0.out.2.1, Nat.le_refl _, ⟨rfl, Fs.refl _ _, HI0.out.2.2, fun j x y hj => by omega, fun j x y _ hx hy => by rw [hx] at hy; exact (Option.some.inj hy).symm⟩⟩
 case round =>
   obtain ⟨i, l', hk, rfl, hR, hE, hsz, hA⟩ := hrel
   have hll := hA.len
   obtain ⟨w1, rfl⟩ : ∃ w1, w1 = wr := ⟨_, rfl⟩
   have HK := Lib.hid hk; clear hk
   have c2 := hR.cells.2.2.1
   have HR := Lib.hid hR; clear hR
   have HA := Lib.hid hA; clear hA
   have HLL := Lib.hid hll; clear hll
   by_cases hlt : i < l.length
   · obtain ⟨x, hx⟩ : ∃ x, l'[i]? = some x := ⟨l'[i]'(by rw [HLL.out]; exact hlt), by simp⟩
     obtain ⟨g, cur, rfl, hgb, hgh, _⟩ := HP.out (by omega)
     have hgl := (Array.getElem?_eq_some_iff.1 hgh).1
     clear hgh
     rw [← HLL.out] at hE
     obtain ⟨d0, d1, d2, _⟩ := hE.cell hx
     rw [HLL.out] at hE
     have HE := Lib.hid hE; clear hE
     have HX := Lib.hid hx; clear hx
     have hlen2 := HC.out
     have hcm2 := HM.out
     unfold maxLen at hcm2
     have hxl : l[i]? = some x := by
       have h1 : l[i]? = some l[i] := by simp
       have := HA.out.yet i _ x (Nat.le_refl _) h1 HX.out
       rw [this]; exact h1
     have hxm : x ∈ l := List.mem_of_getElem? hxl
     obtain ⟨hn1, hn2⟩ := HN.out x hxm
     have hfx := HA.out.old i x hxl
     have HXL := Lib.hid (And.intro hxl hxm); clear hxl hxm
     have hgB : B < w1.heap.size := (Array.getElem?_eq_some_iff.1 (show w1.heap[B]? = some _ from HR.out)).1
     obtain ⟨wo, hwo⟩ : ∃ wo, wo = w1.alloc (.cells #[Value.slice x.a x.n x.c, Value.slice x.la x.ln x.lc, Value.int IntKind.i64 ↑x.no] 151) := ⟨_, rfl⟩
     have hvr : VRow wo w1.heap.size 151 x.cells := by rw [hwo]; exact heap_alloc_new w1 _
     have hbo : Below w1.heap.size w1 wo := by rw [hwo]; exact (Below.refl _ _).alloc (Nat.le_refl _) _
     have hxlt : ∀ b o, x.a = some ⟨b, o, none⟩ → 0 < x.c → b < w1.heap.size := fun b o e hc => by have := HL.out.lt b ⟨x, HXL.out.2, hc, o, e⟩; omega
     have hso : w1.heap.size < wo.heap.size := (Array.getElem?_eq_some_iff.1 (show wo.heap[w1.heap.size]? = some _ from hvr)).1
     have hg0 : Grow PI 3 wo wo base x 0 x.a x.c := Grow.start (hfx.step (markPI B) hbo)
     have HG0 := Lib.hid hg0; clear hg0 hfx
     have HBO := Lib.hid hbo; clear hbo
     have HXLT := Lib.hid hxlt; clear hxlt
     go_wp2_with fail
     rw [← hwo]
     have HVR := Lib.hid hvr; clear hvr
     obtain ⟨gO, hgO⟩ : ∃ m, m = gk - 1 := ⟨_, rfl⟩
     have HGO := Lib.hid hgO; clear hgO
     have HWO := Lib.hid hwo; clear hwo
     go_loopg [4, 5] 40 (fun g' s4 s5 wr => ∃ (k : Nat) (a' : Option Addr) (c' : Nat), k + g' = 40 ∧ s5 = .int .i64 k ∧ s4 = .slice a' (x.n + k) c' ∧ Grow PI 3 wo wr base x k a' c')
     case atStart => exact ⟨0, x.a, x.c, by omega, rfl, rfl, HG0.out⟩
     case round =>
       obtain ⟨k, a', c', hk2, rfl, rfl, hG⟩ := hrel
       have HK2 := Lib.hid hk2; clear hk2
       have hv2 : VRow wr w1.heap.size 151 x.cells := by
         unfold VRow
         rw [hG.fs.fr.2 w1.heap.size hso (fun h => by
           rcases h with h | ⟨hc, o, e⟩
           · omega
           · have := HXLT.out _ o e hc; omega)]
         exact HVR.out
       have e2 : wr.cell? ⟨w1.heap.size, 2, none⟩ = some (.int .i64 (x.no : Int)) := VRow.cell hv2 rfl
       have hwr := hG.fs.fr.1
       have HG := Lib.hid hG; clear hG
       have HV2 := Lib.hid hv2; clear hv2
       by_cases hlt2 : k < 40
       · have hb0 := HB0.out
         have HMK := Lib.hid (fun W => mark_any x.no hn1 W)
         obtain ⟨vals, hfv, hpv⟩ := HG.out.long
         have HFV := Lib.hid hfv; clear hfv
         have HPV := Lib.hid hpv; clear hpv
         go_wp2_with (first
           | (go_at_call 129; refine (HMK.out _).mono ?_; rintro e w' ⟨rfl, hw⟩; replace hw := hw.symm; subst hw)
           | (at_builtin; refine appLotI _ rfl _ _ rfl base a' (x.n + k) c' vals rfl (HFV.out.step ((Below.refl _ _).alloc (Nat.le_refl _) _)) wr.heap.size (.int .i64 (-(x.no : Int))) rfl rfl (by simp [go_sem]) (by omega) (by simp; omega) ?_))
         intro a2 c2' w2 hf2 hd2
         have hba : Below wr.heap.size wr (wr.alloc (.cells #[(.int .i64 (-(x.no : Int)))] 3)) := (Below.refl _ _).alloc (Nat.le_refl _) _
         have hnx : Grow PI 3 wo w2 base x (k + 1) a2 c2' := (HG.out.below (markPI B) hba).next (markPI B) (fun b o e hc => Nat.lt_trans (HXLT.out b o e hc) hso) (fun v hv => (markPI B).below (HPV.out v hv) hba) rfl hf2 (by rw [(show (wr.alloc (.cells #[(.int .i64 (-(x.no : Int)))] 3)).heap.size = wr.heap.size + 1 from by simp)]; exact hd2)
         have HNX := Lib.hid hnx; clear hnx hf2 hd2 hba
         go_wp2_with fail
         go_roundg (gk - 1)
         case measure => have := HK2.out; omega
         case rel => exact ⟨k + 1, a2, c2', by have := HK2.out; omega, by go_num, rfl, HNX.out⟩
       · obtain rfl : k = 40 := by have := HK2.out; omega
         have hS : ∀ b, B ≤ b → b < w1.heap.size → ¬ (wo.heap.size ≤ b ∨ (0 < x.c ∧ ∃ o, x.a = some ⟨b, o, none⟩)) := fun b h1 h2 h => by
           rcases h with h | ⟨hc, o, e⟩
           · omega
           · have := HL.out.lt b ⟨x, HXL.out.2, hc, o, e⟩; omega
         have hfr : Fr (fun b => ¬ (B ≤ b ∧ b < w1.heap.size)) w1 wr := by
           refine ⟨by omega, fun b hb hn => ?_⟩
           have hn' : B ≤ b ∧ b < w1.heap.size := by
             by_cases h : B ≤ b ∧ b < w1.heap.size
             · exact h
             · exact absurd h hn
           rw [HG.out.fs.fr.2 b (by omega) (hS b hn'.1 hn'.2)]
           exact HBO.out.block b hn'.2
         have hR2 := HR.out.fr hfr (fun h => h ⟨Nat.le_refl _, hgB⟩)
         have hE2 := HE.out.fr hfr (fun b hb ⟨_, hc⟩ h => h ⟨by omega, (Array.getElem?_eq_some_iff.1 hc).1⟩)
         have c2w := hR2.cells.2.2.1
         have hgT : ∃ cur, wr.heap[g]? = some (.cells cur 151 (0, 0)) := by
           obtain ⟨_, h2⟩ := hE2
           rcases h2 with ⟨e, _⟩ | ⟨g', cap, cur, e, hg, hh, _⟩
           · injection e with e1; cases e1
           · injection e with e1; cases e1; exact ⟨cur, hh⟩
         have HGT := Lib.hid hgT; clear hgT
         rw [← HLL.out] at hE2
         obtain ⟨d0w, d1w, d2w, d3w⟩ := hE2.cell HX.out
         have hput := hE2.put HX.out a' (x.n + 40) c'
         have HPUT := Lib.hid hput; clear hput
         have HE2 := Lib.hid hE2; clear hE2
         have HR2 := Lib.hid hR2; clear hR2
         clear hfr hS
         have d3w' := d3w (i * 3 + 1)
         clear d3w
         rw [HLL.out] at HPUT
         have hst := HA.out.step (HT := 151) (by decide) (markPI B) HBO.out HL.out (o := i * 3 + 1) hgb hgl HGT.out HXL.out.1 HG.out (.slice a' (x.n + 40) c')
         have HST := Lib.hid hst; clear hst
         have hR3 : BookRow (wr.setCell ⟨g, i * 3 + 1, none⟩ (.slice a' (x.n + 40) c')) B n vB (.slice (some ⟨g, 0, none⟩) l.length c) vL := HR2.out.fr (Fr.set (S := fun b => b = g) wr ⟨g, i * 3 + 1, none⟩ rfl _) (fun e => by have e' : B = g := e; omega)
         have HR3 := Lib.hid hR3; clear hR3
         go_wp2_with fail
         go_roundg gO
         case measure => have := HK.out; have := HGO.out; omega
         case rel => exact ⟨i + 1, _, by have := HK.out; have := HGO.out; omega, by go_num, HR3.out, HPUT.out, by simp; omega, HST.out⟩
   · obtain rfl : i = l.length := by have := HK.out; omega
     go_wp2_with fail
     go_end0
     exact ⟨⟨_, rfl⟩, _, _, l', rfl, HR.out, HA.out.fs, HA.out.long hE HN.out⟩

set_option maxHeartbeats 2000000 in
theorem lookInt_any (B n base N : Nat) (vB vI vL : Value) (l : List Held) (w : World) (h : BookRow w B n vB vI vL) (hR : Long PI 3 151 w base B vI N l) :
   Calls Tryz.prog 85 #[.pointer (some ⟨B, 0, none⟩)] w (fun e w' => e = .returned (.bool true) ∧ Below w.heap.size w w') := by
 have hI := hR.held
 obtain ⟨a, c, rfl, hlc, hcm, hpos⟩ := hI.form
 have c2 := h.cells.2.2.1
 have HR := Lib.hid hR; clear hR
 have HH := Lib.hid (And.intro h hI); clear h hI
 have HP := Lib.hid hpos; clear hpos
 have HC := Lib.hid hlc; clear hlc
 have HM := Lib.hid hcm; clear hcm
 go_enter Tryz.func85, Tryz.ntmps85
 go_wp2_with fail
 go_loopg [3, 4, 5] l.length (fun g' s3 s4 s5 wr => ∃ i : Nat, i + g' = l.length ∧ s3 = .int .i64 i ∧ Below w.heap.size w wr)
 case atStart => exact ⟨0, by omega, rfl, Below.refl _ _⟩
 case round =>
   obtain ⟨i, hk, rfl, hB⟩ := hrel
   obtain ⟨w1, rfl⟩ : ∃ w1, w1 = wr := ⟨_, rfl⟩
   have HK := Lib.hid hk; clear hk
   have c2w := cell_step0 hB c2
   have HB := Lib.hid hB; clear hB
   by_cases hlt : i < l.length
   · obtain ⟨x, hx⟩ : ∃ x, l[i]? = some x := ⟨l[i], by simp [hlt]⟩
     have hxm : x ∈ l := List.mem_of_getElem? hx
     obtain ⟨g, cur, rfl, _⟩ := HP.out (by omega)
     obtain ⟨d0, d1, d2, _⟩ := HH.out.2.cell hx
     replace d0 := cell_step0 HB.out d0
     replace d1 := cell_step0 HB.out d1
     replace d2 := cell_step0 HB.out d2
     have hlk := HR.out.looked x hxm
     obtain ⟨hn1, hn2⟩ := HR.out.no x hxm
     clear hx hxm
     obtain ⟨ln, hln⟩ : ∃ ln, ln = x.n + 40 := ⟨_, rfl⟩
     have hle := hlk.ln
     have hlo := hlk.long
     have hsh := hlk.short
     rw [hle, ← hln] at hlo d1
     clear hlk hle
     have HLO := Lib.hid hlo; clear hlo
     have HSH := Lib.hid hsh; clear hsh
     have e5 : ((ln : Int) != (x.n : Int) + 40) = false := by simp; omega
     have hlen2 := HC.out
     have hcm2 := HM.out
     unfold maxLen at hcm2
     have hln3 : ln ≤ 1000000 := by omega
     have HLN := Lib.hid hln; clear hln
     obtain ⟨wo, hwo⟩ : ∃ wo, wo = w1.alloc (.cells #[Value.slice x.a x.n x.c, Value.slice x.la ln x.lc, Value.int IntKind.i64 ↑x.no] 151) := ⟨_, rfl⟩
     have hbo : Below w1.heap.size w1 wo := by rw [hwo]; exact (Below.refl _ _).alloc (Nat.le_refl _) _
     have hvr : VRow wo w1.heap.size 151 [Value.slice x.a x.n x.c, Value.slice x.la ln x.lc, Value.int IntKind.i64 ↑x.no] := by rw [hwo]; exact heap_alloc_new w1 _
     have hBw : Below w.heap.size w wo := HB.out.trans (hbo.mono HB.out.size)
     have HBW := Lib.hid hBw; clear hBw hbo
     go_wp2_with fail
     rw [← hwo]
     have HVR := Lib.hid hvr; clear hvr
     obtain ⟨gO, hgO⟩ : ∃ m, m = gk - 1 := ⟨_, rfl⟩
     have HGO := Lib.hid hgO; clear hgO
     clear hwo e5
     go_loopg [5] ln (fun g' s5 wr => ∃ k : Nat, k + g' = ln ∧ s5 = .int .i64 k ∧ Below wo.heap.size wo wr)
     case atStart => exact ⟨0, by omega, rfl, Below.refl _ _⟩
     case round =>
       obtain ⟨k, hk2, rfl, hB2⟩ := hrel
       have HK2 := Lib.hid hk2; clear hk2
       have hv2 := HVR.out.below hB2 HVR.out.lt
       have e0 : wr.cell? ⟨w1.heap.size, 0, none⟩ = some (.slice x.a x.n x.c) := VRow.cell hv2 rfl
       have e1 : wr.cell? ⟨w1.heap.size, 1, none⟩ = some (.slice x.la ln x.lc) := VRow.cell hv2 rfl
       have e2 : wr.cell? ⟨w1.heap.size, 2, none⟩ = some (.int .i64 (x.no : Int)) := VRow.cell hv2 rfl
       clear hv2
       have hBt := HBW.out.trans (hB2.mono HBW.out.size)
       by_cases hlt2 : k < ln
       · obtain ⟨b, o, v, hxa, hc1, hp1⟩ := (HLO.out.step (markPI B) hBt).cells hlt2
         rw [hxa] at e1
         clear hxa
         have hq1 : ∀ m, Calls Tryz.prog 138 #[v, .int .i64 (x.no : Int)] (wr.drewN m) (fun e w' => e = .returned (.bool true) ∧ w' = wr.drewN m) := fun m => isI_any v x.no hn1 _ hp1
         have HQ1 := Lib.hid hq1; clear hq1 hp1
         have i1 : (k : Int) < (ln : Int) := by omega
         by_cases hlt3 : k < x.n
         · obtain ⟨b2, o2, u, hxa2, hc2, hp2⟩ := (HSH.out.step (markPI B) hBt).cells hlt3
           rw [hxa2] at e0
           clear hxa2
           have hq2 : ∀ m, Calls Tryz.prog 138 #[u, .int .i64 (x.no : Int)] (wr.drewN m) (fun e w' => e = .returned (.bool true) ∧ w' = wr.drewN m) := fun m => isI_any u x.no hn1 _ hp2
           have HQ2 := Lib.hid hq2; clear hq2 hp2
           have i3 : (k : Int) < (x.n : Int) := by omega
           have HBT := Lib.hid hBt; clear hBt
           have HB2 := Lib.hid hB2; clear hB2
           go_wp2_with fail
           go_quiet ((go_at_call 138; first | with_reducible exact Calls.quiet_of_same (HQ1.out _) | with_reducible exact Calls.quiet_of_same (HQ2.out _)))
           go_wp2_with fail
           go_roundg (gk - 1)
           case measure => have := HK2.out; omega
           case rel => exact ⟨k + 1, by have := HK2.out; omega, by go_num, below_drewN HB2.out _⟩
         · have i3 : decide ((k : Int) < (x.n : Int)) = false := by simp; omega
           have i4 : decide (k < x.n) = false := by simp; omega
           have HBT := Lib.hid hBt; clear hBt
           have HB2 := Lib.hid hB2; clear hB2
           go_wp2_with fail
           go_quiet ((go_at_call 138; with_reducible exact Calls.quiet_of_same (HQ1.out _)))
           go_wp2_with fail
           go_roundg (gk - 1)
           case measure => have := HK2.out; omega
           case rel => exact ⟨k + 1, by have := HK2.out; omega, by go_num, below_drewN HB2.out _⟩
       · obtain rfl : k = ln := by have := HK2.out; omega
         have HBT := Lib.hid hBt; clear hBt
         have HB2 := Lib.hid hB2; clear hB2
         go_wp2_with fail
         go_roundg gO
         case measure => have := HK.out; have := HGO.out; omega
         case rel => exact ⟨i + 1, by have := HK.out; have := HGO.out; omega, by go_num, HBT.out⟩
   · obtain rfl : i = l.length := by have := HK.out; omega
     go_wp2_with fail
     go_ret
     exact ⟨rfl, HB.out⟩
end Go.Proofs.YtkddkkcfpnndlaaGreatDoor

namespace Go.Proofs.YtkddkkcfpnndlaaGreatDoor
open Go.RowKit

def PB (_ : World) (no : Nat) (v : Value) : Prop := v = .int .u8 ((no : Int) % 256)
theorem markPB (kb : Nat) : MkP kb 5 PB :=
 ⟨fun _ _ v h => by rw [show v = _ from h]; rfl, fun _ _ _ _ _ h _ _ => h, fun _ _ _ _ _ _ _ _ h => h⟩
theorem infoByte : (Tryz.prog.info? 5).map (fun i => (i.zero, i.size, i.bytes)) = some (some (.int .u8 0), 1, 1) := by kernel_rfl
theorem markB_any (n : Nat) (_hn : n ≤ 1000000) (w : World) : Calls Tryz.prog 128 #[.int .i64 (n : Int)] w (fun e w' => e = .returned (.int .u8 ((n : Int) % 256)) ∧ w' = w) := by
 go_enter Tryz.func128, Tryz.ntmps128
 go_wp2_with fail
 go_ret
 exact ⟨by first | rfl | (congr 1; congr 1; go_num), rfl⟩
theorem isB_any (v : Value) (n : Nat) (_hn : n ≤ 1000000) (w : World) (hv : PB w n v) : Calls Tryz.prog 137 #[v, .int .i64 (n : Int)] w (fun e w' => e = .returned (.bool true) ∧ w' = w) := by
 obtain rfl : v = .int .u8 ((n : Int) % 256) := hv
 go_enter Tryz.func137, Tryz.ntmps137
 go_wp2_with fail
 go_ret
 exact ⟨by simp, rfl⟩

set_option maxHeartbeats 1000000 in
theorem fillByte_any (B n base : Nat) (vB vI vL : Value) (l : List Held) (w : World) (h : BookRow w B n vB vI vL) (hR : Raw 5 153 w base B vB l) (hno : ∀ x, x ∈ l → x.no ≤ 1000000 ∧ x.n ≤ 900000) :
   Calls Tryz.prog 66 #[.pointer (some ⟨B, 0, none⟩)] w (fun e w' => (∃ v, e = .returned v) ∧ Fs (Blk l) w w' ∧ Full PB 5 153 w' base B vB l) := by
 obtain ⟨hI, hL⟩ := hR
 obtain ⟨a, c, rfl, hlc, hcm, hpos⟩ := hI.form
 have HH := Lib.hid (And.intro h hI); clear h hI
 have HP := Lib.hid hpos; clear hpos
 have HL := Lib.hid hL; clear hL
 have HN := Lib.hid hno; clear hno
 have HC := Lib.hid hlc; clear hlc
 have HM := Lib.hid hcm; clear hcm
 go_enter Tryz.func66, Tryz.ntmps66
 go_wp2_with fail
 go_loopg [2, 3, 4] l.length (fun g' s2 s3 s4 wr => ∃ i : Nat, i + g' = l.length ∧ s2 = .int .i64 i ∧ Fs (Blk l) w wr ∧ ∀ (j : Nat) (x : Held), j < i → l[j]? = some x → MF PB 5 wr base x.a x.n x.c x.no)
 case atStart => exact ⟨0, by omega, rfl, Fs.refl _ _, fun j x hj => by omega⟩
 case round =>
   obtain ⟨i, hk, rfl, hF, hD⟩ := hrel
   obtain ⟨w1, rfl⟩ : ∃ w1, w1 = wr := ⟨_, rfl⟩
   have HK := Lib.hid hk; clear hk
   have HF := Lib.hid hF; clear hF
   have HD := Lib.hid hD; clear hD
   have hbs := HF.out.fr.1
   have hBn : ¬ Blk l B := fun hb => Nat.lt_irrefl _ (HL.out.lt B hb)
   have hrow := HH.out.1.fr HF.out.fr hBn
   have hhel := HH.out.2.fr HF.out.fr (fun b hb _ hS => by have := HL.out.lt b hS; omega)
   have c2 := hrow.cells.2.1
   have HR := Lib.hid hrow; clear hrow
   have HE := Lib.hid hhel; clear hhel
   clear hBn
   by_cases hlt : i < l.length
   · obtain ⟨x, hx⟩ : ∃ x, l[i]? = some x := ⟨l[i], by simp [hlt]⟩
     obtain ⟨g, cur, rfl, _⟩ := HP.out (by omega)
     obtain ⟨d0, d1, d2, _⟩ := HE.out.cell hx
     have HX := Lib.hid hx; clear hx
     have hlen2 := HC.out
     have hcm2 := HM.out
     unfold maxLen at hcm2
     have hxm : x ∈ l := List.mem_of_getElem? HX.out
     obtain ⟨hn1, hn2⟩ := HN.out x hxm
     have HXM := Lib.hid hxm; clear hxm
     have HMK := Lib.hid (fun W => markB_any x.no hn1 W)
     have hgB : B < w1.heap.size := by
       have := Array.getElem?_eq_some_iff.1 (show w1.heap[B]? = some _ from HR.out)
       exact this.1
     obtain ⟨wo, hwo⟩ : ∃ wo, wo = w1.alloc (.cells #[Value.slice x.a x.n x.c, Value.slice x.la x.ln x.lc, Value.int IntKind.i64 ↑x.no] 153) := ⟨_, rfl⟩
     have hvr : VRow wo w1.heap.size 153 x.cells := by rw [hwo]; exact heap_alloc_new w1 _
     have hfo : Fs (Blk l) w1 wo := by rw [hwo]; exact Fs.below ((Below.refl _ _).alloc (Nat.le_refl _) _)
     have hbo : Below w1.heap.size w1 wo := by rw [hwo]; exact (Below.refl _ _).alloc (Nat.le_refl _) _
     have HBO := Lib.hid hbo; clear hbo
     have hxlt : ∀ b o, x.a = some ⟨b, o, none⟩ → 0 < x.c → b < w1.heap.size := fun b o e hc => by have := HL.out.lt b ⟨x, HXM.out, hc, o, e⟩; omega
     have HFO := Lib.hid hfo; clear hfo
     have HXLT := Lib.hid hxlt; clear hxlt
     go_wp2_with fail
     rw [← hwo]
     have HVR := Lib.hid hvr; clear hvr
     obtain ⟨gO, hgO⟩ : ∃ m, m = gk - 1 := ⟨_, rfl⟩
     have HGO := Lib.hid hgO; clear hgO
     have HWO := Lib.hid hwo; clear hwo
     go_loopg [4] x.n (fun g' s4 wr => ∃ k : Nat, k + g' = x.n ∧ s4 = .int .i64 k ∧ Fs (fun b => 0 < x.c ∧ ∃ o, x.a = some ⟨b, o, none⟩) wo wr ∧ ∀ b o, x.a = some ⟨b, o, none⟩ → ∀ k', k' < k → ∃ v, wr.cell? ⟨b, o + k', none⟩ = some v ∧ PB wr x.no v)
     case atStart => exact ⟨0, by omega, rfl, Fs.refl _ _, fun _ _ _ k' hk' => by omega⟩
     case round =>
       obtain ⟨k, hk2, rfl, hF2, hD2⟩ := hrel
       have HK2 := Lib.hid hk2; clear hk2
       have HF2 := Lib.hid hF2; clear hF2
       have HD2 := Lib.hid hD2; clear hD2
       have hv2 : VRow wr w1.heap.size 153 x.cells := by
         unfold VRow
         rw [HF2.out.fr.2 w1.heap.size (Array.getElem?_eq_some_iff.1 (show wo.heap[w1.heap.size]? = some _ from HVR.out)).1 (fun ⟨hc, o, e⟩ => by have := HXLT.out _ o e hc; omega)]
         exact HVR.out
       have e0 : wr.cell? ⟨w1.heap.size, 0, none⟩ = some (.slice x.a x.n x.c) := VRow.cell hv2 rfl
       have e2 : wr.cell? ⟨w1.heap.size, 2, none⟩ = some (.int .i64 (x.no : Int)) := VRow.cell hv2 rfl
       have hv2l := hv2.lt
       clear hv2
       by_cases hlt2 : k < x.n
       · obtain ⟨b, o, hxa⟩ : ∃ b o, x.a = some ⟨b, o, none⟩ := by
           rcases HL.out.lot i x HX.out with ⟨h0, _⟩ | ⟨b, o, cur, e, _⟩
           · omega
           · exact ⟨b, o, e⟩
         have hlot := ((HL.out.lot i x HX.out).fs ((HF.out.trans HFO.out).mono (fun _ _ h => h))).fs HF2.out
         obtain ⟨curx, hcurx, hx0, hfz, hcc⟩ : ∃ curx, wr.heap[b]? = some (.cells curx 5 (0, 0)) ∧ (∃ z, wr.cell? ⟨b, o + k, none⟩ = some z) ∧ wr.frozen? ⟨b, o + k, none⟩ = false ∧ 0 < x.c := by
           rcases hlot with ⟨h0, _⟩ | ⟨b', o', cur, e, _, hh, hsz, hnc⟩
           · omega
           · rw [hxa] at e; cases e
             refine ⟨cur, hh, ⟨cur[o + k]'(by omega), ?_⟩, frozen_of_row wr b _ cur _ hh, by omega⟩
             rw [cell_of_row wr b _ cur _ _ hh]; simp
         obtain ⟨z, hz⟩ := hx0
         have hblt := HXLT.out b o hxa hcc
         rw [hxa] at e0
         have HLOT := Lib.hid hlot; clear hlot
         have HXA := Lib.hid hxa; clear hxa
         have HCC := Lib.hid hcc; clear hcc
         have HCU := Lib.hid hcurx; clear hcurx
         go_wp2_with fail
         go_region_with (go_at_call 128; refine (HMK.out _).mono ?_; rintro e w' ⟨rfl, rfl⟩)
         all_goals
           go_wp2_with fail
           go_roundg (gk - 1)
           case measure => have := HK2.out; omega
           case rel =>
             have hF3 : Fs (fun b => 0 < x.c ∧ ∃ o, x.a = some ⟨b, o, none⟩) wr (wr.setCell ⟨b, o + k, none⟩ (.int .u8 ((x.no : Int) % 256))) := Fs.set (S := fun b => 0 < x.c ∧ ∃ o, x.a = some ⟨b, o, none⟩) wr ⟨HCC.out, o, HXA.out⟩ _
             have hF4 := (HF2.out.trans hF3).trans (Fs.below ((Below.refl _ _).drew))
             refine ⟨k + 1, by have := HK2.out; omega, by go_num, hF4, ?_⟩
             intro b' o' e k' hk'
             rw [HXA.out] at e
             cases e
             show ∃ v, (wr.setCell ⟨b, o + k, none⟩ (.int .u8 ((x.no : Int) % 256))).cell? ⟨b, o + k', none⟩ = some v ∧ _
             by_cases ek : k' = k
             · subst ek
               exact ⟨_, World.cell?_setCell_same _ _ _ hz, rfl⟩
             · rw [World.cell?_setCell_other _ _ _ _ (fun e => ek (by injection e; omega))]
               exact HD2.out b o HXA.out k' (by omega)
       · obtain rfl : k = x.n := by have := HK2.out; omega
         go_wp2_with fail
         go_roundg gO
         case measure => have := HK.out; have := HGO.out; omega
         case rel =>
           have hxb : ∀ b', b' < wo.heap.size → (0 < x.c ∧ ∃ o, x.a = some ⟨b', o, none⟩) → Blk l b' := fun b' _ ⟨hc, o, e⟩ => ⟨x, HXM.out, hc, o, e⟩
           have hF4 : Fs (Blk l) w wr := (HF.out.trans HFO.out).trans (HF2.out.mono hxb)
           refine ⟨i + 1, by have := HK.out; have := HGO.out; omega, by go_num, hF4, ?_⟩
           intro j y hj hy
           by_cases ej : j = i
           · subst ej
             have hyx : y = x := by have := HX.out; rw [hy] at this; exact Option.some.inj this
             subst hyx
             exact MF.of_cells ((HL.out.lot j y hy).fs hF4) HD2.out
           · have h1 := (HD.out j y (by omega) hy).step (markPB B) HBO.out
             refine h1.fs (markPB B) HF2.out (fun b o e hc _ ⟨hxc, o2, e2⟩ => HL.out.apart j i y x ej hy HX.out b o o2 hc hxc e e2) ?_
             intro b cur hB _ ⟨hxc, o2, e2⟩
             have := HL.out.lt b ⟨x, HXM.out, hxc, o2, e2⟩
             omega
   · obtain rfl : i = l.length := by have := HK.out; omega
     go_wp2_with fail
     go_end0
     exact ⟨⟨_, rfl⟩, HF.out, ⟨⟨HE.out, HL.out.fs HF.out⟩, fun j x hx => HD.out j x (List.getElem?_eq_some_iff.1 hx).1 hx⟩⟩

theorem appLotB {ops : Array Oper} {rest : List Oper} {o : Oper} {act : Act} {Q : Exit → Act → World → Prop} (w : World) (hgd : o.guard = none) (s x : Operand)
   (ho : o.op = .call { callee := .builtin .append, args := #[s, x], argTypes := #[77, 77] })
   (base : Nat) (a : Option Addr) (n c : Nat) (vals : List Value) (hs : act.eval s = .slice a n c) (hf : FilledBy 5 w base a n c vals) (xb : Nat) (u : Value) (hu : u.oneCell' = true) (hx : act.eval x = .slice (some ⟨xb, 0, none⟩) 1 1)
   (hc : w.cell? ⟨xb, 0, none⟩ = some u) (hlen : n < 1000000) (hbase : base ≤ w.heap.size)
   (h : ∀ a' c' w', FilledBy 5 w' base a' (n + 1) c' (vals ++ [u]) → ((∃ b off, a = some ⟨b, off, none⟩ ∧ a' = a ∧ c' = c ∧ n < c ∧ w' = w.setCell ⟨b, off + n, none⟩ u) ∨ (∃ g, a' = some ⟨g, 0, none⟩ ∧ w.heap.size ≤ g ∧ Below w.heap.size w w')) → wpList Tryz.prog ops Q rest (act.put o.dst (.slice a' (n + 1) c')) w') : wpList Tryz.prog ops Q (o :: rest) act w := by
 obtain ⟨i0, hi, hz0, hz1, hz2⟩ := info_parts infoByte
 exact appLot w hgd s x ho Tryz.underlying77 hi hz0 hz1 hz2 rfl (by decide) base a n c vals hs hf xb u hx hc hu hlen hbase h

set_option maxHeartbeats 1000000 in
theorem growByte_any (B n base : Nat) (vB vI vL : Value) (l : List Held) (w : World) (h : BookRow w B n vB vI vL) (hR : Full PB 5 153 w base B vB l) (hbase : base ≤ w.heap.size) (hno : ∀ x, x ∈ l → x.no ≤ 1000000 ∧ x.n ≤ 900000) :
   Calls Tryz.prog 75 #[.pointer (some ⟨B, 0, none⟩)] w (fun e w' => (∃ v, e = .returned v) ∧ ∃ (a : Option Addr) (c : Nat) (l' : List Held), vB = .slice a l.length c ∧ BookRow w' B n vB vI vL ∧ Fs (fun b => Blk l b ∨ ∃ o, a = some ⟨b, o, none⟩) w w' ∧ Long PB 5 153 w' base B vB l.length l') := by
 obtain ⟨⟨hI, hL⟩, hM⟩ := hR
 obtain ⟨a, c, rfl, hlc, hcm, hpos⟩ := hI.form
 have HP := Lib.hid hpos; clear hpos
 have HL := Lib.hid hL; clear hL
 have HN := Lib.hid hno; clear hno
 have HC := Lib.hid hlc; clear hlc
 have HM := Lib.hid hcm; clear hcm
 have HB0 := Lib.hid hbase; clear hbase
 obtain ⟨w1, hw1⟩ : ∃ w1, w1 = w := ⟨_, rfl⟩
 have HI0 := Lib.hid (And.intro h (And.intro hI hM)); clear h hI hM hw1
 go_enter Tryz.func75, Tryz.ntmps75
 go_wp2_with fail
 go_loopg [2, 3, 4, 5] l.length (fun g' s2 s3 s4 s5 wr => ∃ (i : Nat) (l' : List Held), i + g' = l.length ∧ s2 = .int .i64 i ∧ BookRow wr B n (.slice a l.length c) vI vL ∧ Helds 153 wr (B + 1) (.slice a l.length c) l' ∧ w.heap.size ≤ wr.heap.size ∧ GrewTo PB 5 w wr base B a l l' i)
 case atStart => exact ⟨0, l, by omega, rfl, HI0.out.1, HI0.out.2.1, Nat.le_refl _, ⟨rfl, Fs.refl _ _, HI0.out.2.2, fun j x y hj => by omega, fun j x y _ hx hy => by rw [hx] at hy; exact (Option.some.inj hy).symm⟩⟩
 case round =>
   obtain ⟨i, l', hk, rfl, hR, hE, hsz, hA⟩ := hrel
   have hll := hA.len
   obtain ⟨w1, rfl⟩ : ∃ w1, w1 = wr := ⟨_, rfl⟩
   have HK := Lib.hid hk; clear hk
   have c2 := hR.cells.2.1
   have HR := Lib.hid hR; clear hR
   have HA := Lib.hid hA; clear hA
   have HLL := Lib.hid hll; clear hll
   by_cases hlt : i < l.length
   · obtain ⟨x, hx⟩ : ∃ x, l'[i]? = some x := ⟨l'[i]'(by rw [HLL.out]; exact hlt), by simp⟩
     obtain ⟨g, cur, rfl, hgb, hgh, _⟩ := HP.out (by omega)
     have hgl := (Array.getElem?_eq_some_iff.1 hgh).1
     clear hgh
     rw [← HLL.out] at hE
     obtain ⟨d0, d1, d2, _⟩ := hE.cell hx
     rw [HLL.out] at hE
     have HE := Lib.hid hE; clear hE
     have HX := Lib.hid hx; clear hx
     have hlen2 := HC.out
     have hcm2 := HM.out
     unfold maxLen at hcm2
     have hxl : l[i]? = some x := by
       have h1 : l[i]? = some l[i] := by simp
       have := HA.out.yet i _ x (Nat.le_refl _) h1 HX.out
       rw [this]; exact h1
     have hxm : x ∈ l := List.mem_of_getElem? hxl
     obtain ⟨hn1, hn2⟩ := HN.out x hxm
     have hfx := HA.out.old i x hxl
     have HXL := Lib.hid (And.intro hxl hxm); clear hxl hxm
     have hgB : B < w1.heap.size := (Array.getElem?_eq_some_iff.1 (show w1.heap[B]? = some _ from HR.out)).1
     obtain ⟨wo, hwo⟩ : ∃ wo, wo = w1.alloc (.cells #[Value.slice x.a x.n x.c, Value.slice x.la x.ln x.lc, Value.int IntKind.i64 ↑x.no] 153) := ⟨_, rfl⟩
     have hvr : VRow wo w1.heap.size 153 x.cells := by rw [hwo]; exact heap_alloc_new w1 _
     have hbo : Below w1.heap.size w1 wo := by rw [hwo]; exact (Below.refl _ _).alloc (Nat.le_refl _) _
     have hxlt : ∀ b o, x.a = some ⟨b, o, none⟩ → 0 < x.c → b < w1.heap.size := fun b o e hc => by have := HL.out.lt b ⟨x, HXL.out.2, hc, o, e⟩; omega
     have hso : w1.heap.size < wo.heap.size := (Array.getElem?_eq_some_iff.1 (show wo.heap[w1.heap.size]? = some _ from hvr)).1
     have hg0 : Grow PB 5 wo wo base x 0 x.a x.c := Grow.start (hfx.step (markPB B) hbo)
     have HG0 := Lib.hid hg0; clear hg0 hfx
     have HBO := Lib.hid hbo; clear hbo
     have HXLT := Lib.hid hxlt; clear hxlt
     go_wp2_with fail
     rw [← hwo]
     have HVR := Lib.hid hvr; clear hvr
     obtain ⟨gO, hgO⟩ : ∃ m, m = gk - 1 := ⟨_, rfl⟩
     have HGO := Lib.hid hgO; clear hgO
     have HWO := Lib.hid hwo; clear hwo
     go_loopg [4, 5] 40 (fun g' s4 s5 wr => ∃ (k : Nat) (a' : Option Addr) (c' : Nat), k + g' = 40 ∧ s5 = .int .i64 k ∧ s4 = .slice a' (x.n + k) c' ∧ Grow PB 5 wo wr base x k a' c')
     case atStart => exact ⟨0, x.a, x.c, by omega, rfl, rfl, HG0.out⟩
     case round =>
       obtain ⟨k, a', c', hk2, rfl, rfl, hG⟩ := hrel
       have HK2 := Lib.hid hk2; clear hk2
       have hv2 : VRow wr w1.heap.size 153 x.cells := by
         unfold VRow
         rw [hG.fs.fr.2 w1.heap.size hso (fun h => by
           rcases h with h | ⟨hc, o, e⟩
           · omega
           · have := HXLT.out _ o e hc; omega)]
         exact HVR.out
       have e2 : wr.cell? ⟨w1.heap.size, 2, none⟩ = some (.int .i64 (x.no : Int)) := VRow.cell hv2 rfl
       have hwr := hG.fs.fr.1
       have HG := Lib.hid hG; clear hG
       have HV2 := Lib.hid hv2; clear hv2
       by_cases hlt2 : k < 40
       · have hb0 := HB0.out
         have HMK := Lib.hid (fun W => markB_any x.no hn1 W)
         obtain ⟨vals, hfv, hpv⟩ := HG.out.long
         have HFV := Lib.hid hfv; clear hfv
         have HPV := Lib.hid hpv; clear hpv
         go_wp2_with (first
           | (go_at_call 128; refine (HMK.out _).mono ?_; rintro e w' ⟨rfl, hw⟩; replace hw := hw.symm; subst hw)
           | (at_builtin; refine appLotB _ rfl _ _ rfl base a' (x.n + k) c' vals rfl (HFV.out.step ((Below.refl _ _).alloc (Nat.le_refl _) _)) wr.heap.size (.int .u8 ((x.no : Int) % 256)) rfl rfl (by simp [go_sem]) (by omega) (by simp; omega) ?_))
         intro a2 c2' w2 hf2 hd2
         have hba : Below wr.heap.size wr (wr.alloc (.cells #[(.int .u8 ((x.no : Int) % 256))] 5)) := (Below.refl _ _).alloc (Nat.le_refl _) _
         have hnx : Grow PB 5 wo w2 base x (k + 1) a2 c2' := (HG.out.below (markPB B) hba).next (markPB B) (fun b o e hc => Nat.lt_trans (HXLT.out b o e hc) hso) (fun v hv => (markPB B).below (HPV.out v hv) hba) rfl hf2 (by rw [(show (wr.alloc (.cells #[(.int .u8 ((x.no : Int) % 256))] 5)).heap.size = wr.heap.size + 1 from by simp)]; exact hd2)
         have HNX := Lib.hid hnx; clear hnx hf2 hd2 hba
         go_wp2_with fail
         go_roundg (gk - 1)
         case measure => have := HK2.out; omega
         case rel => exact ⟨k + 1, a2, c2', by have := HK2.out; omega, by go_num, rfl, HNX.out⟩
       · obtain rfl : k = 40 := by have := HK2.out; omega
         have hS : ∀ b, B ≤ b → b < w1.heap.size → ¬ (wo.heap.size ≤ b ∨ (0 < x.c ∧ ∃ o, x.a = some ⟨b, o, none⟩)) := fun b h1 h2 h => by
           rcases h with h | ⟨hc, o, e⟩
           · omega
           · have := HL.out.lt b ⟨x, HXL.out.2, hc, o, e⟩; omega
         have hfr : Fr (fun b => ¬ (B ≤ b ∧ b < w1.heap.size)) w1 wr := by
           refine ⟨by omega, fun b hb hn => ?_⟩
           have hn' : B ≤ b ∧ b < w1.heap.size := by
             by_cases h : B ≤ b ∧ b < w1.heap.size
             · exact h
             · exact absurd h hn
           rw [HG.out.fs.fr.2 b (by omega) (hS b hn'.1 hn'.2)]
           exact HBO.out.block b hn'.2
         have hR2 := HR.out.fr hfr (fun h => h ⟨Nat.le_refl _, hgB⟩)
         have hE2 := HE.out.fr hfr (fun b hb ⟨_, hc⟩ h => h ⟨by omega, (Array.getElem?_eq_some_iff.1 hc).1⟩)
         have c2w := hR2.cells.2.1
         have hgT : ∃ cur, wr.heap[g]? = some (.cells cur 153 (0, 0)) := by
           obtain ⟨_, h2⟩ := hE2
           rcases h2 with ⟨e, _⟩ | ⟨g', cap, cur, e, hg, hh, _⟩
           · injection e with e1; cases e1
           · injection e with e1; cases e1; exact ⟨cur, hh⟩
         have HGT := Lib.hid hgT; clear hgT
         rw [← HLL.out] at hE2
         obtain ⟨d0w, d1w, d2w, d3w⟩ := hE2.cell HX.out
         have hput := hE2.put HX.out a' (x.n + 40) c'
         have HPUT := Lib.hid hput; clear hput
         have HE2 := Lib.hid hE2; clear hE2
         have HR2 := Lib.hid hR2; clear hR2
         clear hfr hS
         have d3w' := d3w (i * 3 + 1)
         clear d3w
         rw [HLL.out] at HPUT
         have hst := HA.out.step (HT := 153) (by decide) (markPB B) HBO.out HL.out (o := i * 3 + 1) hgb hgl HGT.out HXL.out.1 HG.out (.slice a' (x.n + 40) c')
         have HST := Lib.hid hst; clear hst
         have hR3 : BookRow (wr.setCell ⟨g, i * 3 + 1, none⟩ (.slice a' (x.n + 40) c')) B n (.slice (some ⟨g, 0, none⟩) l.length c) vI vL := HR2.out.fr (Fr.set (S := fun b => b = g) wr ⟨g, i * 3 + 1, none⟩ rfl _) (fun e => by have e' : B = g := e; omega)
         have HR3 := Lib.hid hR3; clear hR3
         go_wp2_with fail
         go_roundg gO
         case measure => have := HK.out; have := HGO.out; omega
         case rel => exact ⟨i + 1, _, by have := HK.out; have := HGO.out; omega, by go_num, HR3.out, HPUT.out, by simp; omega, HST.out⟩
   · obtain rfl : i = l.length := by have := HK.out; omega
     go_wp2_with fail
     go_end0
     exact ⟨⟨_, rfl⟩, _, _, l', rfl, HR.out, HA.out.fs, HA.out.long hE HN.out⟩

set_option maxHeartbeats 2000000 in
theorem lookByte_any (B n base N : Nat) (vB vI vL : Value) (l : List Held) (w : World) (h : BookRow w B n vB vI vL) (hR : Long PB 5 153 w base B vB N l) :
   Calls Tryz.prog 84 #[.pointer (some ⟨B, 0, none⟩)] w (fun e w' => e = .returned (.bool true) ∧ Below w.heap.size w w') := by
 have hI := hR.held
 obtain ⟨a, c, rfl, hlc, hcm, hpos⟩ := hI.form
 have c2 := h.cells.2.1
 have HR := Lib.hid hR; clear hR
 have HH := Lib.hid (And.intro h hI); clear h hI
 have HP := Lib.hid hpos; clear hpos
 have HC := Lib.hid hlc; clear hlc
 have HM := Lib.hid hcm; clear hcm
 go_enter Tryz.func84, Tryz.ntmps84
 go_wp2_with fail
 go_loopg [3, 4, 5] l.length (fun g' s3 s4 s5 wr => ∃ i : Nat, i + g' = l.length ∧ s3 = .int .i64 i ∧ Below w.heap.size w wr)
 case atStart => exact ⟨0, by omega, rfl, Below.refl _ _⟩
 case round =>
   obtain ⟨i, hk, rfl, hB⟩ := hrel
   obtain ⟨w1, rfl⟩ : ∃ w1, w1 = wr := ⟨_, rfl⟩
   have HK := Lib.hid hk; clear hk
   have c2w := cell_step0 hB c2
   have HB := Lib.hid hB; clear hB
   by_cases hlt : i < l.length
   · obtain ⟨x, hx⟩ : ∃ x, l[i]? = some x := ⟨l[i], by simp [hlt]⟩
     have hxm : x ∈ l := List.mem_of_getElem? hx
     obtain ⟨g, cur, rfl, _⟩ := HP.out (by omega)
     obtain ⟨d0, d1, d2, _⟩ := HH.out.2.cell hx
     replace d0 := cell_step0 HB.out d0
     replace d1 := cell_step0 HB.out d1
     replace d2 := cell_step0 HB.out d2
     have hlk := HR.out.looked x hxm
     obtain ⟨hn1, hn2⟩ := HR.out.no x hxm
     clear hx hxm
     obtain ⟨ln, hln⟩ : ∃ ln, ln = x.n + 40 := ⟨_, rfl⟩
     have hle := hlk.ln
     have hlo := hlk.long
     have hsh := hlk.short
     rw [hle, ← hln] at hlo d1
     clear hlk hle
     have HLO := Lib.hid hlo; clear hlo
     have HSH := Lib.hid hsh; clear hsh
     have e5 : ((ln : Int) != (x.n : Int) + 40) = false := by simp; omega
     have hlen2 := HC.out
     have hcm2 := HM.out
     unfold maxLen at hcm2
     have hln3 : ln ≤ 1000000 := by omega
     have HLN := Lib.hid hln; clear hln
     obtain ⟨wo, hwo⟩ : ∃ wo, wo = w1.alloc (.cells #[Value.slice x.a x.n x.c, Value.slice x.la ln x.lc, Value.int IntKind.i64 ↑x.no] 153) := ⟨_, rfl⟩
     have hbo : Below w1.heap.size w1 wo := by rw [hwo]; exact (Below.refl _ _).alloc (Nat.le_refl _) _
     have hvr : VRow wo w1.heap.size 153 [Value.slice x.a x.n x.c, Value.slice x.la ln x.lc, Value.int IntKind.i64 ↑x.no] := by rw [hwo]; exact heap_alloc_new w1 _
     have hBw : Below w.heap.size w wo := HB.out.trans (hbo.mono HB.out.size)
     have HBW := Lib.hid hBw; clear hBw hbo
     go_wp2_with fail
     rw [← hwo]
     have HVR := Lib.hid hvr; clear hvr
     obtain ⟨gO, hgO⟩ : ∃ m, m = gk - 1 := ⟨_, rfl⟩
     have HGO := Lib.hid hgO; clear hgO
     clear hwo e5
     go_loopg [5] ln (fun g' s5 wr => ∃ k : Nat, k + g' = ln ∧ s5 = .int .i64 k ∧ Below wo.heap.size wo wr)
     case atStart => exact ⟨0, by omega, rfl, Below.refl _ _⟩
     case round =>
       obtain ⟨k, hk2, rfl, hB2⟩ := hrel
       have HK2 := Lib.hid hk2; clear hk2
       have hv2 := HVR.out.below hB2 HVR.out.lt
       have e0 : wr.cell? ⟨w1.heap.size, 0, none⟩ = some (.slice x.a x.n x.c) := VRow.cell hv2 rfl
       have e1 : wr.cell? ⟨w1.heap.size, 1, none⟩ = some (.slice x.la ln x.lc) := VRow.cell hv2 rfl
       have e2 : wr.cell? ⟨w1.heap.size, 2, none⟩ = some (.int .i64 (x.no : Int)) := VRow.cell hv2 rfl
       clear hv2
       have hBt := HBW.out.trans (hB2.mono HBW.out.size)
       by_cases hlt2 : k < ln
       · obtain ⟨b, o, v, hxa, hc1, hp1⟩ := (HLO.out.step (markPB B) hBt).cells hlt2
         rw [hxa] at e1
         clear hxa
         have hq1 : ∀ m, Calls Tryz.prog 137 #[v, .int .i64 (x.no : Int)] (wr.drewN m) (fun e w' => e = .returned (.bool true) ∧ w' = wr.drewN m) := fun m => isB_any v x.no hn1 _ hp1
         have HQ1 := Lib.hid hq1; clear hq1 hp1
         have i1 : (k : Int) < (ln : Int) := by omega
         by_cases hlt3 : k < x.n
         · obtain ⟨b2, o2, u, hxa2, hc2, hp2⟩ := (HSH.out.step (markPB B) hBt).cells hlt3
           rw [hxa2] at e0
           clear hxa2
           have hq2 : ∀ m, Calls Tryz.prog 137 #[u, .int .i64 (x.no : Int)] (wr.drewN m) (fun e w' => e = .returned (.bool true) ∧ w' = wr.drewN m) := fun m => isB_any u x.no hn1 _ hp2
           have HQ2 := Lib.hid hq2; clear hq2 hp2
           have i3 : (k : Int) < (x.n : Int) := by omega
           have HBT := Lib.hid hBt; clear hBt
           have HB2 := Lib.hid hB2; clear hB2
           go_wp2_with fail
           go_quiet ((go_at_call 137; first | with_reducible exact Calls.quiet_of_same (HQ1.out _) | with_reducible exact Calls.quiet_of_same (HQ2.out _)))
           go_wp2_with fail
           go_roundg (gk - 1)
           case measure => have := HK2.out; omega
           case rel => exact ⟨k + 1, by have := HK2.out; omega, by go_num, below_drewN HB2.out _⟩
         · have i3 : decide ((k : Int) < (x.n : Int)) = false := by simp; omega
           have i4 : decide (k < x.n) = false := by simp; omega
           have HBT := Lib.hid hBt; clear hBt
           have HB2 := Lib.hid hB2; clear hB2
           go_wp2_with fail
           go_quiet ((go_at_call 137; with_reducible exact Calls.quiet_of_same (HQ1.out _)))
           go_wp2_with fail
           go_roundg (gk - 1)
           case measure => have := HK2.out; omega
           case rel => exact ⟨k + 1, by have := HK2.out; omega, by go_num, below_drewN HB2.out _⟩
       · obtain rfl : k = ln := by have := HK2.out; omega
         have HBT := Lib.hid hBt; clear hBt
         have HB2 := Lib.hid hB2; clear hB2
         go_wp2_with fail
         go_roundg gO
         case measure => have := HK.out; have := HGO.out; omega
         case rel => exact ⟨i + 1, by have := HK.out; have := HGO.out; omega, by go_num, HBT.out⟩
   · obtain rfl : i = l.length := by have := HK.out; omega
     go_wp2_with fail
     go_ret
     exact ⟨rfl, HB.out⟩
end Go.Proofs.YtkddkkcfpnndlaaGreatDoor

namespace Go.Proofs.YtkddkkcfpnndlaaGreatDoor
open Go.RowKit

def PL (kb : Nat) (w : World) (no : Nat) (v : Value) : Prop := ∃ g, kb ≤ g ∧ v = .slice (some ⟨g, 0, none⟩) 1 1 ∧ w.heap[g]? = some (.cells #[.int .i64 (no : Int)] 3 (0, 0))
theorem markPL (kb : Nat) : MkP kb 25 (PL kb) := by
 refine ⟨fun w no v h => ?_, fun S w w' no v h hf hS => ?_, fun w b o no u v cur hb h => ?_⟩
 · obtain ⟨g, _, rfl, _⟩ := h; rfl
 · obtain ⟨g, h1, h2, h3⟩ := h
   exact ⟨g, h1, h2, by rw [hf.2 g (Array.getElem?_eq_some_iff.1 h3).1 (hS g _ h1 h3)]; exact h3⟩
 · obtain ⟨g, h1, h2, h3⟩ := h
   refine ⟨g, h1, h2, ?_⟩
   rw [heap_setCell_other w ⟨b, o, none⟩ g u (fun e => ?_)]
   · exact h3
   · have e' : g = b := e
     rw [e', hb] at h3
     injection h3 with e1; injection e1 with _ e2
     exact absurd e2 (by decide)
theorem markL_any (n : Nat) (w : World) : Calls Tryz.prog 131 #[.int .i64 (n : Int)] w (fun e w' => e = .returned (.slice (some ⟨w.heap.size, 0, none⟩) 1 1) ∧ Below w.heap.size w w' ∧ w'.heap[w.heap.size]? = some (.cells #[.int .i64 (n : Int)] 3 (0, 0))) := by
 go_enter Tryz.func131, Tryz.ntmps131
 go_wp2_with fail
 go_ret
 exact ⟨rfl, (Below.refl _ _).alloc (Nat.le_refl _) _, heap_alloc_new w _⟩
theorem isL_any (kb : Nat) (v : Value) (n : Nat) (w : World) (hv : PL kb w n v) : Calls Tryz.prog 140 #[v, .int .i64 (n : Int)] w (fun e w' => e = .returned (.bool true) ∧ w' = w) := by
 obtain ⟨g, _, rfl, hg⟩ := hv
 have c0 : w.cell? ⟨g, 0, none⟩ = some (.int .i64 (n : Int)) := by rw [cell_of_row w g 0 _ _ _ hg]; rfl
 clear hg
 go_enter Tryz.func140, Tryz.ntmps140
 go_wp2_with fail
 go_ret
 exact ⟨by simp, rfl⟩

set_option maxHeartbeats 1000000 in
theorem fillIntList_any (B n base : Nat) (vB vI vL : Value) (l : List Held) (w : World) (h : BookRow w B n vB vI vL) (hR : Raw 25 149 w base B vL l) (hno : ∀ x, x ∈ l → x.no ≤ 1000000 ∧ x.n ≤ 900000) :
   Calls Tryz.prog 69 #[.pointer (some ⟨B, 0, none⟩)] w (fun e w' => (∃ v, e = .returned v) ∧ Fs (Blk l) w w' ∧ Full (PL B) 25 149 w' base B vL l) := by
 obtain ⟨hI, hL⟩ := hR
 obtain ⟨a, c, rfl, hlc, hcm, hpos⟩ := hI.form
 have HH := Lib.hid (And.intro h hI); clear h hI
 have HP := Lib.hid hpos; clear hpos
 have HL := Lib.hid hL; clear hL
 have HN := Lib.hid hno; clear hno
 have HC := Lib.hid hlc; clear hlc
 have HM := Lib.hid hcm; clear hcm
 go_enter Tryz.func69, Tryz.ntmps69
 go_wp2_with fail
 go_loopg [2, 3, 4] l.length (fun g' s2 s3 s4 wr => ∃ i : Nat, i + g' = l.length ∧ s2 = .int .i64 i ∧ Fs (Blk l) w wr ∧ ∀ (j : Nat) (x : Held), j < i → l[j]? = some x → MF (PL B) 25 wr base x.a x.n x.c x.no)
 case atStart => exact ⟨0, by omega, rfl, Fs.refl _ _, fun j x hj => by omega⟩
 case round =>
   obtain ⟨i, hk, rfl, hF, hD⟩ := hrel
   obtain ⟨w1, rfl⟩ : ∃ w1, w1 = wr := ⟨_, rfl⟩
   have HK := Lib.hid hk; clear hk
   have HF := Lib.hid hF; clear hF
   have HD := Lib.hid hD; clear hD
   have hbs := HF.out.fr.1
   have hBn : ¬ Blk l B := fun hb => Nat.lt_irrefl _ (HL.out.lt B hb)
   have hrow := HH.out.1.fr HF.out.fr hBn
   have hhel := HH.out.2.fr HF.out.fr (fun b hb _ hS => by have := HL.out.lt b hS; omega)
   have c2 := hrow.cells.2.2.2
   have HR := Lib.hid hrow; clear hrow
   have HE := Lib.hid hhel; clear hhel
   clear hBn
   by_cases hlt : i < l.length
   · obtain ⟨x, hx⟩ : ∃ x, l[i]? = some x := ⟨l[i], by simp [hlt]⟩
     obtain ⟨g, cur, rfl, _⟩ := HP.out (by omega)
     obtain ⟨d0, d1, d2, _⟩ := HE.out.cell hx
     have HX := Lib.hid hx; clear hx
     have hlen2 := HC.out
     have hcm2 := HM.out
     unfold maxLen at hcm2
     have hxm : x ∈ l := List.mem_of_getElem? HX.out
     obtain ⟨hn1, hn2⟩ := HN.out x hxm
     have HXM := Lib.hid hxm; clear hxm
     have HMK := Lib.hid (fun W => markL_any x.no W)
     have hgB : B < w1.heap.size := by
       have := Array.getElem?_eq_some_iff.1 (show w1.heap[B]? = some _ from HR.out)
       exact this.1
     obtain ⟨wo, hwo⟩ : ∃ wo, wo = w1.alloc (.cells #[Value.slice x.a x.n x.c, Value.slice x.la x.ln x.lc, Value.int IntKind.i64 ↑x.no] 149) := ⟨_, rfl⟩
     have hvr : VRow wo w1.heap.size 149 x.cells := by rw [hwo]; exact heap_alloc_new w1 _
     have hfo : Fs (Blk l) w1 wo := by rw [hwo]; exact Fs.below ((Below.refl _ _).alloc (Nat.le_refl _) _)
     have hbo : Below w1.heap.size w1 wo := by rw [hwo]; exact (Below.refl _ _).alloc (Nat.le_refl _) _
     have HBO := Lib.hid hbo; clear hbo
     have hxlt : ∀ b o, x.a = some ⟨b, o, none⟩ → 0 < x.c → b < w1.heap.size := fun b o e hc => by have := HL.out.lt b ⟨x, HXM.out, hc, o, e⟩; omega
     have HFO := Lib.hid hfo; clear hfo
     have HXLT := Lib.hid hxlt; clear hxlt
     go_wp2_with fail
     rw [← hwo]
     have HVR := Lib.hid hvr; clear hvr
     obtain ⟨gO, hgO⟩ : ∃ m, m = gk - 1 := ⟨_, rfl⟩
     have HGO := Lib.hid hgO; clear hgO
     have HWO := Lib.hid hwo; clear hwo
     go_loopg [4] x.n (fun g' s4 wr => ∃ k : Nat, k + g' = x.n ∧ s4 = .int .i64 k ∧ Fs (fun b => 0 < x.c ∧ ∃ o, x.a = some ⟨b, o, none⟩) wo wr ∧ ∀ b o, x.a = some ⟨b, o, none⟩ → ∀ k', k' < k → ∃ v, wr.cell? ⟨b, o + k', none⟩ = some v ∧ (PL B) wr x.no v)
     case atStart => exact ⟨0, by omega, rfl, Fs.refl _ _, fun _ _ _ k' hk' => by omega⟩
     case round =>
       obtain ⟨k, hk2, rfl, hF2, hD2⟩ := hrel
       have HK2 := Lib.hid hk2; clear hk2
       have HF2 := Lib.hid hF2; clear hF2
       have HD2 := Lib.hid hD2; clear hD2
       have hv2 : VRow wr w1.heap.size 149 x.cells := by
         unfold VRow
         rw [HF2.out.fr.2 w1.heap.size (Array.getElem?_eq_some_iff.1 (show wo.heap[w1.heap.size]? = some _ from HVR.out)).1 (fun ⟨hc, o, e⟩ => by have := HXLT.out _ o e hc; omega)]
         exact HVR.out
       have e0 : wr.cell? ⟨w1.heap.size, 0, none⟩ = some (.slice x.a x.n x.c) := VRow.cell hv2 rfl
       have e2 : wr.cell? ⟨w1.heap.size, 2, none⟩ = some (.int .i64 (x.no : Int)) := VRow.cell hv2 rfl
       have hv2l := hv2.lt
       clear hv2
       by_cases hlt2 : k < x.n
       · obtain ⟨b, o, hxa⟩ : ∃ b o, x.a = some ⟨b, o, none⟩ := by
           rcases HL.out.lot i x HX.out with ⟨h0, _⟩ | ⟨b, o, cur, e, _⟩
           · omega
           · exact ⟨b, o, e⟩
         have hlot := ((HL.out.lot i x HX.out).fs ((HF.out.trans HFO.out).mono (fun _ _ h => h))).fs HF2.out
         obtain ⟨curx, hcurx, hx0, hfz, hcc⟩ : ∃ curx, wr.heap[b]? = some (.cells curx 25 (0, 0)) ∧ (∃ z, wr.cell? ⟨b, o + k, none⟩ = some z) ∧ wr.frozen? ⟨b, o + k, none⟩ = false ∧ 0 < x.c := by
           rcases hlot with ⟨h0, _⟩ | ⟨b', o', cur, e, _, hh, hsz, hnc⟩
           · omega
           · rw [hxa] at e; cases e
             refine ⟨cur, hh, ⟨cur[o + k]'(by omega), ?_⟩, frozen_of_row wr b _ cur _ hh, by omega⟩
             rw [cell_of_row wr b _ cur _ _ hh]; simp
         obtain ⟨z, hz⟩ := hx0
         have hblt := HXLT.out b o hxa hcc
         rw [hxa] at e0
         have HLOT := Lib.hid hlot; clear hlot
         have HXA := Lib.hid hxa; clear hxa
         have HCC := Lib.hid hcc; clear hcc
         have HCU := Lib.hid hcurx; clear hcurx
         go_wp2_with fail
         have i1 : (k : Int) < (x.n : Int) := by omega
         go_region_held3 (fun w' => w'.cell? ⟨w1.heap.size, 0, none⟩ = some (.slice (some ⟨b, o, none⟩) x.n x.c) ∧ w'.cell? ⟨w1.heap.size, 2, none⟩ = some (.int .i64 (x.no : Int)))
           (first | (go_split_ands; refine ⟨?_, ?_⟩ <;> first | assumption | go_keep) | go_keep)
           ((go_at_call 131; refine (HMK.out _).mono ?_; rintro e w3 ⟨rfl, hb3, hp3⟩; have q0 := cell_step0 (v := .slice (some ⟨b, o, none⟩) x.n x.c) (b := w1.heap.size) (o := 0) hb3 e0; have q1 := cell_step0 (v := .int .i64 (x.no : Int)) (b := w1.heap.size) (o := 2) hb3 e2; have q3 := cell_step0 (v := z) (b := b) (o := o + k) hb3 hz; have q4 : w3.frozen? ⟨b, o + k, none⟩ = false := (hb3.frozen (p := ⟨b, o + k, none⟩) (block_lt_of_cell hz)).trans hfz; have q6 : (w3.setCell ⟨b, o + k, none⟩ (.slice (some ⟨wr.heap.size, 0, none⟩) 1 1)).cell? ⟨w1.heap.size, 0, none⟩ = some (.slice (some ⟨b, o, none⟩) x.n x.c) := (World.cell?_setCell_far _ _ _ _ (by simp; omega)).trans q0; have q7 : (w3.setCell ⟨b, o + k, none⟩ (.slice (some ⟨wr.heap.size, 0, none⟩) 1 1)).cell? ⟨w1.heap.size, 2, none⟩ = some (.int .i64 (x.no : Int)) := (World.cell?_setCell_far _ _ _ _ (by simp; omega)).trans q1))
         all_goals
           go_wp2_with fail
           go_roundg (gk - 1)
           case measure => have := HK2.out; omega
           case rel =>
             have hb3' : Below wr.heap.size wr w3 := (Below.refl wr.heap.size wr).drew.trans hb3
             have hF3 : Fs (fun b => 0 < x.c ∧ ∃ o, x.a = some ⟨b, o, none⟩) w3 (w3.setCell ⟨b, o + k, none⟩ (.slice (some ⟨wr.heap.size, 0, none⟩) 1 1)) := Fs.set (S := fun b => 0 < x.c ∧ ∃ o, x.a = some ⟨b, o, none⟩) w3 ⟨HCC.out, o, HXA.out⟩ _
             have hF4 := (HF2.out.trans (Fs.below hb3')).trans hF3
             have hcu3 : w3.heap[b]? = some (.cells curx 25 (0, 0)) := by rw [hb3'.block b (block_lt_of_cell hz)]; exact HCU.out
             refine ⟨k + 1, by have := HK2.out; omega, by go_num, hF4, ?_⟩
             intro b' o' e k' hk'
             rw [HXA.out] at e
             cases e
             show ∃ v, (w3.setCell ⟨b, o + k, none⟩ (.slice (some ⟨wr.heap.size, 0, none⟩) 1 1)).cell? ⟨b, o + k', none⟩ = some v ∧ _
             by_cases ek : k' = k
             · subst ek
               refine ⟨_, World.cell?_setCell_same _ _ _ q3, ?_⟩
               exact (markPL B).set w3 b _ x.no _ _ curx hcu3 ⟨wr.heap.size, by omega, rfl, hp3⟩
             · rw [World.cell?_setCell_other _ _ _ _ (fun e => ek (by injection e; omega))]
               obtain ⟨v, hv1, hv2⟩ := HD2.out b o HXA.out k' (by omega)
               exact ⟨v, cell_step0 hb3' hv1, (markPL B).set w3 b _ x.no _ _ curx hcu3 ((markPL B).below hv2 hb3')⟩
       · obtain rfl : k = x.n := by have := HK2.out; omega
         go_wp2_with fail
         go_roundg gO
         case measure => have := HK.out; have := HGO.out; omega
         case rel =>
           have hxb : ∀ b', b' < wo.heap.size → (0 < x.c ∧ ∃ o, x.a = some ⟨b', o, none⟩) → Blk l b' := fun b' _ ⟨hc, o, e⟩ => ⟨x, HXM.out, hc, o, e⟩
           have hF4 : Fs (Blk l) w wr := (HF.out.trans HFO.out).trans (HF2.out.mono hxb)
           refine ⟨i + 1, by have := HK.out; have := HGO.out; omega, by go_num, hF4, ?_⟩
           intro j y hj hy
           by_cases ej : j = i
           · subst ej
             have hyx : y = x := by have := HX.out; rw [hy] at this; exact Option.some.inj this
             subst hyx
             exact MF.of_cells ((HL.out.lot j y hy).fs hF4) HD2.out
           · have h1 := (HD.out j y (by omega) hy).step (markPL B) HBO.out
             refine h1.fs (markPL B) HF2.out (fun b o e hc _ ⟨hxc, o2, e2⟩ => HL.out.apart j i y x ej hy HX.out b o o2 hc hxc e e2) ?_
             intro b cur hB _ ⟨hxc, o2, e2⟩
             have := HL.out.lt b ⟨x, HXM.out, hxc, o2, e2⟩
             omega
   · obtain rfl : i = l.length := by have := HK.out; omega
     go_wp2_with fail
     go_end0
     exact ⟨⟨_, rfl⟩, HF.out, ⟨⟨HE.out, HL.out.fs HF.out⟩, fun j x hx => HD.out j x (List.getElem?_eq_some_iff.1 hx).1 hx⟩⟩

theorem appLotL {ops : Array Oper} {rest : List Oper} {o : Oper} {act : Act} {Q : Exit → Act → World → Prop} (w : World) (hgd : o.guard = none) (s x : Operand)
   (ho : o.op = .call { callee := .builtin .append, args := #[s, x], argTypes := #[22, 22] })
   (base : Nat) (a : Option Addr) (n c : Nat) (vals : List Value) (hs : act.eval s = .slice a n c) (hf : FilledBy 25 w base a n c vals) (xb : Nat) (u : Value) (hu : u.oneCell' = true) (hx : act.eval x = .slice (some ⟨xb, 0, none⟩) 1 1)
   (hc : w.cell? ⟨xb, 0, none⟩ = some u) (hlen : n < 1000000) (hbase : base ≤ w.heap.size)
   (h : ∀ a' c' w', FilledBy 25 w' base a' (n + 1) c' (vals ++ [u]) → ((∃ b off, a = some ⟨b, off, none⟩ ∧ a' = a ∧ c' = c ∧ n < c ∧ w' = w.setCell ⟨b, off + n, none⟩ u) ∨ (∃ g, a' = some ⟨g, 0, none⟩ ∧ w.heap.size ≤ g ∧ Below w.heap.size w w')) → wpList Tryz.prog ops Q rest (act.put o.dst (.slice a' (n + 1) c')) w') : wpList Tryz.prog ops Q (o :: rest) act w := by
 obtain ⟨i0, hi, hz0, hz1, hz2⟩ := info_parts infoInts
 exact appLot w hgd s x ho Tryz.underlying22 hi hz0 hz1 hz2 rfl (by decide) base a n c vals hs hf xb u hx hc hu hlen hbase h

set_option maxHeartbeats 1000000 in
theorem growIntList_any (B n base : Nat) (vB vI vL : Value) (l : List Held) (w : World) (h : BookRow w B n vB vI vL) (hR : Full (PL B) 25 149 w base B vL l) (hbase : base ≤ w.heap.size) (hno : ∀ x, x ∈ l → x.no ≤ 1000000 ∧ x.n ≤ 900000) :
   Calls Tryz.prog 78 #[.pointer (some ⟨B, 0, none⟩)] w (fun e w' => (∃ v, e = .returned v) ∧ ∃ (a : Option Addr) (c : Nat) (l' : List Held), vL = .slice a l.length c ∧ BookRow w' B n vB vI vL ∧ Fs (fun b => Blk l b ∨ ∃ o, a = some ⟨b, o, none⟩) w w' ∧ Long (PL B) 25 149 w' base B vL l.length l') := by
 obtain ⟨⟨hI, hL⟩, hM⟩ := hR
 obtain ⟨a, c, rfl, hlc, hcm, hpos⟩ := hI.form
 have HP := Lib.hid hpos; clear hpos
 have HL := Lib.hid hL; clear hL
 have HN := Lib.hid hno; clear hno
 have HC := Lib.hid hlc; clear hlc
 have HM := Lib.hid hcm; clear hcm
 have HB0 := Lib.hid hbase; clear hbase
 obtain ⟨w1, hw1⟩ : ∃ w1, w1 = w := ⟨_, rfl⟩
 have HI0 := Lib.hid (And.intro h (And.intro hI hM)); clear h hI hM hw1
 go_enter Tryz.func78, Tryz.ntmps78
 go_wp2_with fail
 go_loopg [2, 3, 4, 5] l.length (fun g' s2 s3 s4 s5 wr => ∃ (i : Nat) (l' : List Held), i + g' = l.length ∧ s2 = .int .i64 i ∧ BookRow wr B n vB vI (.slice a l.length c) ∧ Helds 149 wr (B + 1) (.slice a l.length c) l' ∧ w.heap.size ≤ wr.heap.size ∧ GrewTo (PL B) 25 w wr base B a l l' i)
 case atStart => exact ⟨0, l, by omega, rfl, HI0.out.1, HI0.out.2.1, Nat.le_refl _, ⟨rfl, Fs.refl _ _, HI0.out.2.2, fun j x y hj => by omega, fun j x y _ hx hy => by rw [hx] at hy; exact (Option.some.inj hy).symm⟩⟩
 case round =>
   obtain ⟨i, l', hk, rfl, hR, hE, hsz, hA⟩ := hrel
   have hll := hA.len
   obtain ⟨w1, rfl⟩ : ∃ w1, w1 = wr := ⟨_, rfl⟩
   have HK := Lib.hid hk; clear hk
   have c2 := hR.cells.2.2.2
   have HR := Lib.hid hR; clear hR
   have HA := Lib.hid hA; clear hA
   have HLL := Lib.hid hll; clear hll
   by_cases hlt : i < l.length
   · obtain ⟨x, hx⟩ : ∃ x, l'[i]? = some x := ⟨l'[i]'(by rw [HLL.out]; exact hlt), by simp⟩
     obtain ⟨g, cur, rfl, hgb, hgh, _⟩ := HP.out (by omega)
     have hgl := (Array.getElem?_eq_some_iff.1 hgh).1
     clear hgh
     rw [← HLL.out] at hE
     obtain ⟨d0, d1, d2, _⟩ := hE.cell hx
     rw [HLL.out] at hE
     have HE := Lib.hid hE; clear hE
     have HX := Lib.hid hx; clear hx
     have hlen2 := HC.out
     have hcm2 := HM.out
     unfold maxLen at hcm2
     have hxl : l[i]? = some x := by
       have h1 : l[i]? = some l[i] := by simp
       have := HA.out.yet i _ x (Nat.le_refl _) h1 HX.out
       rw [this]; exact h1
     have hxm : x ∈ l := List.mem_of_getElem? hxl
     obtain ⟨hn1, hn2⟩ := HN.out x hxm
     have hfx := HA.out.old i x hxl
     have HXL := Lib.hid (And.intro hxl hxm); clear hxl hxm
     have hgB : B < w1.heap.size := (Array.getElem?_eq_some_iff.1 (show w1.heap[B]? = some _ from HR.out)).1
     obtain ⟨wo, hwo⟩ : ∃ wo, wo = w1.alloc (.cells #[Value.slice x.a x.n x.c, Value.slice x.la x.ln x.lc, Value.int IntKind.i64 ↑x.no] 149) := ⟨_, rfl⟩
     have hvr : VRow wo w1.heap.size 149 x.cells := by rw [hwo]; exact heap_alloc_new w1 _
     have hbo : Below w1.heap.size w1 wo := by rw [hwo]; exact (Below.refl _ _).alloc (Nat.le_refl _) _
     have hxlt : ∀ b o, x.a = some ⟨b, o, none⟩ → 0 < x.c → b < w1.heap.size := fun b o e hc => by have := HL.out.lt b ⟨x, HXL.out.2, hc, o, e⟩; omega
     have hso : w1.heap.size < wo.heap.size := (Array.getElem?_eq_some_iff.1 (show wo.heap[w1.heap.size]? = some _ from hvr)).1
     have hg0 : Grow (PL B) 25 wo wo base x 0 x.a x.c := Grow.start (hfx.step (markPL B) hbo)
     have HG0 := Lib.hid hg0; clear hg0 hfx
     have HBO := Lib.hid hbo; clear hbo
     have HXLT := Lib.hid hxlt; clear hxlt
     go_wp2_with fail
     rw [← hwo]
     have HVR := Lib.hid hvr; clear hvr
     obtain ⟨gO, hgO⟩ : ∃ m, m = gk - 1 := ⟨_, rfl⟩
     have HGO := Lib.hid hgO; clear hgO
     have HWO := Lib.hid hwo; clear hwo
     go_loopg [4, 5] 40 (fun g' s4 s5 wr => ∃ (k : Nat) (a' : Option Addr) (c' : Nat), k + g' = 40 ∧ s5 = .int .i64 k ∧ s4 = .slice a' (x.n + k) c' ∧ Grow (PL B) 25 wo wr base x k a' c')
     case atStart => exact ⟨0, x.a, x.c, by omega, rfl, rfl, HG0.out⟩
     case round =>
       obtain ⟨k, a', c', hk2, rfl, rfl, hG⟩ := hrel
       have HK2 := Lib.hid hk2; clear hk2
       have hv2 : VRow wr w1.heap.size 149 x.cells := by
         unfold VRow
         rw [hG.fs.fr.2 w1.heap.size hso (fun h => by
           rcases h with h | ⟨hc, o, e⟩
           · omega
           · have := HXLT.out _ o e hc; omega)]
         exact HVR.out
       have e2 : wr.cell? ⟨w1.heap.size, 2, none⟩ = some (.int .i64 (x.no : Int)) := VRow.cell hv2 rfl
       have hwr := hG.fs.fr.1
       have HG := Lib.hid hG; clear hG
       have HV2 := Lib.hid hv2; clear hv2
       by_cases hlt2 : k < 40
       · have hb0 := HB0.out
         have HMK := Lib.hid (fun W => markL_any x.no W)
         obtain ⟨vals, hfv, hpv⟩ := HG.out.long
         have HFV := Lib.hid hfv; clear hfv
         have HPV := Lib.hid hpv; clear hpv
         go_wp2_with fail
         refine (HMK.out _).mono ?_
         rintro e w3 ⟨rfl, hb3, hp3⟩
         have HB3 := Lib.hid hb3; clear hb3
         have HP3 := Lib.hid hp3; clear hp3
         have hs3 := HB3.out.size
         have hba : Below w3.heap.size w3 (w3.alloc (.cells #[.slice (some ⟨wr.heap.size, 0, none⟩) 1 1] 25)) := (Below.refl _ _).alloc (Nat.le_refl _) _
         have HBA := Lib.hid hba; clear hba
         go_wp2_with (at_builtin; refine appLotL _ rfl _ _ rfl base a' (x.n + k) c' vals rfl ((HFV.out.step HB3.out).step HBA.out) w3.heap.size (.slice (some ⟨wr.heap.size, 0, none⟩) 1 1) rfl rfl (by simp [go_sem]) (by omega) (by simp; omega) ?_)
         intro a2 c2' w2 hf2 hd2
         have hpl : PL B w3 x.no (.slice (some ⟨wr.heap.size, 0, none⟩) 1 1) := ⟨wr.heap.size, by omega, rfl, HP3.out⟩
         have hnx : Grow (PL B) 25 wo w2 base x (k + 1) a2 c2' := ((HG.out.below (markPL B) HB3.out).below (markPL B) HBA.out).next (markPL B) (fun b o e hc => Nat.lt_trans (HXLT.out b o e hc) hso) (fun v hv => (markPL B).below ((markPL B).below (HPV.out v hv) HB3.out) HBA.out) ((markPL B).below hpl HBA.out) hf2 (by rw [(show (w3.alloc (.cells #[.slice (some ⟨wr.heap.size, 0, none⟩) 1 1] 25)).heap.size = w3.heap.size + 1 from by simp)]; exact hd2)
         have HNX := Lib.hid hnx; clear hnx hf2 hd2 hpl
         go_wp2_with fail
         go_roundg (gk - 1)
         case measure => have := HK2.out; omega
         case rel => exact ⟨k + 1, a2, c2', by have := HK2.out; omega, by go_num, rfl, HNX.out⟩
       · obtain rfl : k = 40 := by have := HK2.out; omega
         have hS : ∀ b, B ≤ b → b < w1.heap.size → ¬ (wo.heap.size ≤ b ∨ (0 < x.c ∧ ∃ o, x.a = some ⟨b, o, none⟩)) := fun b h1 h2 h => by
           rcases h with h | ⟨hc, o, e⟩
           · omega
           · have := HL.out.lt b ⟨x, HXL.out.2, hc, o, e⟩; omega
         have hfr : Fr (fun b => ¬ (B ≤ b ∧ b < w1.heap.size)) w1 wr := by
           refine ⟨by omega, fun b hb hn => ?_⟩
           have hn' : B ≤ b ∧ b < w1.heap.size := by
             by_cases h : B ≤ b ∧ b < w1.heap.size
             · exact h
             · exact absurd h hn
           rw [HG.out.fs.fr.2 b (by omega) (hS b hn'.1 hn'.2)]
           exact HBO.out.block b hn'.2
         have hR2 := HR.out.fr hfr (fun h => h ⟨Nat.le_refl _, hgB⟩)
         have hE2 := HE.out.fr hfr (fun b hb ⟨_, hc⟩ h => h ⟨by omega, (Array.getElem?_eq_some_iff.1 hc).1⟩)
         have c2w := hR2.cells.2.2.2
         have hgT : ∃ cur, wr.heap[g]? = some (.cells cur 149 (0, 0)) := by
           obtain ⟨_, h2⟩ := hE2
           rcases h2 with ⟨e, _⟩ | ⟨g', cap, cur, e, hg, hh, _⟩
           · injection e with e1; cases e1
           · injection e with e1; cases e1; exact ⟨cur, hh⟩
         have HGT := Lib.hid hgT; clear hgT
         rw [← HLL.out] at hE2
         obtain ⟨d0w, d1w, d2w, d3w⟩ := hE2.cell HX.out
         have hput := hE2.put HX.out a' (x.n + 40) c'
         have HPUT := Lib.hid hput; clear hput
         have HE2 := Lib.hid hE2; clear hE2
         have HR2 := Lib.hid hR2; clear hR2
         clear hfr hS
         have d3w' := d3w (i * 3 + 1)
         clear d3w
         rw [HLL.out] at HPUT
         have hst := HA.out.step (HT := 149) (by decide) (markPL B) HBO.out HL.out (o := i * 3 + 1) hgb hgl HGT.out HXL.out.1 HG.out (.slice a' (x.n + 40) c')
         have HST := Lib.hid hst; clear hst
         have hR3 : BookRow (wr.setCell ⟨g, i * 3 + 1, none⟩ (.slice a' (x.n + 40) c')) B n vB vI (.slice (some ⟨g, 0, none⟩) l.length c) := HR2.out.fr (Fr.set (S := fun b => b = g) wr ⟨g, i * 3 + 1, none⟩ rfl _) (fun e => by have e' : B = g := e; omega)
         have HR3 := Lib.hid hR3; clear hR3
         go_wp2_with fail
         go_roundg gO
         case measure => have := HK.out; have := HGO.out; omega
         case rel => exact ⟨i + 1, _, by have := HK.out; have := HGO.out; omega, by go_num, HR3.out, HPUT.out, by simp; omega, HST.out⟩
   · obtain rfl : i = l.length := by have := HK.out; omega
     go_wp2_with fail
     go_end0
     exact ⟨⟨_, rfl⟩, _, _, l', rfl, HR.out, HA.out.fs, HA.out.long hE HN.out⟩

set_option maxHeartbeats 2000000 in
theorem lookIntList_any (B n base N : Nat) (vB vI vL : Value) (l : List Held) (w : World) (h : BookRow w B n vB vI vL) (hR : Long (PL B) 25 149 w base B vL N l) :
   Calls Tryz.prog 87 #[.pointer (some ⟨B, 0, none⟩)] w (fun e w' => e = .returned (.bool true) ∧ Below w.heap.size w w') := by
 have hI := hR.held
 obtain ⟨a, c, rfl, hlc, hcm, hpos⟩ := hI.form
 have c2 := h.cells.2.2.2
 have HR := Lib.hid hR; clear hR
 have HH := Lib.hid (And.intro h hI); clear h hI
 have HP := Lib.hid hpos; clear hpos
 have HC := Lib.hid hlc; clear hlc
 have HM := Lib.hid hcm; clear hcm
 go_enter Tryz.func87, Tryz.ntmps87
 go_wp2_with fail
 go_loopg [3, 4, 5] l.length (fun g' s3 s4 s5 wr => ∃ i : Nat, i + g' = l.length ∧ s3 = .int .i64 i ∧ Below w.heap.size w wr)
 case atStart => exact ⟨0, by omega, rfl, Below.refl _ _⟩
 case round =>
   obtain ⟨i, hk, rfl, hB⟩ := hrel
   obtain ⟨w1, rfl⟩ : ∃ w1, w1 = wr := ⟨_, rfl⟩
   have HK := Lib.hid hk; clear hk
   have c2w := cell_step0 hB c2
   have HB := Lib.hid hB; clear hB
   by_cases hlt : i < l.length
   · obtain ⟨x, hx⟩ : ∃ x, l[i]? = some x := ⟨l[i], by simp [hlt]⟩
     have hxm : x ∈ l := List.mem_of_getElem? hx
     obtain ⟨g, cur, rfl, _⟩ := HP.out (by omega)
     obtain ⟨d0, d1, d2, _⟩ := HH.out.2.cell hx
     replace d0 := cell_step0 HB.out d0
     replace d1 := cell_step0 HB.out d1
     replace d2 := cell_step0 HB.out d2
     have hlk := HR.out.looked x hxm
     obtain ⟨hn1, hn2⟩ := HR.out.no x hxm
     clear hx hxm
     obtain ⟨ln, hln⟩ : ∃ ln, ln = x.n + 40 := ⟨_, rfl⟩
     have hle := hlk.ln
     have hlo := hlk.long
     have hsh := hlk.short
     rw [hle, ← hln] at hlo d1
     clear hlk hle
     have HLO := Lib.hid hlo; clear hlo
     have HSH := Lib.hid hsh; clear hsh
     have e5 : ((ln : Int) != (x.n : Int) + 40) = false := by simp; omega
     have hlen2 := HC.out
     have hcm2 := HM.out
     unfold maxLen at hcm2
     have hln3 : ln ≤ 1000000 := by omega
     have HLN := Lib.hid hln; clear hln
     obtain ⟨wo, hwo⟩ : ∃ wo, wo = w1.alloc (.cells #[Value.slice x.a x.n x.c, Value.slice x.la ln x.lc, Value.int IntKind.i64 ↑x.no] 149) := ⟨_, rfl⟩
     have hbo : Below w1.heap.size w1 wo := by rw [hwo]; exact (Below.refl _ _).alloc (Nat.le_refl _) _
     have hvr : VRow wo w1.heap.size 149 [Value.slice x.a x.n x.c, Value.slice x.la ln x.lc, Value.int IntKind.i64 ↑x.no] := by rw [hwo]; exact heap_alloc_new w1 _
     have hBw : Below w.heap.size w wo := HB.out.trans (hbo.mono HB.out.size)
     have HBW := Lib.hid hBw; clear hBw hbo
     go_wp2_with fail
     rw [← hwo]
     have HVR := Lib.hid hvr; clear hvr
     obtain ⟨gO, hgO⟩ : ∃ m, m = gk - 1 := ⟨_, rfl⟩
     have HGO := Lib.hid hgO; clear hgO
     clear hwo e5
     go_loopg [5] ln (fun g' s5 wr => ∃ k : Nat, k + g' = ln ∧ s5 = .int .i64 k ∧ Below wo.heap.size wo wr)
     case atStart => exact ⟨0, by omega, rfl, Below.refl _ _⟩
     case round =>
       obtain ⟨k, hk2, rfl, hB2⟩ := hrel
       have HK2 := Lib.hid hk2; clear hk2
       have hv2 := HVR.out.below hB2 HVR.out.lt
       have e0 : wr.cell? ⟨w1.heap.size, 0, none⟩ = some (.slice x.a x.n x.c) := VRow.cell hv2 rfl
       have e1 : wr.cell? ⟨w1.heap.size, 1, none⟩ = some (.slice x.la ln x.lc) := VRow.cell hv2 rfl
       have e2 : wr.cell? ⟨w1.heap.size, 2, none⟩ = some (.int .i64 (x.no : Int)) := VRow.cell hv2 rfl
       clear hv2
       have hBt := HBW.out.trans (hB2.mono HBW.out.size)
       by_cases hlt2 : k < ln
       · obtain ⟨b, o, v, hxa, hc1, hp1⟩ := (HLO.out.step (markPL B) hBt).cells hlt2
         rw [hxa] at e1
         clear hxa
         have hq1 : ∀ m, Calls Tryz.prog 140 #[v, .int .i64 (x.no : Int)] (wr.drewN m) (fun e w' => e = .returned (.bool true) ∧ w' = wr.drewN m) := fun m => isL_any B v x.no _ hp1
         have HQ1 := Lib.hid hq1; clear hq1 hp1
         have i1 : (k : Int) < (ln : Int) := by omega
         by_cases hlt3 : k < x.n
         · obtain ⟨b2, o2, u, hxa2, hc2, hp2⟩ := (HSH.out.step (markPL B) hBt).cells hlt3
           rw [hxa2] at e0
           clear hxa2
           have hq2 : ∀ m, Calls Tryz.prog 140 #[u, .int .i64 (x.no : Int)] (wr.drewN m) (fun e w' => e = .returned (.bool true) ∧ w' = wr.drewN m) := fun m => isL_any B u x.no _ hp2
           have HQ2 := Lib.hid hq2; clear hq2 hp2
           have i3 : (k : Int) < (x.n : Int) := by omega
           have HBT := Lib.hid hBt; clear hBt
           have HB2 := Lib.hid hB2; clear hB2
           go_wp2_with fail
           go_quiet ((go_at_call 140; first | with_reducible exact Calls.quiet_of_same (HQ1.out _) | with_reducible exact Calls.quiet_of_same (HQ2.out _)))
           go_wp2_with fail
           go_roundg (gk - 1)
           case measure => have := HK2.out; omega
           case rel => exact ⟨k + 1, by have := HK2.out; omega, by go_num, below_drewN HB2.out _⟩
         · have i3 : decide ((k : Int) < (x.n : Int)) = false := by simp; omega
           have i4 : decide (k < x.n) = false := by simp; omega
           have HBT := Lib.hid hBt; clear hBt
           have HB2 := Lib.hid hB2; clear hB2
           go_wp2_with fail
           go_quiet ((go_at_call 140; with_reducible exact Calls.quiet_of_same (HQ1.out _)))
           go_wp2_with fail
           go_roundg (gk - 1)
           case measure => have := HK2.out; omega
           case rel => exact ⟨k + 1, by have := HK2.out; omega, by go_num, below_drewN HB2.out _⟩
       · obtain rfl : k = ln := by have := HK2.out; omega
         have HBT := Lib.hid hBt; clear hBt
         have HB2 := Lib.hid hB2; clear hB2
         go_wp2_with fail
         go_roundg gO
         case measure => have := HK.out; have := HGO.out; omega
         case rel => exact ⟨i + 1, by have := HK.out; have := HGO.out; omega, by go_num, HBT.out⟩
   · obtain rfl : i = l.length := by have := HK.out; omega
     go_wp2_with fail
     go_ret
     exact ⟨rfl, HB.out⟩
end Go.Proofs.YtkddkkcfpnndlaaGreatDoor
