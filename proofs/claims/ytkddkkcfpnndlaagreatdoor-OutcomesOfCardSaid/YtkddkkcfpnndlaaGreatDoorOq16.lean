/- Walks: a search goes. Walks: paths.More. -/
import Derived.Test.YtkddkkcfpnndlaaGreatDoorOq13
import Derived.Test.YtkddkkcfpnndlaaGreatDoorOq02
import Derived.Deep.RegionLaw
import Derived.ScopeJumps
namespace Go.Proofs.YtkddkkcfpnndlaaGreatDoor
open Go.RowKit

theorem app1wp {o : Oper} {a : Act} {K : Act → World → Prop} {Q : Exit → Act → World → Prop} (w : World) (s x : Operand)
   (ho : o.op = .call { callee := .builtin .append, args := #[s, x], argTypes := #[25, 25] })
   (base : Nat) (v : Value) (xs : List Int) (hs : a.eval s = v) (hown : Own w base v xs) (b off c : Nat) (y : Int) (hx : a.eval x = .slice (some ⟨b, off, none⟩) 1 c)
   (hc : w.cell? ⟨b, off, none⟩ = some (.int .i64 y)) (m : Nat) (hm : xs.length = m) (hlen : m < 17592186044000) (hbase : base ≤ w.heap.size)
   (h : ∀ va vc w', Own w' base (.slice va (m + 1) vc) (xs ++ [y]) → Below base w w' → w.grownBy w' v.ownBlock → ((Value.slice va (m + 1) vc).ownBlock = v.ownBlock ∨ (Value.slice va (m + 1) vc).ownBlock = some w.heap.size) → K (a.put o.dst (.slice va (m + 1) vc)) w') : o.wp Tryz.prog a w K Q := by
 subst hm
 obtain ⟨i0, hi, hz0, hz1, hz2⟩ := info_parts infoInt
 have hnews : ∀ j u, [Value.int .i64 y][j]? = some u → w.cell? ((⟨b, off, none⟩ : Addr).add j) = some u := by
   intro j u hu
   cases j with
   | zero => simp at hu; subst hu; simpa [Addr.add] using hc
   | succ j => simp at hu
 obtain ⟨v', w', hr, h2, h3, h4, h5⟩ := run_append_own_at (P := Tryz.prog) (w := w) base 25 o.type 3 i0 (.int .i64 0) 1 8 Tryz.underlying25 hi hz0 hz1 hz2 rfl (by decide) v xs.length _ hown ⟨b, off, none⟩ 1 c [.int .i64 y] rfl hnews
   (by intro u hu; simp at hu; subst hu; rfl) (by unfold maxLen; omega) (by omega) hbase
 unfold Oper.wp execOp
 simp only [ho, resolve, invoke, builtin, Sem.run_bind, Sem.run_pure, Result.andThen_ok, List.map_toArray, List.map_cons, List.map_nil, hs, hx, hr]
 have h6 : Own w' base v' (xs ++ [y]) := by
   unfold Own
   rw [List.map_append, List.length_append]; exact h2
 obtain ⟨va, vc, rfl, _, _⟩ := h6.myRow
 have e : (xs ++ [y]).length = xs.length + 1 := by rw [List.length_append]; rfl
 rw [e] at h6 h5 ⊢
 exact h va vc w' h6 ((Below.refl base w).grown h3 hbase fun k hk => (World.ownsRow.lt hown k hk).1) h3 h5

theorem app1step {ops : Array Oper} {o : Oper} {a : Act} {K : Act → World → Prop} {Q : Exit → Act → World → Prop} {E : Prop} (w : World) (hgd : o.guard = none) (s x : Operand)
   (ho : o.op = .call { callee := .builtin .append, args := #[s, x], argTypes := #[25, 25] })
   (base : Nat) (v : Value) (xs : List Int) (hs : a.eval s = v) (hown : Own w base v xs) (b off c : Nat) (y : Int) (hx : a.eval x = .slice (some ⟨b, off, none⟩) 1 c)
   (hc : w.cell? ⟨b, off, none⟩ = some (.int .i64 y)) (m : Nat) (hm : xs.length = m) (hlen : m < 17592186044000) (hbase : base ≤ w.heap.size)
   (h : ∀ va vc w', Own w' base (.slice va (m + 1) vc) (xs ++ [y]) → Below base w w' → w.grownBy w' v.ownBlock → ((Value.slice va (m + 1) vc).ownBlock = v.ownBlock ∨ (Value.slice va (m + 1) vc).ownBlock = some w.heap.size) → K (a.put o.dst (.slice va (m + 1) vc)) w') : if Region.wanted o (yielded ops a.tmps) = true then Oper.wp Tryz.prog o a w K Q else E := by
 have hw : Region.wanted o (yielded ops a.tmps) = true := by simp [Region.wanted, hgd]
 rw [if_pos hw]
 exact app1wp w s x ho base v xs hs hown b off c y hx hc m hm hlen hbase h

theorem Own.apart {w : World} {base : Nat} {v : Value} {xs : List Int} (h : Own w base v xs) {a : Addr} (ha : v.ownBlock ≠ some a.block) (u : Value) : Own (w.setCell a u) base v xs := by
 obtain ⟨h1, h2⟩ := h
 refine ⟨h1, ?_⟩
 rcases h2 with h2 | ⟨g, cap, cur, hv, hg, hh, r⟩
 · exact .inl h2
 · subst hv
   exact .inr ⟨g, cap, cur, rfl, hg, by rw [heap_setCell_other w a g u (fun e => ha (by rw [← e]; rfl))]; exact hh, r⟩
theorem VRow.grown {w w' : World} {B : Nat} {T : TypeId} {vals : List Value} {row : Option Nat} (h : VRow w B T vals) (hg : w.grownBy w' row) (hne : row ≠ some B) : VRow w' B T vals := by
 unfold VRow; rw [hg.block B h.lt (fun e => hne e.symm)]; exact h

theorem wp_scope_ahead {P : Program} {a : Act} {w : World} {Q : Exit → Act → World → Prop} {c rest : Code} (l : Nat) (hf : findLabel c l = some rest)
   (h : c.wp P (Exit.jump l (fun a w => rest.wp P (Exit.noGoto Q) a w) Q) a w) : (Code.scope c).wp P Q a w :=
 wp_scope_jumps l _ (fun _ _ => 0) hf h fun a w hJ => Code.wp_mono (fun e a w he => by
   cases e with
   | goto l' => exact he.elim
   | normal => exact he
   | exit id => exact he
   | ret => exact he
   | panic ch => exact he
   | outgrown => exact he) hJ
theorem jump_ret {l : Nat} {J : Act → World → Prop} {Q : Exit → Act → World → Prop} {a : Act} {w : World} : Exit.jump l J Q .ret a w = Q .ret a w := rfl
theorem jump_goto {l : Nat} {J : Act → World → Prop} {Q : Exit → Act → World → Prop} {a : Act} {w : World} (h : J a w) : Exit.jump l J Q (.goto l) a w := ⟨rfl, h⟩

def nbOf (G : List (List Nat)) (i : Nat) : List Nat := G[i]?.getD []
def item0 (o : Option Nat) : Int := ((o.getD 0 : Nat) : Int)

def Gone (B : Nat) (g h : Value) (hold : Nat → Nat) (r : Way.St × Option Nat) (w : World) (e : Ending) (w' : World) : Prop :=
 e = .returned (.tuple #[.int .i64 (item0 r.2), .bool r.2.isSome]) ∧ Srch w' B g h r.1 hold ∧ Below B w w'

set_option maxRecDepth 100000 in
set_option maxHeartbeats 2000000 in
theorem goes_any (all : Bool) (B : Nat) (ga : Option Addr) (gn gc : Nat) (hv : Value) (start : Nat) (G : List (List Nat)) (has : Nat → Option Nat) (hold : Nat → Nat) (w w0 : World)
   (hg : Rows w0 ga gn gc (G.map nats)) (hb0 : Below w0.heap.size w0 w) (hz : w0.heap.size ≤ B) (hBw : B + 1 < w.heap.size) (hS : Srch w B (.slice ga gn gc) hv ⟨[start], fun _ => 0⟩ hold)
   (hH : Way.Held (nbOf G) has hold) (h0 : has start = none) (hst : start < gn) (hm : ∀ x k, has x = some k → x < gn) (hG8 : ∀ l, l ∈ G → ∀ k, k ∈ l → k < 8) (hgn : gn ≤ 8) :
   Calls Tryz.prog 94 #[.pointer (some ⟨B + 1, 0, none⟩), .bool all] w (Gone B (.slice ga gn gc) hv hold (Way.goes (nbOf G) hold all 9 0 ⟨[start], fun _ => 0⟩) w) := by
 have HG := Lib.hid hg; clear hg
 have HB0 := Lib.hid hb0; clear hb0
 have HS := Lib.hid hS; clear hS
 have HH := Lib.hid (And.intro hH h0); clear hH h0
 have HM := Lib.hid (And.intro hm hG8); clear hm hG8
 have h8 : ∀ x k, has x = some k → k < 8 := fun x k e => by
   have hk := HH.out.1.fits x k e
   unfold nbOf at hk
   cases hGx : G[x]? with
   | none => rw [hGx] at hk; cases hk
   | some l => rw [hGx] at hk; exact HM.out.2 l (List.mem_of_getElem? hGx) k hk
 have H8 := Lib.hid h8; clear h8
 have HI0 := Lib.hid (Way.Inv.start (nb := nbOf G) (has := has) (start := start))
 obtain ⟨R, hR⟩ : ∃ R, R = Way.goes (nbOf G) hold all 9 0 ⟨[start], fun _ => 0⟩ := ⟨_, rfl⟩
 rw [← hR]
 have HR := Lib.hid hR; clear hR
 go_enter Tryz.func94, Tryz.ntmps94
 go_wp2_with fail
 refine wp_scope_ahead 0 rfl ?_
 go_wp2_with fail
 have HBR := Lib.hid (Below.refl B w)
 go_loopg [6] 9 (fun g' s6 wr => ∃ (n : Nat) (s : Way.St), n + g' = 9 ∧ s6 = .int .i64 n ∧ R = Way.goes (nbOf G) hold all g' n s ∧ Srch wr B (.slice ga gn gc) hv s hold ∧ Below B w wr ∧ Way.Inv (nbOf G) has start s)
 case atStart => exact ⟨0, _, by omega, rfl, HR.out, HS.out, HBR.out, HI0.out⟩
 case round =>
   obtain ⟨n, s, hn, rfl, hr, ⟨wv, hV, hO, hwv⟩, hB, hI⟩ := hrel
   have hlen : s.ws.length ≤ 9 := hI.length HH.out.1 H8.out
   obtain ⟨wa, wc, rfl, hwi⟩ := hO.ints (by simp [nats]; omega) (fun x hx => by
     obtain ⟨k, hk, rfl⟩ := List.mem_map.1 hx
     obtain ⟨j, hj⟩ := List.mem_iff_getElem?.1 hk
     have : k < gn := by
       cases j with
       | zero => rw [hI.head] at hj; cases hj; exact hst
       | succ j => obtain ⟨k', i, j', e1, _⟩ := hI.rest j k hj; exact HM.out.1 k k' e1
     omega)
   rw [show (nats s.ws).length = s.ws.length by simp [nats]] at hwi hV hwv hO
   have hbc : B + 1 < wr.heap.size := by have := hB.size; omega
   have c0 := hV.cell (k := 0) rfl
   have c2 := hV.cell (k := 2) rfl
   have HV := Lib.hid hV; clear hV
   have HO := Lib.hid hO; clear hO
   have HWV := Lib.hid hwv; clear hwv
   have HB := Lib.hid hB; clear hB
   have HI := Lib.hid hI; clear hI
   have HRR := Lib.hid hr; clear hr
   have HN := Lib.hid hn; clear hn
   by_cases hlt : n < s.ws.length
   · obtain ⟨who, hwho⟩ : ∃ who, s.ws[n]? = some who := ⟨_, List.getElem?_eq_getElem hlt⟩
     have hwl : who < gn := by
       cases n with
       | zero => rw [HI.out.head] at hwho; cases hwho; exact hst
       | succ j => obtain ⟨k', i, j', e1, _⟩ := HI.out.rest j who hwho; exact HM.out.1 who k' e1
     obtain ⟨wb, wo, rfl⟩ := hwi.addr (by omega)
     have cw := hwi.cell wb wo rfl n (who : Int) (by simp [nats, hwho])
     obtain ⟨row, hrow⟩ := HG.out.get hwl
     obtain ⟨bg, og, rfl⟩ := HG.out.addr (by omega)
     obtain ⟨la, ln, lc, hcl0, hli⟩ := HG.out.cell bg og rfl who row hrow
     have hcl : wr.cell? ⟨bg, og + who, none⟩ = some (.slice la ln lc) := by
       rw [(HB0.out.trans (HB.out.mono hz)).cell (p := ⟨bg, og + who, none⟩) (block_lt_of_cell hcl0)]; exact hcl0
     obtain ⟨L, hL, rfl⟩ : ∃ L, G[who]? = some L ∧ row = nats L := by
       rw [List.getElem?_map] at hrow
       cases hGw : G[who]? with
       | none => rw [hGw] at hrow; cases hrow
       | some L => rw [hGw] at hrow; cases hrow; exact ⟨L, rfl, rfl⟩
     have hnb : nbOf G who = L := by simp [nbOf, hL]
     have hL8 := HM.out.2 L (List.mem_of_getElem? hL)
     have hln : L.length = ln := by have := hli.len; simpa [nats] using this
     have hlb := hli.big
     have HROW := Lib.hid hrow; clear hrow
     have HCL0 := Lib.hid hcl0; clear hcl0
     have HLI := Lib.hid hli; clear hli
     have HL := Lib.hid hL; clear hL
     have HNB := Lib.hid hnb; clear hnb
     have HL8 := Lib.hid hL8; clear hL8
     have HLN := Lib.hid hln; clear hln
     have HWHO := Lib.hid hwho; clear hwho
     have HWI := Lib.hid hwi; clear hwi
     have i1 : (n : Int) < (s.ws.length : Int) := by omega
     have i2 : (who : Int) < (gn : Int) := by omega
     go_wp2_with fail
     go_quiet (fail)
     go_wp2_with fail
     have HS2 : Srch (wr.drewN nq) B (.slice (some ⟨bg, og, none⟩) gn gc) hv s hold := ⟨_, by simpa [VRow] using HV.out, by simpa [Own, World.ownsRow] using HO.out, HWV.out⟩
     have HSS := Lib.hid HS2; clear HS2
     have HB2 := Lib.hid (below_drewN HB.out nq)
     obtain ⟨go, rfl⟩ : ∃ go : Nat, go = gk := ⟨_, rfl⟩
     obtain ⟨wo1, rfl⟩ : ∃ wo1 : World, wo1 = wr := ⟨_, rfl⟩
     clear c0 c2 cw hcl
     go_loopg [32] ln (fun g' s32 wr => ∃ (j : Nat) (s1 : Way.St), j + g' = ln ∧ s32 = .int .i64 j ∧ Way.scan hold all who (L.take j) s = (s1, none) ∧ Srch wr B (.slice (some ⟨bg, og, none⟩) gn gc) hv s1 hold ∧ Below B w wr ∧ Way.Inv (nbOf G) has start s1 ∧ Way.Grows s s1)
     case atStart => exact ⟨0, s, by omega, rfl, rfl, HSS.out, HB2.out, HI.out, Way.Grows.refl _⟩
     case round =>
       obtain ⟨j, s1, hj, rfl, hsc, ⟨wv, hV, hO, hwv⟩, hB, hI, hG⟩ := hrel
       have HJ := Lib.hid hj; clear hj
       have HSC := Lib.hid hsc; clear hsc
       have hbc : B + 1 < wr.heap.size := by have := hB.size; omega
       have hlen1 : s1.ws.length ≤ 9 := hI.length HH.out.1 H8.out
       obtain ⟨wa, wc, rfl, hwi⟩ := hO.ints (by simp [nats]; omega) (fun x hx => by
         obtain ⟨k, hk, rfl⟩ := List.mem_map.1 hx
         obtain ⟨j, hj⟩ := List.mem_iff_getElem?.1 hk
         have : k < gn := by
           cases j with
           | zero => rw [hI.head] at hj; cases hj; exact hst
           | succ j => obtain ⟨k', i, j', e1, _⟩ := hI.rest j k hj; exact HM.out.1 k k' e1
         omega)
       rw [show (nats s1.ws).length = s1.ws.length by simp [nats]] at hwi hV hwv hO
       have hwho1 : s1.ws[n]? = some who := hG.at HWHO.out
       have hmem : who ∈ s1.ws := List.mem_of_getElem? hwho1
       have hnl : n < s1.ws.length := (List.getElem?_eq_some_iff.1 hwho1).1
       obtain ⟨wb, wo, rfl⟩ := hwi.addr (by omega)
       have cw := hwi.cell wb wo rfl n (who : Int) (by simp [nats, hwho1])
       have c2 := hV.cell (k := 2) rfl
       have HI1 := Lib.hid hI; clear hI
       have HG1 := Lib.hid hG; clear hG
       have HW1 := Lib.hid hwho1; clear hwho1
       have HME := Lib.hid hmem; clear hmem
       have HB3 := Lib.hid hB; clear hB
       have HO1 := Lib.hid hO; clear hO
       have HWV1 := Lib.hid hwv; clear hwv
       have i3 : (n : Int) < (s1.ws.length : Int) := by omega
       by_cases hlj : j < ln
       · obtain ⟨k, hk⟩ : ∃ k, L[j]? = some k := ⟨_, List.getElem?_eq_getElem (by rw [HLN.out]; exact hlj)⟩
         have hk8 : k < 8 := HL8.out k (List.mem_of_getElem? hk)
         have hkn : k ∈ nbOf G who := by rw [HNB.out]; exact List.mem_of_getElem? hk
         have hsn := Way.scan_snoc HSC.out k
         have htk : L.take (j + 1) = L.take j ++ [k] := by rw [List.take_add_one, hk]; rfl
         rw [← htk] at hsn
         have hI2 := HI1.out.step HH.out.1 HH.out.2 all HME.out hkn
         have hG2 := HG1.out.trans (Way.Grows.step hold all who s1 k)
         obtain ⟨lb, lo, rfl⟩ := HLI.out.addr (by omega)
         have hbb : lb < w0.heap.size := block_lt_of_cell (HLI.out.cell lb lo rfl j (k : Int) (by simp [nats, hk]))
         have hck : wr.cell? ⟨lb, lo + j, none⟩ = some (.int .i64 k) := by
           rw [(HB0.out.trans (HB3.out.mono hz)).cell (p := ⟨lb, lo + j, none⟩) hbb]
           exact HLI.out.cell lb lo rfl j (k : Int) (by simp [nats, hk])
         have cc := hV.cell (sCells_came (came := s1.came) (hold := hold) hk8)
         have HSN := Lib.hid hsn; clear hsn
         have HTK := Lib.hid htk; clear htk
         have HI2 := Lib.hid hI2; clear hI2
         have HG2 := Lib.hid hG2; clear hG2
         have HK := Lib.hid hk; clear hk
         have HKN := Lib.hid hkn; clear hkn
         have i4 : (j : Int) < (ln : Int) := by omega
         have i5 : (k : Int) < 8 := by omega
         obtain ⟨cm, hcm⟩ : ∃ cm, cm = s1.came k := ⟨_, rfl⟩
         rw [← hcm] at cc
         have HCM := Lib.hid hcm; clear hcm
         unfold iv at cc
         by_cases h1 : 0 < cm
         · have hst1 : Way.step hold all who s1 k = (s1, none) := by unfold Way.step; rw [if_pos (by rw [← HCM.out]; exact h1)]
           have HST := Lib.hid hst1; clear hst1
           have HV1 := Lib.hid hV; clear hV
           go_wp2_with fail
           go_roundg (gk - 1)
           case measure => have := HJ.out; omega
           case rel => exact ⟨j + 1, s1, by have := HJ.out; omega, by go_num, by rw [HSN.out, HST.out], ⟨_, HV1.out, HO1.out, HWV1.out⟩, HB3.out, HI1.out, HG1.out⟩
         · obtain rfl : cm = 0 := by omega
           have hset : VRow (wr.setCell ⟨B + 1, 3 + k, none⟩ (.int .i64 ((who : Int) + 1))) (B + 1) 116 (sCells (.slice (some ⟨bg, og, none⟩) gn gc) hv (.slice (some ⟨wb, wo, none⟩) s1.ws.length wc) (Way.mark s1.came k (who + 1)) hold) := by
             have := hV.set (3 + k) (iv (who + 1))
             rw [sCells_setCame hk8] at this
             exact this
           have hhc := hset.cell (sCells_hold (came := Way.mark s1.came k (who + 1)) (hold := hold) hk8)
           have hc2 := hset.cell (k := 2) rfl
           have hfz := hV.frozen (3 + k)
           have HV1 := Lib.hid hV; clear hV
           have HSET := Lib.hid hset; clear hset
           have hw1 : IntKind.i64.wrap ((who : Int) + 1) = (who : Int) + 1 := IntWalk.i64_in _ (by omega)
           obtain ⟨hd, hhd⟩ : ∃ hd, hd = hold k := ⟨_, rfl⟩
           rw [← hhd] at hhc
           have HHD := Lib.hid hhd; clear hhd
           unfold iv at hhc hc2
           have hoa := HO1.out.apart (a := ⟨B + 1, 3 + k, none⟩) HWV1.out (.int .i64 ((who : Int) + 1))
           have HOA := Lib.hid hoa; clear hoa
           by_cases h2 : 0 < hd
           · have hdl : hd ≤ gn := by
               have h4 := (HH.out.1.hold k (hd - 1)).1 (by rw [← HHD.out]; omega)
               have := HM.out.1 _ _ h4
               omega
             have hw2 : IntKind.i64.wrap ((hd : Int) - 1) = (hd : Int) - 1 := IntWalk.i64_in _ (by omega)
             have h21 : 0 ≤ (hd : Int) - 1 := by omega
             go_wp2_with fail
             go_region
             go_wp2_with fail
             go_region_law (first | (refine app1step _ rfl _ _ rfl B (.slice (some ⟨wb, wo, none⟩) s1.ws.length wc) (nats s1.ws) ?_ ?_ wr.heap.size 0 1 ((hd : Int) - 1) ?_ ?_ s1.ws.length ?_ ?_ ?_ ?_; (focus go_simp); (focus (repeat (first | exact HOA.out | refine Own.drew ?_ | refine Own.alloc ?_ _))); (focus go_simp); (focus (simp [go_sem])); (focus (simp [nats])); (focus omega); (focus (simp; omega)); intro va vc w' hown' hb' hgr' hat'; have hV' := ((((HSET.out.alloc (.cells #[.int .i64 ((hd : Int) - 1)] 3)).drew).drew).grown hgr' HWV1.out); have c2' := hV'.cell (k := 2) rfl; have f2' := hV'.frozen 2; have hset' := hV'.set 2 (.slice va (s1.ws.length + 1) vc); have HSETA := Lib.hid hset'; have HATA := Lib.hid hat'; have HOWNA := Lib.hid hown'; have HBA := Lib.hid hb'; clear hset' hat' hown' hb' hgr' hV'))
             all_goals
               have hst1 : Way.step hold all who s1 k = (⟨s1.ws ++ [hold k - 1], Way.mark s1.came k (who + 1)⟩, none) := by unfold Way.step; rw [if_neg (by rw [← HCM.out]; omega), if_pos (by rw [← HHD.out]; exact h2)]
               have HST := Lib.hid hst1; clear hst1
               clear c2' f2'
               go_wp2_with fail
               go_roundg (gk - 1)
               case measure => have := HJ.out; omega
               case rel =>
                 have hsta := HST.out
                 have e1 : (Way.step hold all who s1 k).1 = ⟨s1.ws ++ [hold k - 1], Way.mark s1.came k (who + 1)⟩ := by rw [hsta]
                 refine ⟨j + 1, ⟨s1.ws ++ [hold k - 1], Way.mark s1.came k (who + 1)⟩, by have := HJ.out; omega, by go_num, by rw [HSN.out, hsta], ⟨.slice va (s1.ws.length + 1) vc, HSETA.out, ?_, ?_⟩, ?_, by rw [← e1]; exact HI2.out, by rw [← e1]; exact HG2.out⟩
                 · have hoo := HOWNA.out
                   have e2 : nats s1.ws ++ [(hd : Int) - 1] = nats (s1.ws ++ [hold k - 1]) := by
                     rw [← HHD.out]; simp [nats]; omega
                   rw [e2] at hoo
                   refine hoo.apart ?_ _
                   rcases HATA.out with e | e
                   · rw [e]; exact HWV1.out
                   · rw [e]; simp; omega
                 · rcases HATA.out with e | e
                   · rw [e]; exact HWV1.out
                   · rw [e]; simp; omega
                 · exact ((((HB3.out.setCell (by simp) _).alloc (by simp; omega) _).drew.drew).trans HBA.out).setCell (by simp) _
           · obtain rfl : hd = 0 := by omega
             cases all with
             | true =>
               have hst1 : Way.step hold true who s1 k = (⟨s1.ws, Way.mark s1.came k (who + 1)⟩, none) := by unfold Way.step; rw [if_neg (by rw [← HCM.out]; omega), if_neg (by rw [← HHD.out]; omega)]; rfl
               have HST := Lib.hid hst1; clear hst1
               go_wp2_with fail
               go_region
               go_wp2_with fail
               go_roundg (gk - 1)
               case measure => have := HJ.out; omega
               case rel =>
                 have hsta := HST.out
                 have e1 : (Way.step hold true who s1 k).1 = ⟨s1.ws, Way.mark s1.came k (who + 1)⟩ := by rw [hsta]
                 exact ⟨j + 1, ⟨s1.ws, Way.mark s1.came k (who + 1)⟩, by have := HJ.out; omega, by go_num, by rw [HSN.out, hsta], ⟨.slice (some ⟨wb, wo, none⟩) s1.ws.length wc, HSET.out.drew, HOA.out.drew, HWV1.out⟩, (HB3.out.setCell (by simp) _).drew, by rw [← e1]; exact HI2.out, by rw [← e1]; exact HG2.out⟩
             | false =>
               go_wp2_with fail
               go_region
               go_wp2_with fail
               have hst1 : Way.step hold false who s1 k = (⟨s1.ws, Way.mark s1.came k (who + 1)⟩, some k) := by unfold Way.step; rw [if_neg (by rw [← HCM.out]; omega), if_neg (by rw [← HHD.out]; omega)]; rfl
               have HST := Lib.hid hst1; clear hst1
               go_step3
               go_wp2_with fail
               refine jump_goto ?_
               go_wp2_with fail
               rw [Exit.noGoto_ret]
               go_ret2
               have hn9 : n < 9 := by omega
               obtain ⟨g0, rfl⟩ : ∃ g0, go = g0 + 1 := ⟨go - 1, by have := HN.out; omega⟩
               have hre : R = (⟨s1.ws, Way.mark s1.came k (who + 1)⟩, some k) := by
                 have := HRR.out
                 rw [Way.goes_at HWHO.out, HNB.out] at this
                 have h2 := HSN.out
                 rw [HST.out] at h2
                 have h3 := Way.scan_append hold false who (L.take (j + 1)) (L.drop (j + 1)) s
                 rw [List.take_append_drop, h2] at h3
                 rw [h3] at this
                 exact this
               rw [hre]
               exact ⟨rfl, ⟨.slice (some ⟨wb, wo, none⟩) s1.ws.length wc, HSET.out.drew, HOA.out.drew, HWV1.out⟩, (HB3.out.setCell (by simp) _).drew⟩
       · obtain rfl : j = ln := by have := HJ.out; omega
         have HV1 := Lib.hid hV; clear hV
         have hn9 : n < 9 := by omega
         obtain ⟨g0, rfl⟩ : ∃ g0, go = g0 + 1 := ⟨go - 1, by have := HN.out; omega⟩
         have hrr : R = Way.goes (nbOf G) hold all g0 (n + 1) s1 := by
           have := HRR.out
           rw [Way.goes_at HWHO.out, HNB.out] at this
           have h2 := HSC.out
           rw [List.take_of_length_le (by rw [HLN.out]; exact Nat.le_refl _)] at h2
           rw [h2] at this
           exact this
         have HRR2 := Lib.hid hrr; clear hrr
         go_wp2_with fail
         go_roundg g0
         case measure => omega
         case rel => exact ⟨n + 1, s1, by have := HN.out; omega, by go_num, HRR2.out, ⟨_, HV1.out, HO1.out, HWV1.out⟩, HB3.out, HI1.out⟩
   · have hre : R = (s, none) := by
       have := HRR.out
       rw [Way.goes_end (by omega)] at this
       exact this
     have HRE := Lib.hid hre; clear hre
     go_wp2_with fail
     rw [jump_ret]
     go_ret2
     rw [HRE.out]
     exact ⟨rfl, ⟨_, HV.out, HO.out, HWV.out⟩, HB.out⟩
end Go.Proofs.YtkddkkcfpnndlaaGreatDoor

namespace Go.Proofs.YtkddkkcfpnndlaaGreatDoor
open Go.RowKit

theorem mem_nats {L : List Nat} {k : Nat} : (k : Int) ∈ nats L ↔ k ∈ L := by
 unfold nats
 rw [List.mem_map]
 constructor
 · rintro ⟨a, ha, e⟩
   obtain rfl : a = k := by omega
   exact ha
 · exact fun h => ⟨k, h, rfl⟩

theorem nbOf_map {G : List (List Nat)} {i : Nat} : (G.map nats)[i]?.getD [] = nats (nbOf G i) := by
 unfold nbOf
 rw [List.getElem?_map]
 cases G[i]? <;> rfl

theorem hasAt_some {has : List Int} {i k : Nat} (h : hasAt has i = some k) : ∃ x, has[i]? = some x ∧ x ≠ -1 ∧ x.toNat = k := by
 unfold hasAt at h
 cases hx : has[i]? with
 | none => rw [hx] at h; cases h
 | some x =>
   rw [hx] at h
   simp only at h
   split at h
   · cases h
   · rename_i hne; exact ⟨x, rfl, hne, by simpa using h⟩

theorem fits_mat {G : List (List Nat)} {items : Int} {has : List Int} (h : fitsB (G.map nats) items has = true) : Way.Mat (nbOf G) has.length (hasAt has) := by
 refine ⟨fun w k e => ?_, fun w w' k e e' => ?_, fun w k e => ?_⟩
 · obtain ⟨x, hx, _⟩ := hasAt_some e
   exact (List.getElem?_eq_some_iff.1 hx).1
 · obtain ⟨x, hx, hne, ex⟩ := hasAt_some e
   obtain ⟨x', hx', hne', ex'⟩ := hasAt_some e'
   have b1 := fits_item h hx hne
   have b2 := fits_item h hx' hne'
   obtain rfl : x = x' := by omega
   have h3 := (fitsB_parts h).2.2
   rcases Nat.lt_trichotomy w w' with hlt | rfl | hlt
   · have := (okFit_at h3 (List.getElem?_eq_some_iff.1 hx').1 hx' hne).2
     exact absurd (List.mem_iff_getElem?.2 ⟨w, by rw [List.getElem?_take_of_lt hlt, hx]⟩) this
   · rfl
   · have := (okFit_at h3 (List.getElem?_eq_some_iff.1 hx).1 hx hne).2
     exact absurd (List.mem_iff_getElem?.2 ⟨w', by rw [List.getElem?_take_of_lt hlt, hx']⟩) this
 · obtain ⟨x, hx, hne, ex⟩ := hasAt_some e
   have b1 := fits_item h hx hne
   have hm := b1.2.2.2
   rw [nbOf_map] at hm
   obtain ⟨y, rfl⟩ := Int.eq_ofNat_of_zero_le b1.1
   rw [mem_nats] at hm
   simpa [← ex] using hm

theorem hasAt_set {hs : List Int} {i k : Nat} (hi : i < hs.length) : hasAt (hs.set i (k : Int)) = Sale.upd (hasAt hs) i (some k) := by
 funext x
 by_cases e : x = i
 · subst e
   rw [Sale.upd_same]
   have : (hs.set x (k : Int))[x]? = some (k : Int) := List.getElem?_set_self hi
   rw [hasAt_of this, if_neg (by omega), Int.toNat_natCast]
 · rw [Sale.upd_other e]
   unfold hasAt
   rw [List.getElem?_set_ne (Ne.symm e)]

structure BOk (G : List (List Nat)) (has : List Int) (f : Nat) : Prop where
 mat : Way.Mat (nbOf G) has.length (hasAt has)
 zero : hasAt has f = none
 lt : f < has.length
 len : has.length = G.length
 n8 : G.length ≤ 8
 lists : ∀ l, l ∈ G → ∀ k, k ∈ l → k < 8
 bd : ∀ x, x ∈ has → -1 ≤ x ∧ x < 8

theorem bOk_parts {G : List (List Nat)} {items : Int} {has : List Int} {f : Nat} (h : bOk (G.map nats) items has f = true) : BOk G has f := by
 simp only [bOk, Bool.and_eq_true, decide_eq_true_eq] at h
 obtain ⟨⟨⟨hf, _⟩, hfl⟩, hx⟩ := h
 rw [Int.toNat_natCast] at hx
 obtain ⟨h1, h2, h3⟩ := fitsB_parts hf
 obtain ⟨q1, q2, q3, q4⟩ := gcheck_parts h1
 rw [List.length_map] at h2 q3
 refine ⟨fits_mat hf, by rw [hasAt_of hx, if_pos rfl], (List.getElem?_eq_some_iff.1 hx).1, h2, q3, fun l hl k hk => ?_, fun x hx => ?_⟩
 · have := risesFrom_bd (q4 (nats l) (List.mem_map.2 ⟨l, hl, rfl⟩)) (k : Int) (mem_nats.2 hk)
   omega
 · obtain ⟨i, hi⟩ := List.mem_iff_getElem?.1 hx
   by_cases hne : x = -1
   · omega
   · have := fits_item hf hi hne
     omega

theorem MyRow.drew {w : World} {base : Nat} {a : Option Addr} {n c : Nat} {xs : List Int} (h : MyRow w base a n c xs) : MyRow w.drew base a n c xs := ⟨h.len, h.cap, h.nil, h.own⟩
theorem VRow.other {w : World} {B : Nat} {T : TypeId} {vals : List Value} (h : VRow w B T vals) {a : Addr} (ha : B ≠ a.block) (v : Value) : VRow (w.setCell a v) B T vals := by
 unfold VRow; rw [heap_setCell_other w a B v ha]; exact h

theorem MyRow.keep {w w' : World} {base B : Nat} {a : Option Addr} {n c : Nat} {xs : List Int} (h : MyRow w base a n c xs) (hb : Below B w w') (hlt : 0 < n → ∀ b o, a = some ⟨b, o, none⟩ → b < B) : MyRow w' base a n c xs :=
 ⟨h.len, h.cap, h.nil, fun hn => by
   obtain ⟨g, cur, e, hg, hh, r⟩ := h.own hn
   exact ⟨g, cur, e, hg, by rw [hb.block g (hlt hn g 0 e)]; exact hh, r⟩⟩

def MoreSays (n : Nat) (r : Option (Nat → Option Nat)) (w : World) (e : Ending) (w' : World) : Prop := match r with
 | none => e = .returned (.tuple #[.slice none 0 0, .bool false, .int .i64 0]) ∧ Below w.heap.size w w'
 | some h' => ∃ a hs, e = .returned (.tuple #[.slice a n n, .bool true, .int .i64 0]) ∧ Ints w' a n n hs ∧ hasAt hs = h' ∧ (∀ x, x ∈ hs → -1 ≤ x ∧ x < 8) ∧ Below w.heap.size w w'

def MoreOwn (n : Nat) (r : Option (Nat → Option Nat)) (w : World) (e : Ending) (w' : World) : Prop := match r with
 | none => e = .returned (.tuple #[.slice none 0 0, .bool false, .int .i64 0]) ∧ Below w.heap.size w w'
 | some h' => ∃ a hs, e = .returned (.tuple #[.slice a n n, .bool true, .int .i64 0]) ∧ Ints w' a n n hs ∧ hasAt hs = h' ∧ (∀ x, x ∈ hs → -1 ≤ x ∧ x < 8) ∧ MyRow w' w.heap.size a n n hs ∧ Below w.heap.size w w'

set_option maxRecDepth 100000 in
set_option maxHeartbeats 1000000 in
theorem More_own (ga ha : Option Addr) (gn gc hn hc f : Nat) (G : List (List Nat)) (items : Int) (has : List Int) (w : World) (hg : Rows w ga gn gc (G.map nats)) (hh : Ints w ha hn hc has) (hok : bOk (G.map nats) items has f = true) :
   Calls Tryz.prog 19 #[.slice ga gn gc, .int .i64 items, .slice ha hn hc, .int .i64 f] w (MoreOwn hn (Way.more (nbOf G) (Way.holdTo (hasAt has) hn) (hasAt has) f) w) := by
 have hb := bOk_parts hok
 have HC := Lib.hid (begin_yes ga ha gn gc hn hc f (G.map nats) items has w hg hh hok)
 have HBO := Lib.hid hb; clear hb
 have HG := Lib.hid hg; clear hg
 have hhl := hh.len
 have hgl := HG.out.len
 rw [List.length_map] at hgl
 have HHL := Lib.hid hhl; clear hhl
 have HGL := Lib.hid hgl; clear hgl
 clear hok hh
 obtain ⟨R, hR⟩ : ∃ R, R = Way.more (nbOf G) (Way.holdTo (hasAt has) hn) (hasAt has) f := ⟨_, rfl⟩
 rw [← hR]
 have HR0 := Lib.hid hR; clear hR
 go_enter Tryz.func19, Tryz.ntmps19
 go_wp2_with fail
 refine HC.out.mono ?_
 rintro e w1 ⟨B, a', rfl, hBz, hS, hM, hab, hb⟩
 clear HC
 have HB := Lib.hid hb; clear hb
 have HM := Lib.hid hM; clear hM
 have HAB := Lib.hid hab; clear hab
 have hbw : B + 1 < w1.heap.size := by obtain ⟨wv, hV, _⟩ := hS; exact hV.lt
 have hgn : gn ≤ 8 := by have := HBO.out.n8; have := HGL.out; omega
 have hfg : f < gn := by have := HBO.out.lt; have := HBO.out.len; have := HGL.out; omega
 have hHeld : Way.Held (nbOf G) (hasAt has) (Way.holdTo (hasAt has) hn) := HBO.out.mat.held (by rw [HHL.out]; exact Nat.le_refl _)
 have HGO := Lib.hid (goes_any false B ga gn gc (.slice a' hn hn) f G (hasAt has) (Way.holdTo (hasAt has) hn) w1 w HG.out HB.out hBz hbw hS hHeld HBO.out.zero hfg (fun x k e => by have := HBO.out.mat.lt x k e; have := HBO.out.len; have := HGL.out; omega) HBO.out.lists hgn)
 have HH := Lib.hid hHeld; clear hHeld
 clear hS
 go_wp2_with fail
 refine HGO.out.mono ?_
 rintro e w2 ⟨rfl, hS2, hb2⟩
 clear HGO
 have hR := HR0.out
 clear HR0
 unfold Way.more at hR
 rcases hgo : Way.goes (nbOf G) (Way.holdTo (hasAt has) hn) false 9 0 ⟨[f], fun _ => 0⟩ with ⟨s, o⟩
 rw [hgo] at hS2 hR
 have HGOES := Lib.hid hgo; clear hgo
 have HB2 := Lib.hid hb2; clear hb2
 have HS2 := Lib.hid hS2; clear hS2
 cases o with
 | none =>
   have HR := Lib.hid hR; clear hR
   have hall := HB.out.trans (HB2.out.mono hBz)
   have HALL := Lib.hid hall; clear hall
   simp only [Option.isSome_none, item0, Option.getD_none]
   go_wp2_with fail
   go_ret3
   rw [HR.out]
   exact ⟨rfl, HALL.out⟩
 | some k0 =>
   have HR := Lib.hid hR; clear hR
   simp only [Option.isSome_some, item0, Option.getD_some]
   go_wp2_with fail
   have h8 : ∀ w k, hasAt has w = some k → k < 8 := fun x k e => by
     have hk := HBO.out.mat.fits x k e
     unfold nbOf at hk
     cases hGx : G[x]? with
     | none => rw [hGx] at hk; cases hk
     | some l => rw [hGx] at hk; exact HBO.out.lists l (List.mem_of_getElem? hGx) k hk
   obtain ⟨_, hI, _, hc0⟩ := Way.aug_found HH.out HBO.out.zero h8 HGOES.out
   obtain ⟨i0, hi0⟩ : ∃ i, s.came k0 = i + 1 := ⟨s.came k0 - 1, by omega⟩
   obtain ⟨j0, hj0⟩ := List.mem_iff_getElem?.1 (hI.came k0 i0 hi0).2
   have hj9 : j0 < 9 := by
     have := hI.length HH.out h8
     have := (List.getElem?_eq_some_iff.1 hj0).1
     omega
   have hpos : 0 < hn := by have := HBO.out.lt; have := HHL.out; omega
   obtain ⟨gb, hga, _, hgl1⟩ := HM.out.lt hpos
   subst hga
   have hgbB : gb < B := HAB.out hpos gb 0 rfl
   obtain ⟨wv, hV, _, _⟩ := HS2.out
   have HAT := Lib.hid (Way.At.mk (has := hasAt has) (H := hasAt has) hi0 hj0 (fun _ _ _ _ => rfl))
   have HI := Lib.hid hI; clear hI
   have HV := Lib.hid hV; clear hV
   have H8 := Lib.hid h8; clear h8
   have hws : ∀ x, x ∈ s.ws → x < hn := fun x hx => by
     obtain ⟨j, hj⟩ := List.mem_iff_getElem?.1 hx
     cases j with
     | zero => have := HI.out.head; rw [this] at hj; cases hj; have := HBO.out.lt; have := HHL.out; omega
     | succ j => obtain ⟨k', i, j', e1, _⟩ := HI.out.rest j x hj; have := HBO.out.mat.lt x k' e1; have := HHL.out; omega
   have HWS := Lib.hid hws; clear hws
   clear hi0 hj0 hc0
   have HALL := Lib.hid (HB.out.trans (HB2.out.mono hBz))
   have hn8 : hn ≤ 8 := by have := HBO.out.len; have := HBO.out.n8; have := HHL.out; omega
   go_loopg [13] 9 (fun g' s13 wr => ∃ hs : List Int, VRow wr (B + 1) 116 (sCells (.slice ga gn gc) (.slice (some ⟨gb, 0, none⟩) hn hn) wv s.came (Way.holdTo (hasAt has) hn)) ∧ MyRow wr w.heap.size (some ⟨gb, 0, none⟩) hn hn hs ∧ Below w.heap.size w wr ∧ (∀ x, x ∈ hs → -1 ≤ x ∧ x < 8) ∧
     ((s13 = .int .i64 (-1) ∧ hasAt hs = Way.aug s.came 9 k0 (hasAt has)) ∨ ∃ k i j : Nat, s13 = .int .i64 k ∧ Way.At (hasAt has) s k i j (hasAt hs) ∧ j < g' ∧ Way.aug s.came 9 k0 (hasAt has) = Way.aug s.came g' k (hasAt hs)))
   case atStart => exact ⟨has, HV.out, HM.out.keep HB2.out HAB.out, HALL.out, HBO.out.bd, .inr ⟨k0, i0, j0, rfl, HAT.out, hj9, rfl⟩⟩
   case round =>
     obtain ⟨hs, hV, hM, hB3, hbd, hcase⟩ := hrel
     rcases hcase with ⟨rfl, hfin⟩ | ⟨k, i, j, rfl, hat, hj, hfin⟩
     · have c1 := hV.cell (k := 1) rfl
       have HM3 := Lib.hid hM; clear hM
       have HB3 := Lib.hid hB3; clear hB3
       have HFIN := Lib.hid hfin; clear hfin
       have HBD := Lib.hid hbd; clear hbd
       have HV3 := Lib.hid hV; clear hV
       go_wp2_with fail
       go_ret3
       rw [HR.out]
       exact ⟨_, hs, rfl, HM3.out.ints (by omega) (fun x hx => by have := HBD.out x hx; omega), HFIN.out, HBD.out, HM3.out, HB3.out⟩
     · have hin : i < hn := HWS.out i (List.mem_of_getElem? hat.idx)
       have hkn := (HI.out.came k i hat.came).1
       have hk8 : k < 8 := by
         unfold nbOf at hkn
         cases hGx : G[i]? with
         | none => rw [hGx] at hkn; cases hkn
         | some l => rw [hGx] at hkn; exact HBO.out.lists l (List.mem_of_getElem? hGx) k hkn
       obtain ⟨hHi, hstep⟩ := hat.step HI.out HBO.out.zero
       obtain ⟨x, hx⟩ : ∃ x, hs[i]? = some x := ⟨_, List.getElem?_eq_getElem (by rw [hM.len]; exact hin)⟩
       have hxb := hbd x (List.mem_of_getElem? hx)
       have c1 := hV.cell (k := 1) rfl
       have cc := hV.cell (sCells_came (came := s.came) (hold := Way.holdTo (hasAt has) hn) hk8)
       have ci := (hM.ints (by omega) (fun x hx => by have := hbd x hx; omega)).cell gb 0 rfl i x hx
       rw [Nat.zero_add] at ci
       have cf := hM.frozen hpos i
       rw [hat.came] at cc
       unfold iv at cc
       have ew : IntKind.i64.wrap (((i + 1 : Nat) : Int) - 1) = (i : Int) := by rw [IntWalk.i64_in _ (by omega)]; omega
       have i1 : (i : Int) < (hn : Int) := by omega
       have i2 : (k : Int) < 8 := by omega
       have hset := hM.set i (k : Int)
       have hval := hasAt_set (hs := hs) (k := k) (by rw [hM.len]; exact hin)
       have HSET := Lib.hid hset; clear hset
       have HVAL := Lib.hid hval; clear hval
       have HX := Lib.hid hx; clear hx
       have HM3 := Lib.hid hM; clear hM
       have HB3 := Lib.hid hB3; clear hB3
       have HFIN := Lib.hid hfin; clear hfin
       have HBD := Lib.hid hbd; clear hbd
       have HV3 := Lib.hid hV; clear hV
       have HAT3 := Lib.hid hat; clear hat
       have HHI := Lib.hid hHi; clear hHi
       have HST := Lib.hid hstep; clear hstep
       clear hkn
       go_wp2_with fail
       go_region
       go_wp2_with fail
       go_roundg (gk - 1)
       case measure => omega
       case rel =>
         obtain ⟨g0, rfl⟩ : ∃ g0, gk = g0 + 1 := ⟨gk - 1, by omega⟩
         rw [Nat.add_sub_cancel]
         refine ⟨hs.set i (k : Int), (HV3.out.other (by simp; omega) _).drew, HSET.out.drew, (HB3.out.setCell (by simp; omega) _).drew, fun y hy => ?_, ?_⟩
         · rcases List.mem_or_eq_of_mem_set hy with h | h
           · exact HBD.out y h
           · omega
         · have hat := HAT3.out
           have hfin := HFIN.out
           have hci : s.came k - 1 = i := by have := hat.came; omega
           rcases HST.out with hnone | ⟨k2, i2, j2, hsome, hj2, hat2⟩
           · left
             rw [← HHI.out] at hnone
             rw [hasAt_of HX.out] at hnone
             have hx1 : x = -1 := by
               apply Classical.byContradiction
               intro hne
               rw [if_neg hne] at hnone; cases hnone
             refine ⟨by rw [hx1], ?_⟩
             rw [hfin, HVAL.out]
             simp only [Way.aug, hci, hasAt_of HX.out, if_pos hx1]
           · right
             rw [← HHI.out] at hsome
             have hsome2 := hsome
             rw [hasAt_of HX.out] at hsome2
             have hx1 : x = (k2 : Int) := by
               split at hsome2
               · cases hsome2
               · have := Option.some.inj hsome2; omega
             refine ⟨k2, i2, j2, by rw [hx1], by rw [HVAL.out]; exact hat2, by omega, ?_⟩
             rw [hfin, HVAL.out]
             simp only [Way.aug, hci, hsome]
theorem More_yes (ga ha : Option Addr) (gn gc hn hc f : Nat) (G : List (List Nat)) (items : Int) (has : List Int) (w : World) (hg : Rows w ga gn gc (G.map nats)) (hh : Ints w ha hn hc has) (hok : bOk (G.map nats) items has f = true) :
   Calls Tryz.prog 19 #[.slice ga gn gc, .int .i64 items, .slice ha hn hc, .int .i64 f] w (MoreSays hn (Way.more (nbOf G) (Way.holdTo (hasAt has) hn) (hasAt has) f) w) := by
 refine (More_own ga ha gn gc hn hc f G items has w hg hh hok).mono ?_
 intro e w' h
 unfold MoreOwn at h
 unfold MoreSays
 split at h
 · exact h
 · obtain ⟨a, hs, h1, h2, h3, h4, _, h5⟩ := h
   exact ⟨a, hs, h1, h2, h3, h4, h5⟩
end Go.Proofs.YtkddkkcfpnndlaaGreatDoor
