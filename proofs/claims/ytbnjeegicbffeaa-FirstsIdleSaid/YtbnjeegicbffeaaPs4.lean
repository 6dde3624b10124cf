/- Walks: a search goes. -/
import Derived.Test.YtbnjeegicbffeaaPs3
import Derived.Deep.RegionLaw
import Derived.ScopeJumps
namespace Go.Proofs.Ytbnjeegicbffeaa
open Go.RowKit

/-- 'append(s, x)' at ints, where a region draws its order -/
theorem app1wp {o : Oper} {a : Act} {K : Act → World → Prop} {Q : Exit → Act → World → Prop} (w : World) (s x : Operand)
    (ho : o.op = .call { callee := .builtin .append, args := #[s, x], argTypes := #[22, 22] })
    (base : Nat) (v : Value) (xs : List Int) (hs : a.eval s = v) (hown : Own w base v xs) (b off c : Nat) (y : Int) (hx : a.eval x = .slice (some ⟨b, off, none⟩) 1 c)
    (hc : w.cell? ⟨b, off, none⟩ = some (.int .i64 y)) (m : Nat) (hm : xs.length = m) (hlen : m < 17592186044000) (hbase : base ≤ w.heap.size)
    (h : ∀ va vc w', Own w' base (.slice va (m + 1) vc) (xs ++ [y]) → Below base w w' → w.grownBy w' v.ownBlock → ((Value.slice va (m + 1) vc).ownBlock = v.ownBlock ∨ (Value.slice va (m + 1) vc).ownBlock = some w.heap.size) → K (a.put o.dst (.slice va (m + 1) vc)) w') : o.wp Try.prog a w K Q := by
  subst hm
  obtain ⟨i0, hi, hz0, hz1, hz2⟩ := info_parts infoInt
  have hnews : ∀ j u, [Value.int .i64 y][j]? = some u → w.cell? ((⟨b, off, none⟩ : Addr).add j) = some u := by
    intro j u hu
    cases j with
    | zero => simp at hu; subst hu; simpa [Addr.add] using hc
    | succ j => simp at hu
  obtain ⟨v', w', hr, h2, h3, h4, h5⟩ := run_append_own_at (P := Try.prog) (w := w) base 22 o.type 3 i0 (.int .i64 0) 1 8 Try.underlying22 hi hz0 hz1 hz2 rfl (by decide) v xs.length _ hown ⟨b, off, none⟩ 1 c [.int .i64 y] rfl hnews
    (by intro u hu; simp at hu; subst hu; rfl) (by unfold maxLen; omega) (by omega) hbase
  unfold Oper.wp execOp
  simp only [ho, resolve, invoke, builtin, Sem.run_bind, Sem.run_pure, Result.andThen_ok, List.map_toArray, List.map_cons, List.map_nil, hs, hx, hr]
  have h6 : Own w' base v' (xs ++ [y]) := by
    unfold Own
    rw [List.map_append, List.length_append]; exact h2
  obtain ⟨va, vc, rfl, _, _⟩ := h6.myRow
  have e : (xs ++ [y]).length = xs.length + 1 := by rw [List.length_append]; rfl
  rw [e] at h6 h5 ⊢
  exact h va vc w' h6 ((Below.refl base w).grown h3 hbase fun k hk => (World.ownsRow.lt hown k hk).1) h3 h5

theorem app1step {ops : Array Oper} {o : Oper} {a : Act} {K : Act → World → Prop} {Q : Exit → Act → World → Prop} {E : Prop} (w : World) (hgd : o.guard = none) (s x : Operand)
    (ho : o.op = .call { callee := .builtin .append, args := #[s, x], argTypes := #[22, 22] })
    (base : Nat) (v : Value) (xs : List Int) (hs : a.eval s = v) (hown : Own w base v xs) (b off c : Nat) (y : Int) (hx : a.eval x = .slice (some ⟨b, off, none⟩) 1 c)
    (hc : w.cell? ⟨b, off, none⟩ = some (.int .i64 y)) (m : Nat) (hm : xs.length = m) (hlen : m < 17592186044000) (hbase : base ≤ w.heap.size)
    (h : ∀ va vc w', Own w' base (.slice va (m + 1) vc) (xs ++ [y]) → Below base w w' → w.grownBy w' v.ownBlock → ((Value.slice va (m + 1) vc).ownBlock = v.ownBlock ∨ (Value.slice va (m + 1) vc).ownBlock = some w.heap.size) → K (a.put o.dst (.slice va (m + 1) vc)) w') : if Region.wanted o (yielded ops a.tmps) = true then Oper.wp Try.prog o a w K Q else E := by
  have hw : Region.wanted o (yielded ops a.tmps) = true := by simp [Region.wanted, hgd]
  rw [if_pos hw]
  exact app1wp w s x ho base v xs hs hown b off c y hx hc m hm hlen hbase h

theorem Own.apart {w : World} {base : Nat} {v : Value} {xs : List Int} (h : Own w base v xs) {a : Addr} (ha : v.ownBlock ≠ some a.block) (u : Value) : Own (w.setCell a u) base v xs := by
  obtain ⟨h1, h2⟩ := h
  refine ⟨h1, ?_⟩
  rcases h2 with h2 | ⟨g, cap, cur, hv, hg, hh, r⟩
  · exact .inl h2
  · subst hv
    exact .inr ⟨g, cap, cur, rfl, hg, by rw [heap_setCell_other w a g u (fun e => ha (by rw [← e]; rfl))]; exact hh, r⟩
theorem VRow.grown {w w' : World} {B : Nat} {T : TypeId} {vals : List Value} {row : Option Nat} (h : VRow w B T vals) (hg : w.grownBy w' row) (hne : row ≠ some B) : VRow w' B T vals := by
  unfold VRow; rw [hg.block B h.lt (fun e => hne e.symm)]; exact h

/-- a scope in which the run may jump ahead to a label: the walk goes on behind the label where it jumps -/
theorem wp_scope_ahead {P : Program} {a : Act} {w : World} {Q : Exit → Act → World → Prop} {c rest : Code} (l : Nat) (hf : findLabel c l = some rest)
    (h : c.wp P (Exit.jump l (fun a w => rest.wp P (Exit.noGoto Q) a w) Q) a w) : (Code.scope c).wp P Q a w :=
  wp_scope_jumps l _ (fun _ _ => 0) hf h fun a w hJ => Code.wp_mono (fun e a w he => by
    cases e with
    | goto l' => exact he.elim
    | normal => exact he
    | exit id => exact he
    | ret => exact he
    | panic ch => exact he
    | outgrown => exact he) hJ
theorem jump_ret {l : Nat} {J : Act → World → Prop} {Q : Exit → Act → World → Prop} {a : Act} {w : World} : Exit.jump l J Q .ret a w = Q .ret a w := rfl
theorem jump_goto {l : Nat} {J : Act → World → Prop} {Q : Exit → Act → World → Prop} {a : Act} {w : World} (h : J a w) : Exit.jump l J Q (.goto l) a w := ⟨rfl, h⟩

/-- what each may have -/
def nbOf (G : List (List Nat)) (i : Nat) : List Nat := G[i]?.getD []
def item0 (o : Option Nat) : Int := ((o.getD 0 : Nat) : Int)

/-- what a search leaves that has gone on -/
def Gone (B : Nat) (g h : Value) (hold : Nat → Nat) (r : Way.St × Option Nat) (w : World) (e : Ending) (w' : World) : Prop :=
  e = .returned (.tuple #[.int .i64 (item0 r.2), .bool r.2.isSome]) ∧ Srch w' B g h r.1 hold ∧ Below B w w'

set_option maxRecDepth 100000 in
set_option maxHeartbeats 2000000 in
theorem goes_any (all : Bool) (B : Nat) (ga : Option Addr) (gn gc : Nat) (hv : Value) (start : Nat) (G : List (List Nat)) (has : Nat → Option Nat) (hold : Nat → Nat) (w w0 : World)
    (hg : Rows w0 ga gn gc (G.map nats)) (hb0 : Below w0.heap.size w0 w) (hz : w0.heap.size ≤ B) (hBw : B + 1 < w.heap.size) (hS : Srch w B (.slice ga gn gc) hv ⟨[start], fun _ => 0⟩ hold)
    (hH : Way.Held (nbOf G) has hold) (h0 : has start = none) (hst : start < gn) (hm : ∀ x k, has x = some k → x < gn) (hG8 : ∀ l, l ∈ G → ∀ k, k ∈ l → k < 8) (hgn : gn ≤ 8) :
    Calls Try.prog 52 #[.pointer (some ⟨B + 1, 0, none⟩), .bool all] w (Gone B (.slice ga gn gc) hv hold (Way.goes (nbOf G) hold all 9 0 ⟨[start], fun _ => 0⟩) w) := by
  have HG := Lib.hid hg; clear hg
  have HB0 := Lib.hid hb0; clear hb0
  have HS := Lib.hid hS; clear hS
  have HH := Lib.hid (And.intro hH h0); clear hH h0
  have HM := Lib.hid (And.intro hm hG8); clear hm hG8
  have h8 : ∀ x k, has x = some k → k < 8 := fun x k e => by
    have hk := HH.out.1.fits x k e
    unfold nbOf at hk
    cases hGx : G[x]? with
    | none => rw [hGx] at hk; cases hk
    | some l => rw [hGx] at hk; exact HM.out.2 l (List.mem_of_getElem? hGx) k hk
  have H8 := Lib.hid h8; clear h8
  have HI0 := Lib.hid (Way.Inv.start (nb := nbOf G) (has := has) (start := start))
  obtain ⟨R, hR⟩ : ∃ R, R = Way.goes (nbOf G) hold all 9 0 ⟨[start], fun _ => 0⟩ := ⟨_, rfl⟩
  rw [← hR]
  have HR := Lib.hid hR; clear hR
  go_enter Try.func52, Try.ntmps52
  go_wp2_with fail
  refine wp_scope_ahead 0 rfl ?_
  go_wp2_with fail
  have HBR := Lib.hid (Below.refl B w)
  go_loopg [6] 9 (fun g' s6 wr => ∃ (n : Nat) (s : Way.St), n + g' = 9 ∧ s6 = .int .i64 n ∧ R = Way.goes (nbOf G) hold all g' n s ∧ Srch wr B (.slice ga gn gc) hv s hold ∧ Below B w wr ∧ Way.Inv (nbOf G) has start s)
  case atStart => exact ⟨0, _, by omega, rfl, HR.out, HS.out, HBR.out, HI0.out⟩
  case round =>
    obtain ⟨n, s, hn, rfl, hr, ⟨wv, hV, hO, hwv⟩, hB, hI⟩ := hrel
    have hlen : s.ws.length ≤ 9 := hI.length HH.out.1 H8.out
    obtain ⟨wa, wc, rfl, hwi⟩ := hO.ints (by simp [nats]; omega) (fun x hx => by
      obtain ⟨k, hk, rfl⟩ := List.mem_map.1 hx
      obtain ⟨j, hj⟩ := List.mem_iff_getElem?.1 hk
      have : k < gn := by
        cases j with
        | zero => rw [hI.head] at hj; cases hj; exact hst
        | succ j => obtain ⟨k', i, j', e1, _⟩ := hI.rest j k hj; exact HM.out.1 k k' e1
      omega)
    rw [show (nats s.ws).length = s.ws.length by simp [nats]] at hwi hV hwv hO
    have hbc : B + 1 < wr.heap.size := by have := hB.size; omega
    have c0 := hV.cell (k := 0) rfl
    have c2 := hV.cell (k := 2) rfl
    have HV := Lib.hid hV; clear hV
    have HO := Lib.hid hO; clear hO
    have HWV := Lib.hid hwv; clear hwv
    have HB := Lib.hid hB; clear hB
    have HI := Lib.hid hI; clear hI
    have HRR := Lib.hid hr; clear hr
    have HN := Lib.hid hn; clear hn
    by_cases hlt : n < s.ws.length
    · obtain ⟨who, hwho⟩ : ∃ who, s.ws[n]? = some who := ⟨_, List.getElem?_eq_getElem hlt⟩
      have hwl : who < gn := by
        cases n with
        | zero => rw [HI.out.head] at hwho; cases hwho; exact hst
        | succ j => obtain ⟨k', i, j', e1, _⟩ := HI.out.rest j who hwho; exact HM.out.1 who k' e1
      obtain ⟨wb, wo, rfl⟩ := hwi.addr (by omega)
      have cw := hwi.cell wb wo rfl n (who : Int) (by simp [nats, hwho])
      obtain ⟨row, hrow⟩ := HG.out.get hwl
      obtain ⟨bg, og, rfl⟩ := HG.out.addr (by omega)
      obtain ⟨la, ln, lc, hcl0, hli⟩ := HG.out.cell bg og rfl who row hrow
      have hcl : wr.cell? ⟨bg, og + who, none⟩ = some (.slice la ln lc) := by
        rw [(HB0.out.trans (HB.out.mono hz)).cell (p := ⟨bg, og + who, none⟩) (block_lt_of_cell hcl0)]; exact hcl0
      obtain ⟨L, hL, rfl⟩ : ∃ L, G[who]? = some L ∧ row = nats L := by
        rw [List.getElem?_map] at hrow
        cases hGw : G[who]? with
        | none => rw [hGw] at hrow; cases hrow
        | some L => rw [hGw] at hrow; cases hrow; exact ⟨L, rfl, rfl⟩
      have hnb : nbOf G who = L := by simp [nbOf, hL]
      have hL8 := HM.out.2 L (List.mem_of_getElem? hL)
      have hln : L.length = ln := by have := hli.len; simpa [nats] using this
      have hlb := hli.big
      have HROW := Lib.hid hrow; clear hrow
      have HCL0 := Lib.hid hcl0; clear hcl0
      have HLI := Lib.hid hli; clear hli
      have HL := Lib.hid hL; clear hL
      have HNB := Lib.hid hnb; clear hnb
      have HL8 := Lib.hid hL8; clear hL8
      have HLN := Lib.hid hln; clear hln
      have HWHO := Lib.hid hwho; clear hwho
      have HWI := Lib.hid hwi; clear hwi
      have i1 : (n : Int) < (s.ws.length : Int) := by omega
      have i2 : (who : Int) < (gn : Int) := by omega
      go_wp2_with fail
      go_quiet (fail)
      go_wp2_with fail
      have HS2 : Srch (wr.drewN nq) B (.slice (some ⟨bg, og, none⟩) gn gc) hv s hold := ⟨_, by simpa [VRow] using HV.out, by simpa [Own, World.ownsRow] using HO.out, HWV.out⟩
      have HSS := Lib.hid HS2; clear HS2
      have HB2 := Lib.hid (below_drewN HB.out nq)
      obtain ⟨go, rfl⟩ : ∃ go : Nat, go = gk := ⟨_, rfl⟩
      obtain ⟨wo1, rfl⟩ : ∃ wo1 : World, wo1 = wr := ⟨_, rfl⟩
      clear c0 c2 cw hcl
      go_loopg [32] ln (fun g' s32 wr => ∃ (j : Nat) (s1 : Way.St), j + g' = ln ∧ s32 = .int .i64 j ∧ Way.scan hold all who (L.take j) s = (s1, none) ∧ Srch wr B (.slice (some ⟨bg, og, none⟩) gn gc) hv s1 hold ∧ Below B w wr ∧ Way.Inv (nbOf G) has start s1 ∧ Way.Grows s s1)
      case atStart => exact ⟨0, s, by omega, rfl, rfl, HSS.out, HB2.out, HI.out, Way.Grows.refl _⟩
      case round =>
        obtain ⟨j, s1, hj, rfl, hsc, ⟨wv, hV, hO, hwv⟩, hB, hI, hG⟩ := hrel
        have HJ := Lib.hid hj; clear hj
        have HSC := Lib.hid hsc; clear hsc
        have hbc : B + 1 < wr.heap.size := by have := hB.size; omega
        have hlen1 : s1.ws.length ≤ 9 := hI.length HH.out.1 H8.out
        obtain ⟨wa, wc, rfl, hwi⟩ := hO.ints (by simp [nats]; omega) (fun x hx => by
          obtain ⟨k, hk, rfl⟩ := List.mem_map.1 hx
          obtain ⟨j, hj⟩ := List.mem_iff_getElem?.1 hk
          have : k < gn := by
            cases j with
            | zero => rw [hI.head] at hj; cases hj; exact hst
            | succ j => obtain ⟨k', i, j', e1, _⟩ := hI.rest j k hj; exact HM.out.1 k k' e1
          omega)
        rw [show (nats s1.ws).length = s1.ws.length by simp [nats]] at hwi hV hwv hO
        have hwho1 : s1.ws[n]? = some who := hG.at HWHO.out
        have hmem : who ∈ s1.ws := List.mem_of_getElem? hwho1
        have hnl : n < s1.ws.length := (List.getElem?_eq_some_iff.1 hwho1).1
        obtain ⟨wb, wo, rfl⟩ := hwi.addr (by omega)
        have cw := hwi.cell wb wo rfl n (who : Int) (by simp [nats, hwho1])
        have c2 := hV.cell (k := 2) rfl
        have HI1 := Lib.hid hI; clear hI
        have HG1 := Lib.hid hG; clear hG
        have HW1 := Lib.hid hwho1; clear hwho1
        have HME := Lib.hid hmem; clear hmem
        have HB3 := Lib.hid hB; clear hB
        have HO1 := Lib.hid hO; clear hO
        have HWV1 := Lib.hid hwv; clear hwv
        have i3 : (n : Int) < (s1.ws.length : Int) := by omega
        by_cases hlj : j < ln
        · obtain ⟨k, hk⟩ : ∃ k, L[j]? = some k := ⟨_, List.getElem?_eq_getElem (by rw [HLN.out]; exact hlj)⟩
          have hk8 : k < 8 := HL8.out k (List.mem_of_getElem? hk)
          have hkn : k ∈ nbOf G who := by rw [HNB.out]; exact List.mem_of_getElem? hk
          have hsn := Way.scan_snoc HSC.out k
          have htk : L.take (j + 1) = L.take j ++ [k] := by rw [List.take_add_one, hk]; rfl
          rw [← htk] at hsn
          have hI2 := HI1.out.step HH.out.1 HH.out.2 all HME.out hkn
          have hG2 := HG1.out.trans (Way.Grows.step hold all who s1 k)
          obtain ⟨lb, lo, rfl⟩ := HLI.out.addr (by omega)
          have hbb : lb < w0.heap.size := block_lt_of_cell (HLI.out.cell lb lo rfl j (k : Int) (by simp [nats, hk]))
          have hck : wr.cell? ⟨lb, lo + j, none⟩ = some (.int .i64 k) := by
            rw [(HB0.out.trans (HB3.out.mono hz)).cell (p := ⟨lb, lo + j, none⟩) hbb]
            exact HLI.out.cell lb lo rfl j (k : Int) (by simp [nats, hk])
          have cc := hV.cell (sCells_came (came := s1.came) (hold := hold) hk8)
          have HSN := Lib.hid hsn; clear hsn
          have HTK := Lib.hid htk; clear htk
          have HI2 := Lib.hid hI2; clear hI2
          have HG2 := Lib.hid hG2; clear hG2
          have HK := Lib.hid hk; clear hk
          have HKN := Lib.hid hkn; clear hkn
          have i4 : (j : Int) < (ln : Int) := by omega
          have i5 : (k : Int) < 8 := by omega
          obtain ⟨cm, hcm⟩ : ∃ cm, cm = s1.came k := ⟨_, rfl⟩
          rw [← hcm] at cc
          have HCM := Lib.hid hcm; clear hcm
          unfold iv at cc
          by_cases h1 : 0 < cm
          · have hst1 : Way.step hold all who s1 k = (s1, none) := by unfold Way.step; rw [if_pos (by rw [← HCM.out]; exact h1)]
            have HST := Lib.hid hst1; clear hst1
            have HV1 := Lib.hid hV; clear hV
            go_wp2_with fail
            go_roundg (gk - 1)
            case measure => have := HJ.out; omega
            case rel => exact ⟨j + 1, s1, by have := HJ.out; omega, by go_num, by rw [HSN.out, HST.out], ⟨_, HV1.out, HO1.out, HWV1.out⟩, HB3.out, HI1.out, HG1.out⟩
          · obtain rfl : cm = 0 := by omega
            have hset : VRow (wr.setCell ⟨B + 1, 3 + k, none⟩ (.int .i64 ((who : Int) + 1))) (B + 1) 89 (sCells (.slice (some ⟨bg, og, none⟩) gn gc) hv (.slice (some ⟨wb, wo, none⟩) s1.ws.length wc) (Way.mark s1.came k (who + 1)) hold) := by
              have := hV.set (3 + k) (iv (who + 1))
              rw [sCells_setCame hk8] at this
              exact this
            have hhc := hset.cell (sCells_hold (came := Way.mark s1.came k (who + 1)) (hold := hold) hk8)
            have hc2 := hset.cell (k := 2) rfl
            have hfz := hV.frozen (3 + k)
            have HV1 := Lib.hid hV; clear hV
            have HSET := Lib.hid hset; clear hset
            have hw1 : IntKind.i64.wrap ((who : Int) + 1) = (who : Int) + 1 := IntWalk.i64_in _ (by omega)
            obtain ⟨hd, hhd⟩ : ∃ hd, hd = hold k := ⟨_, rfl⟩
            rw [← hhd] at hhc
            have HHD := Lib.hid hhd; clear hhd
            unfold iv at hhc hc2
            have hoa := HO1.out.apart (a := ⟨B + 1, 3 + k, none⟩) HWV1.out (.int .i64 ((who : Int) + 1))
            have HOA := Lib.hid hoa; clear hoa
            by_cases h2 : 0 < hd
            · have hdl : hd ≤ gn := by
                have h4 := (HH.out.1.hold k (hd - 1)).1 (by rw [← HHD.out]; omega)
                have := HM.out.1 _ _ h4
                omega
              have hw2 : IntKind.i64.wrap ((hd : Int) - 1) = (hd : Int) - 1 := IntWalk.i64_in _ (by omega)
              have h21 : 0 ≤ (hd : Int) - 1 := by omega
              go_wp2_with fail
              go_region
              go_wp2_with fail
              go_region_law (first | (refine app1step _ rfl _ _ rfl B (.slice (some ⟨wb, wo, none⟩) s1.ws.length wc) (nats s1.ws) ?_ ?_ wr.heap.size 0 1 ((hd : Int) - 1) ?_ ?_ s1.ws.length ?_ ?_ ?_ ?_; (focus go_simp); (focus (repeat (first | exact HOA.out | refine Own.drew ?_ | refine Own.alloc ?_ _))); (focus go_simp); (focus (simp [go_sem])); (focus (simp [nats])); (focus omega); (focus (simp; omega)); intro va vc w' hown' hb' hgr' hat'; have hV' := ((((HSET.out.alloc (.cells #[.int .i64 ((hd : Int) - 1)] 3)).drew).drew).grown hgr' HWV1.out); have c2' := hV'.cell (k := 2) rfl; have f2' := hV'.frozen 2; have hset' := hV'.set 2 (.slice va (s1.ws.length + 1) vc); have HSETA := Lib.hid hset'; have HATA := Lib.hid hat'; have HOWNA := Lib.hid hown'; have HBA := Lib.hid hb'; clear hset' hat' hown' hb' hgr' hV'))
              all_goals
                have hst1 : Way.step hold all who s1 k = (⟨s1.ws ++ [hold k - 1], Way.mark s1.came k (who + 1)⟩, none) := by unfold Way.step; rw [if_neg (by rw [← HCM.out]; omega), if_pos (by rw [← HHD.out]; exact h2)]
                have HST := Lib.hid hst1; clear hst1
                clear c2' f2'
                go_wp2_with fail
                go_roundg (gk - 1)
                case measure => have := HJ.out; omega
                case rel =>
                  have hsta := HST.out
                  have e1 : (Way.step hold all who s1 k).1 = ⟨s1.ws ++ [hold k - 1], Way.mark s1.came k (who + 1)⟩ := by rw [hsta]
                  refine ⟨j + 1, ⟨s1.ws ++ [hold k - 1], Way.mark s1.came k (who + 1)⟩, by have := HJ.out; omega, by go_num, by rw [HSN.out, hsta], ⟨.slice va (s1.ws.length + 1) vc, HSETA.out, ?_, ?_⟩, ?_, by rw [← e1]; exact HI2.out, by rw [← e1]; exact HG2.out⟩
                  · have hoo := HOWNA.out
                    have e2 : nats s1.ws ++ [(hd : Int) - 1] = nats (s1.ws ++ [hold k - 1]) := by
                      rw [← HHD.out]; simp [nats]; omega
                    rw [e2] at hoo
                    refine hoo.apart ?_ _
                    rcases HATA.out with e | e
                    · rw [e]; exact HWV1.out
                    · rw [e]; simp; omega
                  · rcases HATA.out with e | e
                    · rw [e]; exact HWV1.out
                    · rw [e]; simp; omega
                  · exact ((((HB3.out.setCell (by simp) _).alloc (by simp; omega) _).drew.drew).trans HBA.out).setCell (by simp) _
            · obtain rfl : hd = 0 := by omega
              cases all with
              | true =>
                have hst1 : Way.step hold true who s1 k = (⟨s1.ws, Way.mark s1.came k (who + 1)⟩, none) := by unfold Way.step; rw [if_neg (by rw [← HCM.out]; omega), if_neg (by rw [← HHD.out]; omega)]; rfl
                have HST := Lib.hid hst1; clear hst1
                go_wp2_with fail
                go_region
                go_wp2_with fail
                go_roundg (gk - 1)
                case measure => have := HJ.out; omega
                case rel =>
                  have hsta := HST.out
                  have e1 : (Way.step hold true who s1 k).1 = ⟨s1.ws, Way.mark s1.came k (who + 1)⟩ := by rw [hsta]
                  exact ⟨j + 1, ⟨s1.ws, Way.mark s1.came k (who + 1)⟩, by have := HJ.out; omega, by go_num, by rw [HSN.out, hsta], ⟨.slice (some ⟨wb, wo, none⟩) s1.ws.length wc, HSET.out.drew, HOA.out.drew, HWV1.out⟩, (HB3.out.setCell (by simp) _).drew, by rw [← e1]; exact HI2.out, by rw [← e1]; exact HG2.out⟩
              | false =>
                go_wp2_with fail
                go_region
                go_wp2_with fail
                have hst1 : Way.step hold false who s1 k = (⟨s1.ws, Way.mark s1.came k (who + 1)⟩, some k) := by unfold Way.step; rw [if_neg (by rw [← HCM.out]; omega), if_neg (by rw [← HHD.out]; omega)]; rfl
                have HST := Lib.hid hst1; clear hst1
                go_step3
                go_wp2_with fail
                refine jump_goto ?_
                go_wp2_with fail
                rw [Exit.noGoto_ret]
                go_ret2
                have hn9 : n < 9 := by omega
                obtain ⟨g0, rfl⟩ : ∃ g0, go = g0 + 1 := ⟨go - 1, by have := HN.out; omega⟩
                have hre : R = (⟨s1.ws, Way.mark s1.came k (who + 1)⟩, some k) := by
                  have := HRR.out
                  rw [Way.goes_at HWHO.out, HNB.out] at this
                  have h2 := HSN.out
                  rw [HST.out] at h2
                  have h3 := Way.scan_append hold false who (L.take (j + 1)) (L.drop (j + 1)) s
                  rw [List.take_append_drop, h2] at h3
                  rw [h3] at this
                  exact this
                rw [hre]
                exact ⟨rfl, ⟨.slice (some ⟨wb, wo, none⟩) s1.ws.length wc, HSET.out.drew, HOA.out.drew, HWV1.out⟩, (HB3.out.setCell (by simp) _).drew⟩
        · obtain rfl : j = ln := by have := HJ.out; omega
          have HV1 := Lib.hid hV; clear hV
          have hn9 : n < 9 := by omega
          obtain ⟨g0, rfl⟩ : ∃ g0, go = g0 + 1 := ⟨go - 1, by have := HN.out; omega⟩
          have hrr : R = Way.goes (nbOf G) hold all g0 (n + 1) s1 := by
            have := HRR.out
            rw [Way.goes_at HWHO.out, HNB.out] at this
            have h2 := HSC.out
            rw [List.take_of_length_le (by rw [HLN.out]; exact Nat.le_refl _)] at h2
            rw [h2] at this
            exact this
          have HRR2 := Lib.hid hrr; clear hrr
          go_wp2_with fail
          go_roundg g0
          case measure => omega
          case rel => exact ⟨n + 1, s1, by have := HN.out; omega, by go_num, HRR2.out, ⟨_, HV1.out, HO1.out, HWV1.out⟩, HB3.out, HI1.out⟩
    · have hre : R = (s, none) := by
        have := HRR.out
        rw [Way.goes_end (by omega)] at this
        exact this
      have HRE := Lib.hid hre; clear hre
      go_wp2_with fail
      rw [jump_ret]
      go_ret2
      rw [HRE.out]
      exact ⟨rfl, ⟨_, HV.out, HO.out, HWV.out⟩, HB.out⟩
end Go.Proofs.Ytbnjeegicbffeaa
