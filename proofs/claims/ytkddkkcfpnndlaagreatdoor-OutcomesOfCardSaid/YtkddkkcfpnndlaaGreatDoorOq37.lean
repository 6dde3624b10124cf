/- Walks: the reference's markets: the market in which a bidder has no bid. Two lists that grow side by side: lists of ints, and others. Walks: the reference's demands: of all bidders. The reference's rises, in plain words; is a number among some? Walks: the reference's rises: a step. -/
import Derived.Test.YtkddkkcfpnndlaaGreatDoorOq32
import Derived.Test.YtkddkkcfpnndlaaGreatDoorOq10
import Derived.Test.YtkddkkcfpnndlaaGreatDoorOq25
import Derived.Test.YtkddkkcfpnndlaaGreatDoorOq27
import Derived.Test.YtkddkkcfpnndlaaGreatDoorOq36
import Derived.Test.YtkddkkcfpnndlaaGreatDoorOq29
namespace Go.Proofs.YtkddkkcfpnndlaaGreatDoor
open Go.RowKit Sale

theorem OwnRows.lit {w : World} {base : Nat} {v : Value} {xss : List (List Int)} (h : OwnRows w base v xss) : ∃ a c, v = .slice a xss.length c := by
 obtain ⟨vals, ⟨h1, h2⟩, h3, h4⟩ := h
 rcases h2 with ⟨hv, hn⟩ | ⟨g, cap, cur, hv, _⟩
 · exact ⟨none, 0, by rw [hv]; congr 1; omega⟩
 · exact ⟨_, cap, by rw [hv, h3]⟩
theorem Own.row {w : World} {base : Nat} {v : Value} {xs : List Int} (h : Own w base v xs) (hp : 0 < xs.length) : ∃ g c, v = .slice (some ⟨g, 0, none⟩) xs.length c ∧ base ≤ g ∧ g < w.heap.size ∧ xs.length ≤ c ∧ TabI w g xs := by
 have h' := h
 rcases h'.2 with ⟨_, e0⟩ | ⟨g, cap, cur, e, hb, hh, hle, _⟩
 · omega
 · subst e
   exact ⟨g, cap, rfl, hb, (Array.getElem?_eq_some_iff.1 hh).1, hle, h.tab.1⟩

end Go.Proofs.YtkddkkcfpnndlaaGreatDoor

namespace Go.Proofs.YtkddkkcfpnndlaaGreatDoor
open Go.RowKit Sale

def RowsT (T : TypeId) (w : World) (base : Nat) (v7 v8 : Value) (xss : List (List Int)) (us : List Value) : Prop :=
 ∃ vals : List Value, w.ownsRow base 25 1 v7 vals.length vals ∧ vals.length = xss.length ∧
   (∀ (i : Nat) (xs : List Int), xss[i]? = some xs → ∃ (a : Option Addr) (n c : Nat), vals[i]? = some (Value.slice a n c) ∧ Ints w a n c xs ∧ (0 < n → ∀ b o : Nat, a = some ⟨b, o, none⟩ → v7.ownBlock ≠ some b ∧ v8.ownBlock ≠ some b)) ∧
   w.ownsRow base T 1 v8 us.length us
theorem RowsT.nil (T : TypeId) (w : World) (base : Nat) : RowsT T w base (.slice none 0 0) (.slice none 0 0) [] [] :=
 ⟨[], World.ownsRow_nil _ _ _ _, rfl, fun i xs h => by simp at h, World.ownsRow_nil _ _ _ _⟩
theorem ownsRow_below {T : TypeId} {w w' : World} {base B n : Nat} {v : Value} {us : List Value} (h : w.ownsRow base T 1 v n us) (hb : Below B w w') (hB : w.heap.size ≤ B) : w'.ownsRow base T 1 v n us := by
 obtain ⟨h1, h2⟩ := h
 refine ⟨h1, ?_⟩
 rcases h2 with h2 | ⟨g, cap, cur, hv, hg, hh, r⟩
 · exact .inl h2
 · exact .inr ⟨g, cap, cur, hv, hg, by rw [hb.block g (by have := (Array.getElem?_eq_some_iff.1 hh).1; omega)]; exact hh, r⟩
theorem RowsT.below {T : TypeId} {w w' : World} {base B : Nat} {v7 v8 : Value} {xss : List (List Int)} {us : List Value} (h : RowsT T w base v7 v8 xss us) (hb : Below B w w') (hB : w.heap.size ≤ B) : RowsT T w' base v7 v8 xss us := by
 obtain ⟨vals, h1, h2, h3, h4⟩ := h
 refine ⟨vals, ownsRow_below h1 hb hB, h2, fun i xs hi => ?_, ownsRow_below h4 hb hB⟩
 obtain ⟨a, n, c, e1, e2, e3⟩ := h3 i xs hi
 exact ⟨a, n, c, e1, e2.below hb hB, e3⟩
theorem RowsT.rows {T : TypeId} {w : World} {base : Nat} {v7 v8 : Value} {xss : List (List Int)} {us : List Value} (h : RowsT T w base v7 v8 xss us) : OwnRows w base v7 xss := by
 obtain ⟨vals, h1, h2, h3, h4⟩ := h
 refine ⟨vals, h1, h2, fun i xs hi => ?_⟩
 obtain ⟨a, n, c, e1, e2, e3⟩ := h3 i xs hi
 exact ⟨a, n, c, e1, e2, fun hn b o e => (e3 hn b o e).1⟩
theorem RowsT.lt8 {T : TypeId} {w : World} {base : Nat} {v7 v8 : Value} {xss : List (List Int)} {us : List Value} (h : RowsT T w base v7 v8 xss us) : ∀ k, v8.ownBlock = some k → base ≤ k ∧ k < w.heap.size := by
 obtain ⟨vals, h1, h2, h3, h4⟩ := h
 exact World.ownsRow.lt h4
theorem ownsRow_ne {T T' : TypeId} {w : World} {base n n' : Nat} {v v' : Value} {us us' : List Value} (h : w.ownsRow base T 1 v n us) (h' : w.ownsRow base T' 1 v' n' us') (hT : T ≠ T') : ∀ g, v.ownBlock = some g → v'.ownBlock ≠ some g := by
 intro g e e'
 rcases h.2 with ⟨hv, _⟩ | ⟨g1, cap, cur, hv, _, hh, _⟩
 · rw [hv] at e; cases e
 · rcases h'.2 with ⟨hv', _⟩ | ⟨g2, cap', cur', hv', _, hh', _⟩
   · rw [hv'] at e'; cases e'
   · rw [hv] at e; rw [hv'] at e'
     have e1 : g1 = g := by injection e
     have e2 : g2 = g := by injection e'
     subst e1; subst e2
     rw [hh] at hh'
     exact hT (by injection hh' with hh'; injection hh' with _ h' _)
theorem appT7 {T : TypeId} (hT : T ≠ 25) {ops : Array Oper} {rest : List Oper} {o : Oper} {a : Act} {Q : Exit → Act → World → Prop} (w : World) (hgd : o.guard = none) (s x : Operand)
   (ho : o.op = .call { callee := .builtin .append, args := #[s, x], argTypes := #[22, 22] })
   (base : Nat) (v7 v8 : Value) (xss : List (List Int)) (us : List Value) (hs : a.eval s = v7) (hown : RowsT T w base v7 v8 xss us) (b off c : Nat) (la : Option Addr) (ln lc : Nat) (ys : List Int) (hx : a.eval x = .slice (some ⟨b, off, none⟩) 1 c)
   (hc : w.cell? ⟨b, off, none⟩ = some (.slice la ln lc)) (hy : Ints w la ln lc ys) (hap : 0 < ln → ∀ b o, la = some ⟨b, o, none⟩ → v7.ownBlock ≠ some b ∧ v8.ownBlock ≠ some b) (hlen : xss.length < 1000000) (hbase : base ≤ w.heap.size)
   (h : ∀ v' w', RowsT T w' base v' v8 (xss ++ [ys]) us → Below base w w' → wpList Tryz.prog ops Q rest (a.put o.dst v') w') : wpList Tryz.prog ops Q (o :: rest) a w := by
 obtain ⟨i0, hi, hz0, hz1, hz2⟩ := info_parts infoInts
 obtain ⟨vals, h1, h3, h4, h5⟩ := hown
 refine wpList_append_own_at w hgd s x _ ho base 25 i0 _ 1 24 Tryz.underlying22 hi hz0 hz1 hz2 rfl (by decide) v7 vals.length _ hs h1 ⟨b, off, none⟩ 1 c [.slice la ln lc] hx rfl ?_ ?_ ?_ ?_ hbase ?_
 · intro j u hu
   cases j with
   | zero => simp at hu; subst hu; simpa [Addr.add] using hc
   | succ j => simp at hu
 · intro u hu; simp at hu; subst hu; rfl
 · unfold maxLen; omega
 · omega
 · intro v' w' hown' hg hnil hat
   have hnew : ∀ b' : Nat, b' < w.heap.size → v7.ownBlock ≠ some b' → v'.ownBlock ≠ some b' := fun b' hb' hv e => by
     rcases hat with e' | e'
     · rw [e'] at e; exact hv e
     · rw [e'] at e; have := Option.some.inj e; omega
   refine h v' w' ⟨vals ++ [.slice la ln lc], by rw [List.length_append]; exact hown', by simp [h3], fun i xs hi => ?_, World.ownsRow.kept h5 hg ?_⟩ ((Below.refl base w).grown hg hbase fun k hk => (World.ownsRow.lt h1 k hk).1)
   · by_cases hil : i < xss.length
     · rw [List.getElem?_append_left hil] at hi
       obtain ⟨a', n', c', e1, e2, e3⟩ := h4 i xs hi
       exact ⟨a', n', c', by rw [List.getElem?_append_left (by omega)]; exact e1, e2.kept hg (fun hn b o e => (e3 hn b o e).1), fun hn b' o' e => ⟨hnew b' (e2.lt hn e) (e3 hn b' o' e).1, (e3 hn b' o' e).2⟩⟩
     · have hil2 : i = xss.length := by have := (List.getElem?_eq_some_iff.1 hi).1; simp at this; omega
       subst hil2
       rw [List.getElem?_append_right (Nat.le_refl _)] at hi
       simp at hi
       subst hi
       exact ⟨la, ln, lc, by rw [List.getElem?_append_right (by omega), h3]; simp, hy.kept hg (fun hn b o e => (hap hn b o e).1), fun hn b' o' e => ⟨hnew b' (hy.lt hn e) (hap hn b' o' e).1, (hap hn b' o' e).2⟩⟩
   · cases hv8 : v8.ownBlock with
     | none => exact .inl rfl
     | some g => exact .inr fun e => ownsRow_ne h5 h1 hT g hv8 e.symm
theorem app8Bool {ops : Array Oper} {rest : List Oper} {o : Oper} {a : Act} {Q : Exit → Act → World → Prop} (w : World) (hgd : o.guard = none) (s x : Operand)
   (ho : o.op = .call { callee := .builtin .append, args := #[s, x], argTypes := #[222, 222] })
   (base : Nat) (v7 v8 : Value) (xss : List (List Int)) (us : List Value) (hs : a.eval s = v8) (hown : RowsT 4 w base v7 v8 xss us) (b off c : Nat) (u : Value) (hu1 : u.oneCell' = true) (hx : a.eval x = .slice (some ⟨b, off, none⟩) 1 c)
   (hc : w.cell? ⟨b, off, none⟩ = some u) (hlen : us.length < 1000000) (hbase : base ≤ w.heap.size)
   (h : ∀ v' w', RowsT 4 w' base v7 v' xss (us ++ [u]) → Below base w w' → wpList Tryz.prog ops Q rest (a.put o.dst v') w') : wpList Tryz.prog ops Q (o :: rest) a w := by
 obtain ⟨i0, hi, hz0, hz1, hz2⟩ := info_parts infoBool
 obtain ⟨vals, h1, h3, h4, h5⟩ := hown
 refine wpList_append_own_at w hgd s x _ ho base 4 i0 _ 1 1 Tryz.underlying222 hi hz0 hz1 hz2 rfl (by decide) v8 us.length _ hs h5 ⟨b, off, none⟩ 1 c [u] hx rfl ?_ ?_ ?_ ?_ hbase ?_
 · intro j u' hu
   cases j with
   | zero => simp at hu; subst hu; simpa [Addr.add] using hc
   | succ j => simp at hu
 · intro u' hu; simp at hu; subst hu; exact hu1
 · unfold maxLen; omega
 · omega
 · intro v' w' hown' hg hnil hat
   have hnew : ∀ b' : Nat, b' < w.heap.size → v8.ownBlock ≠ some b' → v'.ownBlock ≠ some b' := fun b' hb' hv e => by
     rcases hat with e' | e'
     · rw [e'] at e; exact hv e
     · rw [e'] at e; have := Option.some.inj e; omega
   refine h v' w' ⟨vals, World.ownsRow.kept h1 hg ?_, h3, fun i xs hi => ?_, by rw [List.length_append]; exact hown'⟩ ((Below.refl base w).grown hg hbase fun k hk => (World.ownsRow.lt h5 k hk).1)
   · cases hv7 : v7.ownBlock with
     | none => exact .inl rfl
     | some g => exact .inr fun e => ownsRow_ne h1 h5 (by decide) g hv7 e.symm
   · obtain ⟨a', n', c', e1, e2, e3⟩ := h4 i xs hi
     exact ⟨a', n', c', e1, e2.kept hg (fun hn b o e => (e3 hn b o e).2), fun hn b' o' e => ⟨(e3 hn b' o' e).1, hnew b' (e2.lt hn e) (e3 hn b' o' e).2⟩⟩
theorem app8Int {ops : Array Oper} {rest : List Oper} {o : Oper} {a : Act} {Q : Exit → Act → World → Prop} (w : World) (hgd : o.guard = none) (s x : Operand)
   (ho : o.op = .call { callee := .builtin .append, args := #[s, x], argTypes := #[25, 25] })
   (base : Nat) (v7 v8 : Value) (xss : List (List Int)) (us : List Value) (hs : a.eval s = v8) (hown : RowsT 3 w base v7 v8 xss us) (b off c : Nat) (u : Value) (hu1 : u.oneCell' = true) (hx : a.eval x = .slice (some ⟨b, off, none⟩) 1 c)
   (hc : w.cell? ⟨b, off, none⟩ = some u) (hlen : us.length < 1000000) (hbase : base ≤ w.heap.size)
   (h : ∀ v' w', RowsT 3 w' base v7 v' xss (us ++ [u]) → Below base w w' → wpList Tryz.prog ops Q rest (a.put o.dst v') w') : wpList Tryz.prog ops Q (o :: rest) a w := by
 obtain ⟨i0, hi, hz0, hz1, hz2⟩ := info_parts infoInt
 obtain ⟨vals, h1, h3, h4, h5⟩ := hown
 refine wpList_append_own_at w hgd s x _ ho base 3 i0 _ 1 8 Tryz.underlying25 hi hz0 hz1 hz2 rfl (by decide) v8 us.length _ hs h5 ⟨b, off, none⟩ 1 c [u] hx rfl ?_ ?_ ?_ ?_ hbase ?_
 · intro j u' hu
   cases j with
   | zero => simp at hu; subst hu; simpa [Addr.add] using hc
   | succ j => simp at hu
 · intro u' hu; simp at hu; subst hu; exact hu1
 · unfold maxLen; omega
 · omega
 · intro v' w' hown' hg hnil hat
   have hnew : ∀ b' : Nat, b' < w.heap.size → v8.ownBlock ≠ some b' → v'.ownBlock ≠ some b' := fun b' hb' hv e => by
     rcases hat with e' | e'
     · rw [e'] at e; exact hv e
     · rw [e'] at e; have := Option.some.inj e; omega
   refine h v' w' ⟨vals, World.ownsRow.kept h1 hg ?_, h3, fun i xs hi => ?_, by rw [List.length_append]; exact hown'⟩ ((Below.refl base w).grown hg hbase fun k hk => (World.ownsRow.lt h5 k hk).1)
   · cases hv7 : v7.ownBlock with
     | none => exact .inl rfl
     | some g => exact .inr fun e => ownsRow_ne h1 h5 (by decide) g hv7 e.symm
   · obtain ⟨a', n', c', e1, e2, e3⟩ := h4 i xs hi
     exact ⟨a', n', c', e1, e2.kept hg (fun hn b o e => (e3 hn b o e).2), fun hn b' o' e => ⟨(e3 hn b' o' e).1, hnew b' (e2.lt hn e) (e3 hn b' o' e).2⟩⟩
end Go.Proofs.YtkddkkcfpnndlaaGreatDoor

namespace Go.Proofs.YtkddkkcfpnndlaaGreatDoor
open Go.RowKit Sale

theorem RowsT.lower {T : TypeId} {w : World} {base base' : Nat} {v7 v8 : Value} {xss : List (List Int)} {us : List Value} (h : RowsT T w base v7 v8 xss us) (hb : base' ≤ base) : RowsT T w base' v7 v8 xss us := by
 obtain ⟨vals, h1, h2, h3, h4⟩ := h
 have low : ∀ {T : TypeId} {v : Value} {n : Nat} {us : List Value}, w.ownsRow base T 1 v n us → w.ownsRow base' T 1 v n us := fun {T v n us} h => by
   obtain ⟨h1, h2⟩ := h
   refine ⟨h1, ?_⟩
   rcases h2 with h2 | ⟨g, cap, cur, hv, hg, r⟩
   · exact .inl h2
   · exact .inr ⟨g, cap, cur, hv, by omega, r⟩
 exact ⟨vals, low h1, h2, h3, low h4⟩

set_option maxRecDepth 100000 in
set_option maxHeartbeats 4000000 in
theorem all12_yes (ra ba oa pa : Option Addr) (rn rc bn bc on oc pn pc : Nat) (m : Mkt) (prices : List Int) (w : World) (hm : MktAt w ra ba oa rn rc bn bc on oc m) (hc : mcheck m = true) (hp : Ints w pa pn pc prices) (hpn : pn = rn) (hpp : ∀ x, x ∈ prices → 0 ≤ x ∧ x ≤ 2000000) :
   Calls Tryz.prog 188 #[.agg #[.slice ra rn rc, .slice ba bn bc, .slice oa on oc], .slice pa pn pc] w fun e w' => ∃ v7 v8, e = .returned (.tuple #[v7, v8, .int .i64 0]) ∧ RowsT 4 w' w.heap.size v7 v8 (demItems m prices) (demNone m prices) ∧ Below w.heap.size w w' := by
 subst hpn
 have hok := mcheck_ok hc
 have hrl := hm.res.len
 have hbl := hm.bids.len
 have hn1 := hok.n1
 have hn8 := hok.n8
 have hm8 := hok.m8
 rw [hrl] at hn1 hn8
 rw [hbl] at hm8
 have HSH := Lib.hid (short_of hok hm)
 have HPP := Lib.hid hpp; clear hpp
 have HRL := Lib.hid hrl; clear hrl
 have HBL := Lib.hid hbl; clear hbl
 have HOK := Lib.hid hok; clear hok
 have HC := Lib.hid hc; clear hc
 have HM := Lib.hid (mw_start w ra ba oa pn rc bn bc on oc)
 obtain ⟨c0, c1, c2, hs, hbw⟩ := mw_kept HM.out
 have hma := hm.below hbw (Nat.le_refl _)
 have hpa := hp.below hbw (Nat.le_refl _)
 obtain ⟨w1, hw1⟩ : ∃ w1, w1 = mw w ra ba oa pn rc bn bc on oc := ⟨_, rfl⟩
 rw [← hw1] at c0 c1 c2 hma hbw hpa
 have HM1 := Lib.hid hma; clear hma
 have HP1 := Lib.hid hpa; clear hpa
 have HBW := Lib.hid hbw; clear hbw
 have hw1' : w.alloc (.cells #[.slice ra pn rc, .slice ba bn bc, .slice oa on oc] 57) = w1 := hw1.symm
 clear hw1 hm hs HM hp
 go_enter Tryz.func188, Tryz.ntmps188
 go_wp2_with fail
 try rw [hw1']
 clear hw1'
 refine (ref05_any ra ba oa pn rc bn bc on oc m w1 HM1.out HSH.out.r HSH.out.b HSH.out.o HSH.out.x).mono ?_
 rw [HC.out]
 rintro e w2 ⟨rfl, hb⟩
 have HB2 := Lib.hid (HBW.out.trans (hb.mono HBW.out.size))
 have c0 := cell_st hb c0
 have c1 := cell_st hb c1
 have HM2 := Lib.hid (HM1.out.below hb (Nat.le_refl _))
 have HP2 := Lib.hid (HP1.out.below hb (Nat.le_refl _))
 clear hb c2 HM1 HBW HP1
 have HPR := Lib.hid (prices12_yes pa pn pc prices w2 HP2.out hn1 hn8 HPP.out)
 go_wp2_with fail
 refine HPR.out.mono ?_
 rintro e w3 ⟨rfl, rfl⟩
 clear HPR
 go_wp2_with fail
 go_loopg [7, 8, 9] bn (fun g' s7 s8 s9 wr => ∃ (k : Nat) (v7 v8 : Value), k + g' = bn ∧ s9 = .int .i64 k ∧ s7 = v7 ∧ s8 = v8 ∧ RowsT 4 wr w2.heap.size v7 v8 ((demItems m prices).take k) ((demNone m prices).take k) ∧ Below w2.heap.size w2 wr)
 case atStart => exact ⟨0, _, _, by omega, rfl, rfl, rfl, RowsT.nil _ _ _, Below.refl _ _⟩
 case round =>
   obtain ⟨k, v7, v8, hk, rfl, hv7, hv8, hO, hB⟩ := hrel
   replace hv7 := hv7.symm
   subst hv7
   replace hv8 := hv8.symm
   subst hv8
   obtain ⟨w3, rfl⟩ : ∃ w3, w3 = wr := ⟨_, rfl⟩
   have HK := Lib.hid hk; clear hk
   have HO := Lib.hid hO; clear hO
   have hbs := hB.size
   have hbs2 := HB2.out.size
   have c1w := cell_st hB c1
   by_cases hlt : k < bn
   · obtain ⟨bid, hbid⟩ := HM2.out.bids.get hlt
     obtain ⟨bb, bo, rfl⟩ := HM2.out.bids.addr (by omega)
     obtain ⟨la, ln, lc, hcl0, hli⟩ := HM2.out.bids.cell bb bo rfl k bid hbid
     have hcl := cell_st hB hcl0
     have hbk := HOK.out.bid bid (List.mem_of_getElem? hbid)
     have hgm : (demItems m prices).take (k + 1) = (demItems m prices).take k ++ [nats (demOf bid prices).1] := by
       rw [List.take_add_one]; simp [demItems, hbid]
     have hgn : (demNone m prices).take (k + 1) = (demNone m prices).take k ++ [.bool ((demOf bid prices).2 == 0)] := by
       rw [List.take_add_one]; simp [demNone, hbid]
     have ht1 : ((demItems m prices).take k).length = k := by rw [List.length_take]; unfold demItems; rw [List.length_map, HBL.out]; omega
     have ht2 : ((demNone m prices).take k).length = k := by rw [List.length_take]; unfold demNone; rw [List.length_map, HBL.out]; omega
     have HGM := Lib.hid (And.intro hgm (And.intro hgn (And.intro ht1 ht2))); clear hgm hgn ht1 ht2
     have hdb : ∀ x, x ∈ nats (demOf bid prices).1 → -9223372036854775808 ≤ x ∧ x ≤ 9223372036854775807 := fun x hx => by
       obtain ⟨j, hj, rfl⟩ := List.mem_map.1 hx
       have := demOf_lt hj
       rcases hbk with e | ⟨e, _⟩
       · rw [e] at this; simp at this
       · have := HRL.out; omega
     have hdl : (nats (demOf bid prices).1).length ≤ 8 := by
       unfold nats; rw [List.length_map]
       have := demOf_len bid prices
       rcases hbk with e | ⟨e, _⟩
       · have h0 : bid.length = 0 := by rw [e]; rfl
         omega
       · have := HRL.out; omega
     have HDB := Lib.hid (And.intro hdb hdl); clear hdb hdl
     have HF := Lib.hid (of12_yes la pa ln lc pn pc bid prices w3 (hli.below hB (Nat.le_refl _)) (HP2.out.below hB (Nat.le_refl _)) hn1 hn8 HPP.out (by rw [← HRL.out]; exact hbk))
     have HB := Lib.hid hB; clear hB
     have i1 : (k : Int) < (bn : Int) := by omega
     obtain ⟨dg, hdg⟩ : ∃ d, d = (demOf bid prices).2 := ⟨_, rfl⟩
     obtain ⟨ds, hds⟩ : ∃ d, d = nats (demOf bid prices).1 := ⟨_, rfl⟩
     unfold Of12 at HF
     rw [← hdg, ← hds] at HF
     rw [← hdg, ← hds] at HGM
     rw [← hds] at HDB
     clear hdg hds hcl0 hli hbk hbid
     go_wp2_with fail
     refine HF.out.mono ?_
     rintro e w4 ⟨v, rfl, hOw, hb4⟩
     obtain ⟨a4, c4, rfl, hi4⟩ := hOw.ints (by have := HDB.out.2; omega) HDB.out.1
     have hz4 := hb4.size
     have hap : ∀ B, w3.heap.size ≤ B ∨ True → True := fun _ _ => trivial
     clear hap
     have HO4 := Lib.hid (HO.out.below hb4 (Nat.le_refl _))
     have hlo : ∀ (n0 : Nat), n0 = ds.length → 0 < n0 → ∀ b o, a4 = some ⟨b, o, none⟩ → v7.ownBlock ≠ some b ∧ v8.ownBlock ≠ some b := fun n0 hn hp b o e => by
       subst e
       have hge : w3.heap.size ≤ b := by
         rcases hOw.2 with ⟨hv, h0⟩ | ⟨g, cap, cur, hv, hg, _⟩
         · cases hv
         · have : b = g := by injection hv with hv; injection hv with hv; injection hv
           omega
       refine ⟨fun e => ?_, fun e => ?_⟩
       · have := (OwnRows.lt HO.out.rows b e).2; omega
       · have := (HO.out.lt8 b e).2; omega
     have HLO := Lib.hid (hlo _ rfl); clear hlo hOw
     have HI4 := Lib.hid hi4; clear hi4
     have HB4 := Lib.hid (HB.out.trans (hb4.mono hbs)); clear hb4 HF
     go_wp2_with (at_builtin; refine appT7 (by decide) _ rfl _ _ rfl w2.heap.size v7 v8 ((demItems m prices).take k) ((demNone m prices).take k) rfl (HO4.out.below ((Below.refl _ w4).alloc (Nat.le_refl _) _) (Nat.le_refl _)) w4.heap.size 0 1 a4 ds.length c4 ds rfl (by simp [go_sem]) (HI4.out.below ((Below.refl _ w4).alloc (Nat.le_refl _) _) (Nat.le_refl _)) HLO.out (by rw [HGM.out.2.2.1]; omega) (by simp; omega) ?_)
     intro v7' w5 hO5 hb5
     have hb45 : Below w2.heap.size w4 w5 := ((Below.refl w2.heap.size w4).alloc (by omega) _).trans hb5
     have HB5 := Lib.hid (HB4.out.trans hb45)
     have hz5 := hb45.size
     have HO5 := Lib.hid hO5; clear hO5 hb5 hb45
     go_wp2_with (at_builtin; refine app8Bool _ rfl _ _ rfl w2.heap.size v7' v8 ((demItems m prices).take k ++ [ds]) ((demNone m prices).take k) rfl (HO5.out.below ((Below.refl _ w5).alloc (Nat.le_refl _) _) (Nat.le_refl _)) w5.heap.size 0 1 (.bool (dg == 0)) rfl rfl (by simp [go_sem]) (by rw [HGM.out.2.2.2]; omega) (by simp; omega) ?_)
     intro v8' w6 hO6 hb6
     have HB6 := Lib.hid (HB5.out.trans (((Below.refl w2.heap.size w5).alloc (by omega) (.cells #[.bool (dg == 0)] 4)).trans hb6))
     have HO6 := Lib.hid hO6; clear hO6 hb6
     go_wp2_with fail
     go_roundg (gk - 1)
     case measure => have := HK.out; omega
     case rel =>
       refine ⟨k + 1, _, _, by have := HK.out; omega, by go_num, rfl, rfl, ?_, HB6.out⟩
       rw [HGM.out.1, HGM.out.2.1]
       exact HO6.out
   · obtain rfl : k = bn := by have := HK.out; omega
     have hO2 := HO.out
     rw [List.take_of_length_le (by unfold demItems; rw [List.length_map, HBL.out]; omega), List.take_of_length_le (by unfold demNone; rw [List.length_map, HBL.out]; omega)] at hO2
     have HO2 := Lib.hid hO2; clear hO2
     have HB := Lib.hid hB; clear hB
     go_wp2_with fail
     go_ret3
     exact ⟨v7, v8, rfl, HO2.out.lower hbs2, HB2.out.trans (HB.out.mono hbs2)⟩
end Go.Proofs.YtkddkkcfpnndlaaGreatDoor

namespace Go.Proofs.YtkddkkcfpnndlaaGreatDoor
open Go.RowKit Sale

theorem in13_any (a : Option Addr) (n c : Nat) (xs : List Int) (k : Int) (w : World) (h : Ints w a n c xs) :
   Calls Tryz.prog 190 #[.slice a n c, .int .i64 k] w fun e w' => e = .returned (.bool (xs.contains k)) ∧ w = w' := by
 have hb := h.big
 have HH := Lib.hid h; clear h
 go_enter Tryz.func190, Tryz.ntmps190
 go_wp2_with fail
 go_loopg [5] n (fun g s5 wr => ∃ j : Nat, j + g = n ∧ s5 = .int .i64 j ∧ (∀ x, x ∈ xs.take j → x ≠ k) ∧ wr = w)
 case atStart => exact ⟨0, by omega, rfl, fun x h => by simp at h, rfl⟩
 case round =>
   obtain ⟨j, hj, rfl, ht, rfl⟩ := hrel
   have HJ := Lib.hid hj; clear hj
   have HT := Lib.hid ht; clear ht
   by_cases hlt : j < n
   · obtain ⟨x, hx, _⟩ := HH.out.get hlt
     obtain ⟨b, o, rfl⟩ := HH.out.addr (by omega)
     have hc := HH.out.cell b o rfl j x hx
     have HX := Lib.hid hx; clear hx
     have i1 : (j : Int) < (n : Int) := by omega
     by_cases e : x = k
     · have e1 : (x == k) = true := by simpa using e
       have HE := Lib.hid e; clear e
       go_wp2_with fail
       go_ret
       exact ⟨ret_bool (by rw [List.contains_eq_mem, decide_eq_true]; exact HE.out ▸ List.mem_of_getElem? HX.out), rfl⟩
     · have e1 : (x == k) = false := by simpa using e
       have HE := Lib.hid e; clear e
       go_wp2_with fail
       go_roundg (gk - 1)
       case measure => have := HJ.out; omega
       case rel =>
         refine ⟨j + 1, by have := HJ.out; omega, by go_num, fun y hy => ?_, rfl⟩
         rw [List.take_add_one, HX.out] at hy
         simp only [Option.toList_some, List.mem_append, List.mem_singleton] at hy
         rcases hy with hy | rfl
         · exact HT.out y hy
         · exact HE.out
   · obtain rfl : j = n := by have := HJ.out; omega
     have hl := HH.out.len
     have HL := Lib.hid hl; clear hl
     go_wp2_with fail
     go_ret
     refine ⟨ret_bool ?_, rfl⟩
     have ht := HT.out
     rw [List.take_of_length_le (by have := HL.out; omega)] at ht
     rw [List.contains_eq_mem, decide_eq_false]
     intro hm
     exact ht k hm rfl


theorem foldmin_min (l : List Int) : ∀ a b : Int, l.foldl min (min a b) = min a (l.foldl min b) := by
 induction l with
 | nil => intro a b; rfl
 | cons x l ih =>
   intro a b
   rw [List.foldl_cons, List.foldl_cons, ← ih a (min b x)]
   congr 1
   omega
theorem lmin_append {l r : List Int} (hl : l ≠ []) (hr : r ≠ []) : lmin (l ++ r) = min (lmin l) (lmin r) := by
 cases l with
 | nil => exact absurd rfl hl
 | cons x l =>
   cases r with
   | nil => exact absurd rfl hr
   | cons y r =>
     show (l ++ y :: r).foldl min x = min (l.foldl min x) (r.foldl min y)
     rw [List.foldl_append, List.foldl_cons, foldmin_min]
def byOf (l : List Int) : Int := if l = [] then -1 else lmin l
theorem byOf_append {l r : List Int} (hr : r ≠ []) (h0 : ∀ x, x ∈ l → 0 ≤ x) : byOf (l ++ r) = if byOf l < 0 ∨ lmin r < byOf l then lmin r else byOf l := by
 unfold byOf
 rw [if_neg (by simp [hr])]
 by_cases hl : l = []
 · subst hl
   rw [if_pos rfl, if_pos (.inl (by omega)), List.nil_append]
 · rw [if_neg hl, lmin_append hl hr]
   have h1 := h0 _ (lmin_mem hl)
   split <;> omega
theorem lmin_snoc (G v : Int) (l : List Int) : lmin (G :: (l ++ [v])) = min (lmin (G :: l)) v := by
 show (l ++ [v]).foldl min G = min (l.foldl min G) v
 rw [List.foldl_append]; rfl

theorem gnOf_gnF (bids : List (List Int)) (q : List Int) (i k : Nat) : gnOf bids q i k = gnF (bids.getD i []) q k := rfl
theorem gnF_le {bid q : List Int} {k : Nat} (h : k < bid.length) : gnF bid q k ≤ gnTo bid q bid.length :=
 foldMax_ge (fun _ => true) (gnF bid q) _ _ k (List.mem_range.2 h) rfl
theorem gnTo_nonneg (bid q : List Int) : ∀ k, 0 ≤ gnTo bid q k
 | 0 => by unfold gnTo; simp [foldMax]
 | k + 1 => by have := gnTo_nonneg bid q k; rw [gnTo_succ]; omega
theorem must_top {m : Mkt} {q : List Int} (hok : FarOk m q (wantsM m q) (mustM m q)) {i : Nat} (hi : i ∈ mustM m q) : gnOf m.bids q i (((wantsM m q).getD i []).getD 0 0) = gnTo (m.bids.getD i []) q (m.bids.getD i []).length := by
 have hlt := hok.lt i hi
 have hne := hok.ne i hi
 have hb : m.bids[i]? = some m.bids[i] := List.getElem?_eq_getElem hlt
 have hg : m.bids.getD i [] = m.bids[i] := by rw [List.getD_eq_getElem?_getD, hb]; rfl
 have hn : isNone m.bids[i] q = false := by
   unfold mustM at hi
   have := (List.mem_filter.1 hi).2
   rw [hg] at this
   simpa using this
 have hw : (wantsM m q).getD i [] = (demOf m.bids[i] q).1 := by
   rw [List.getD_eq_getElem?_getD]
   unfold wantsM
   rw [List.getElem?_map, hb]
   simp [hn]
 rw [gnOf_gnF, hg, hw]
 rw [hw] at hne
 obtain ⟨z, l, hz⟩ := List.exists_cons_of_ne_nil hne
 have hm : z ∈ (demOf m.bids[i] q).1 := by rw [hz]; exact List.mem_cons_self
 rw [hz]
 rw [demOf_items] at hm
 have := (List.mem_filter.1 hm).2
 simpa using this
theorem far_nonneg {m : Mkt} {q : List Int} (hok : FarOk m q (wantsM m q) (mustM m q)) {X : List Nat} {i : Nat} (hi : i ∈ mustM m q) : ∀ x, x ∈ farRow m.bids q (wantsM m q) X i → 0 ≤ x := fun x hx => by
 have ht := must_top hok hi
 have hbl := (hok.row i hi).1
 unfold farRow at hx
 split at hx
 · cases hx
 · rw [ht] at hx
   rcases List.mem_cons.1 hx with rfl | hx
   · exact gnTo_nonneg _ _ _
   · obtain ⟨k, hk, rfl⟩ := List.mem_map.1 hx
     have hk' := List.mem_range.1 (List.mem_filter.1 hk).1
     have := gnF_le (bid := m.bids.getD i []) (q := q) (k := k) (by omega)
     rw [gnOf_gnF]
     omega
theorem Rows.clip {w : World} {a : Option Addr} {n c : Nat} {xss : List (List Int)} (h : Rows w a n c xss) : Rows w a n n xss := ⟨h.len, Nat.le_refl _, h.big, h.addr, h.cell⟩
theorem few_in2 {m : Mkt} (hm : MOk m) {q : List Int} (hp : PrOk m q) {w : World} {wa ua : Option Addr} {bn wc un uc : Nat} (hw : Rows w wa bn wc ((wantsM m q).map nats)) (hu : Ints w ua un uc (nats (mustM m q))) (hbl : m.bids.length = bn) :
   FewIn w wa ua bn wc un uc (wantsM m q) m.res.length (mustM m q) := by
 have h := few_in hm hp hw.clip hu hbl
 exact ⟨hw, h.s, h.chk, h.ris, h.nd, h.lt, h.n8, h.s8, h.b8⟩
end Go.Proofs.YtkddkkcfpnndlaaGreatDoor

namespace Go.Proofs.YtkddkkcfpnndlaaGreatDoor
open Go.RowKit Sale

def StepR (prices : List Int) (o : Option (List Int)) (w : World) (e : Ending) (w' : World) : Prop := ∃ a n c, e = .returned (.tuple #[.slice a n c, .bool o.isSome, .int .i64 0]) ∧ Ints w' a n c (o.getD prices) ∧ Below w.heap.size w w'

theorem wants_next {m : Mkt} {q : List Int} {k : Nat} {bid : List Int} (hb : m.bids[k]? = some bid) : ((wantsM m q).take (k + 1)).map nats = ((wantsM m q).take k).map nats ++ [nats (if isNone bid q then [] else (demOf bid q).1)] := by
 rw [List.take_add_one, List.map_append]
 unfold wantsM
 rw [List.getElem?_map, hb]; simp
theorem ownsRow_at {T : TypeId} {w : World} {base n : Nat} {v : Value} {us : List Value} (h : w.ownsRow base T 1 v n us) {k : Nat} {u : Value} (hu : us[k]? = some u) : ∃ g c, v = .slice (some ⟨g, 0, none⟩) n c ∧ n = us.length ∧ w.cell? ⟨g, k, none⟩ = some u := by
 have hl := h.1
 rcases h.2 with ⟨hv, hn⟩ | ⟨g, cap, cur, hv, hg, hh, hc, hm, hs, ht⟩
 · have : us = [] := List.eq_nil_of_length_eq_zero (by omega)
   subst this; simp at hu
 · refine ⟨g, cap, hv, by omega, ?_⟩
   have h5 : (cur.toList.take (n * 1))[k]? = some u := by rw [ht]; exact hu
   have hk : k < us.length := (List.getElem?_eq_some_iff.1 hu).1
   rw [List.getElem?_take_of_lt (by omega)] at h5
   rw [cell_of_row w g k cur _ _ hh]
   simpa using h5

set_option maxRecDepth 100000 in
set_option maxHeartbeats 8000000 in
theorem step13_yes (ra ba oa pa : Option Addr) (rn rc bn bc on oc pn pc : Nat) (m : Mkt) (prices : List Int) (w : World) (hm : MktAt w ra ba oa rn rc bn bc on oc m) (hc : mcheck m = true) (hp : Ints w pa pn pc prices) (hpr : PrOk m prices) :
   Calls Tryz.prog 161 #[.agg #[.slice ra rn rc, .slice ba bn bc, .slice oa on oc], .slice pa pn pc] w (StepR prices (stepL m prices) w) := by
 have hok := mcheck_ok hc
 have hrl := hm.res.len
 have hbl := hm.bids.len
 have hpl := hp.len
 have hpn : pn = rn := by have := hpr.len; omega
 subst hpn
 have hn1 := hok.n1
 have hn8 := hok.n8
 have hm8 := hok.m8
 rw [hrl] at hn1 hn8
 rw [hbl] at hm8
 have hfo := far_ok hok hpr
 have hpa := hpr.all hok
 have HFO := Lib.hid hfo; clear hfo
 have HPA := Lib.hid hpa; clear hpa
 have HSH := Lib.hid (short_of hok hm)
 have HPR := Lib.hid hpr; clear hpr
 have HRL := Lib.hid hrl; clear hrl
 have HBL := Lib.hid hbl; clear hbl
 have HPL := Lib.hid hpl; clear hpl
 have HOK := Lib.hid hok; clear hok
 have HC := Lib.hid hc; clear hc
 have HM := Lib.hid (mw_start w ra ba oa pn rc bn bc on oc)
 obtain ⟨c0, c1, c2, hs, hbw⟩ := mw_kept HM.out
 have hma := hm.below hbw (Nat.le_refl _)
 have hpa := hp.below hbw (Nat.le_refl _)
 obtain ⟨w1, hw1⟩ : ∃ w1, w1 = mw w ra ba oa pn rc bn bc on oc := ⟨_, rfl⟩
 rw [← hw1] at c0 c1 c2 hma hbw hpa
 have HM1 := Lib.hid hma; clear hma
 have HP1 := Lib.hid hpa; clear hpa
 have HBW := Lib.hid hbw; clear hbw
 have hw1' : w.alloc (.cells #[.slice ra pn rc, .slice ba bn bc, .slice oa on oc] 57) = w1 := hw1.symm
 clear hw1 hm hs HM hp
 go_enter Tryz.func161, Tryz.ntmps161
 go_wp2_with fail
 try rw [hw1']
 clear hw1'
 refine (ref05_any ra ba oa pn rc bn bc on oc m w1 HM1.out HSH.out.r HSH.out.b HSH.out.o HSH.out.x).mono ?_
 rw [HC.out]
 rintro e w2 ⟨rfl, hb⟩
 have HB2 := Lib.hid (HBW.out.trans (hb.mono HBW.out.size))
 have c0 := cell_st hb c0
 have c1 := cell_st hb c1
 have c2 := cell_st hb c2
 have HM2 := Lib.hid (HM1.out.below hb (Nat.le_refl _))
 have HP2 := Lib.hid (HP1.out.below hb (Nat.le_refl _))
 clear hb HM1 HBW HP1
 go_wp2_with fail
 go_loopg [7] pn (fun g' s7 wr => ∃ k : Nat, k + g' = pn ∧ s7 = .int .i64 k ∧ Below w2.heap.size w2 wr)
 case atStart => exact ⟨0, by omega, rfl, Below.refl _ _⟩
 case round =>
 obtain ⟨k, hk, rfl, hB⟩ := hrel
 have HK := Lib.hid hk; clear hk
 by_cases hlt : k < pn
 · obtain ⟨x, hx, _⟩ := HP2.out.get hlt
   obtain ⟨y, hy, _⟩ := HM2.out.res.get hlt
   obtain ⟨pb, po, rfl⟩ := HP2.out.addr (by omega)
   obtain ⟨rb, ro, rfl⟩ := HM2.out.res.addr (by omega)
   have cx := cell_st hB (HP2.out.cell pb po rfl k x hx)
   have cy := cell_st hB (HM2.out.res.cell rb ro rfl k y hy)
   have c0w := cell_st hB c0
   have hbd := HPR.out.bd k (by rw [HRL.out]; exact hlt)
   rw [getD_at hx, getD_at hy] at hbd
   have e1 : decide (x < y) = false := by simp; omega
   have e2 : decide (2000000 < x) = false := by simp; omega
   have i1 : (k : Int) < (pn : Int) := by omega
   have HB := Lib.hid hB; clear hB hx hy hbd
   go_wp2_with fail
   go_quiet (fail)
   go_wp2_with fail
   go_roundg (gk - 1)
   case measure => have := HK.out; omega
   case rel => exact ⟨k + 1, by have := HK.out; omega, by go_num, below_drewN HB.out _⟩
 obtain rfl : pn = k := by have := HK.out; omega
 obtain ⟨w3, rfl⟩ : ∃ w3, w3 = wr := ⟨_, rfl⟩
 have c0 := cell_st hB c0
 have c1 := cell_st hB c1
 have c2 := cell_st hB c2
 have HB3 := Lib.hid (HB2.out.trans (hB.mono HB2.out.size))
 have HM3 := Lib.hid (HM2.out.below hB (Nat.le_refl _))
 have HP3 := Lib.hid (HP2.out.below hB (Nat.le_refl _))
 clear hB HB2 HM2 HP2
 have HAL := Lib.hid (all12_yes ra ba oa pa pn rc bn bc on oc pn pc m prices w3 HM3.out HC.out HP3.out rfl HPA.out)
 go_wp2_with fail
 refine HAL.out.mono ?_
 rintro e w4 ⟨v8, v9, rfl, hAll, hb4⟩
 have c1 := cell_st hb4 c1
 have HM4 := Lib.hid (HM3.out.below hb4 (Nat.le_refl _))
 have HP4 := Lib.hid (HP3.out.below hb4 (Nat.le_refl _))
 have HB4 := Lib.hid (HB3.out.trans (hb4.mono HB3.out.size))
 have hz4 := hb4.size
 clear hb4 HAL HM3 HP3 HB3 c0 c2
 obtain ⟨a8, x8, rfl⟩ := hAll.rows.lit
 have hdl : (demItems m prices).length = bn := by unfold demItems; rw [List.length_map, HBL.out]
 have hdn : (demNone m prices).length = bn := by unfold demNone; rw [List.length_map, HBL.out]
 rw [hdl] at hAll ⊢
 have HAll := Lib.hid hAll; clear hAll
 have HDL := Lib.hid (And.intro hdl hdn); clear hdl hdn
 go_wp2_with fail
 go_loopg [11, 12, 13] bn (fun g' s11 s12 s13 wr => ∃ (i : Nat) (v11 v12 : Value), i + g' = bn ∧ s13 = .int .i64 i ∧ s11 = v11 ∧ s12 = v12 ∧ RowsT 3 wr w4.heap.size v12 v11 (((wantsM m prices).take i).map nats) ((partM m prices i).map fun j : Nat => Value.int .i64 (j : Int)) ∧ Below w4.heap.size w4 wr)
 case atStart => exact ⟨0, _, _, by omega, rfl, rfl, rfl, RowsT.nil _ _ _, Below.refl _ _⟩
 case round =>
 obtain ⟨i, v11, v12, hi, rfl, hv11, hv12, hO, hB⟩ := hrel
 replace hv11 := hv11.symm
 subst hv11
 replace hv12 := hv12.symm
 subst hv12
 have HI := Lib.hid hi; clear hi
 have HO := Lib.hid hO; clear hO
 have hbs := hB.size
 by_cases hil : i < bn
 · obtain ⟨bid, hbid⟩ := HM4.out.bids.get hil
   have hwn := wants_next (q := prices) hbid
   have hnone : (demNone m prices)[i]? = some (.bool (isNone bid prices)) := by unfold demNone; rw [List.getElem?_map, hbid]; rfl
   have hitem : (demItems m prices)[i]? = some (nats (demOf bid prices).1) := by unfold demItems; rw [List.getElem?_map, hbid]; rfl
   obtain ⟨vals, r1, r2, r3, r4⟩ := HAll.out
   rw [HDL.out.2] at r4
   obtain ⟨g9, c9, rfl, hn9, cn⟩ := ownsRow_at r4 hnone
   obtain ⟨ea, en, ec, e1, e2, _⟩ := r3 i _ hitem
   obtain ⟨g8, c8, hv8, hn8', ci⟩ := ownsRow_at r1 e1
   obtain ⟨e8a, -, e8c⟩ := Value.slice.inj hv8
   subst e8a
   subst e8c
   clear hv8 hn9
   have cn := cell_st hB cn
   have ci := cell_st hB ci
   have e2 := e2.below hB (Nat.le_refl _)
   have hel : ∀ b o, ea = some ⟨b, o, none⟩ → 0 < en → b < w4.heap.size := fun b o e h => by
     obtain ⟨ea', en', ec', e1', e2', _⟩ := r3 i _ hitem
     rw [e1] at e1'
     cases e1'
     exact e2'.lt h e
   have hap : 0 < en → ∀ b o, ea = some ⟨b, o, none⟩ → v12.ownBlock ≠ some b ∧ v11.ownBlock ≠ some b := fun h b o e => by
     have hb := hel b o e h
     refine ⟨fun e' => ?_, fun e' => ?_⟩
     · have := (OwnRows.lt HO.out.rows b e').1; omega
     · have := (HO.out.lt8 b e').1; omega
   have hil2 : ((wantsM m prices).take i).length = i := by rw [List.length_take, wantsM_len, HBL.out]; omega
   have hpm := partM_len m prices i
   have HAP := Lib.hid hap; clear hap hel
   have HE2 := Lib.hid e2; clear e2
   have HB := Lib.hid hB; clear hB
   have i1 : (i : Int) < (bn : Int) := by omega
   obtain ⟨xss, hxss⟩ : ∃ xss, xss = ((wantsM m prices).take i).map nats := ⟨_, rfl⟩
   have hxl : xss.length = i := by rw [hxss, List.length_map]; exact hil2
   obtain ⟨us, hus⟩ : ∃ us, us = (partM m prices i).map fun j : Nat => Value.int .i64 (j : Int) := ⟨_, rfl⟩
   have hul : us.length ≤ i := by rw [hus, List.length_map]; exact hpm
   rw [← hxss] at hwn HO
   rw [← hus] at HO
   have HXL := Lib.hid (And.intro hxl hul); clear hxl hul hxss
   have HUS := Lib.hid hus; clear hus
   clear r1 r2 r3 r4 hn8' e1 hitem hnone
   cases hnb : isNone bid prices with
   | true =>
     rw [hnb] at hwn cn
     have hpe := partM_none hbid hnb
     have HW := Lib.hid (And.intro hwn hpe); clear hwn hpe hnb
     go_wp2_with (at_builtin; refine appT7 (by decide) _ rfl _ _ rfl w4.heap.size v12 v11 xss us rfl (HO.out.below ((Below.refl _ wr).alloc (Nat.le_refl _) _) (Nat.le_refl _)) wr.heap.size 0 1 none 0 0 [] rfl (by simp [go_sem]) (Ints.empty _ _ _) (fun h => by omega) (by rw [HXL.out.1]; omega) (by simp; omega) ?_)
     intro v7' w5 hO5 hb5
     have HB5 := Lib.hid (HB.out.trans (((Below.refl w4.heap.size wr).alloc hbs _).trans hb5))
     have HO5 := Lib.hid hO5; clear hO5 hb5
     go_wp2_with fail
     go_roundg (gk - 1)
     case measure => have := HI.out; omega
     case rel =>
       refine ⟨i + 1, _, _, by have := HI.out; omega, by go_num, rfl, rfl, ?_, HB5.out⟩
       rw [HW.out.1, HW.out.2, ← HUS.out]
       exact HO5.out
   | false =>
     rw [hnb] at hwn cn
     have hpe := partM_some hbid hnb
     have HW := Lib.hid (And.intro hwn hpe); clear hwn hpe hnb
     go_wp2_with (at_builtin; refine appT7 (by decide) _ rfl _ _ rfl w4.heap.size v12 v11 xss us rfl (HO.out.below ((Below.refl _ wr).alloc (Nat.le_refl _) _) (Nat.le_refl _)) wr.heap.size 0 1 ea en ec (nats (demOf bid prices).1) rfl (by simp [go_sem]) (HE2.out.below ((Below.refl _ wr).alloc (Nat.le_refl _) _) (Nat.le_refl _)) HAP.out (by rw [HXL.out.1]; omega) (by simp; omega) ?_)
     intro v7' w5 hO5 hb5
     have hb45 : Below w4.heap.size wr w5 := ((Below.refl w4.heap.size wr).alloc hbs _).trans hb5
     have hz5 := hb45.size
     have HB5 := Lib.hid (HB.out.trans hb45)
     have HO5 := Lib.hid hO5; clear hO5 hb5 hb45
     go_wp2_with (at_builtin; refine app8Int _ rfl _ _ rfl w4.heap.size v7' v11 (xss ++ [nats (demOf bid prices).1]) us rfl (HO5.out.below ((Below.refl _ w5).alloc (Nat.le_refl _) _) (Nat.le_refl _)) w5.heap.size 0 1 (.int .i64 (i : Int)) rfl rfl (by simp [go_sem]) (by have := HXL.out.2; omega) (by simp; omega) ?_)
     intro v8' w6 hO6 hb6
     have HB6 := Lib.hid (HB5.out.trans (((Below.refl w4.heap.size w5).alloc (by omega) (.cells #[.int .i64 (i : Int)] 3)).trans hb6))
     have HO6 := Lib.hid hO6; clear hO6 hb6
     go_wp2_with fail
     go_roundg (gk - 1)
     case measure => have := HI.out; omega
     case rel =>
       refine ⟨i + 1, _, _, by have := HI.out; omega, by go_num, rfl, rfl, ?_, HB6.out⟩
       rw [HW.out.1, HW.out.2, List.map_append, ← HUS.out]
       exact HO6.out
 obtain rfl : bn = i := by have := HI.out; omega
 obtain ⟨w5, rfl⟩ : ∃ w5, w5 = wr := ⟨_, rfl⟩
 have c1 := cell_st hB c1
 have HM5 := Lib.hid (HM4.out.below hB (Nat.le_refl _))
 have HP5 := Lib.hid (HP4.out.below hB (Nat.le_refl _))
 have HB5 := Lib.hid (HB4.out.trans (hB.mono HB4.out.size))
 have hO5 := HO.out
 have hmu : partM m prices bn = mustM m prices := by unfold partM mustM; rw [HBL.out]
 have hwml : ((wantsM m prices).map nats).length = bn := by rw [List.length_map, wantsM_len, HBL.out]
 rw [hmu, List.take_of_length_le (by rw [wantsM_len, HBL.out]; omega)] at hO5
 have hmu8 := HFO.out.mu8
 obtain ⟨wa, wc, hv12e, hW⟩ := hO5.rows.rows (by omega)
 rw [hwml] at hv12e hW
 have hOu : Own w5 w4.heap.size v11 (nats (mustM m prices)) := by
   obtain ⟨vals, _, _, _, h4⟩ := hO5
   rw [List.length_map] at h4
   have e : (nats (mustM m prices)).map (Value.int .i64) = (mustM m prices).map fun j : Nat => Value.int .i64 (j : Int) := by unfold nats; rw [List.map_map]; rfl
   unfold Own; rw [e]; unfold nats; rw [List.length_map]; exact h4
 obtain ⟨ua, uc, hv11e, hU⟩ := hOu.ints (by unfold nats; rw [List.length_map]; omega) (fun x hx => by
   obtain ⟨j, hj, rfl⟩ := List.mem_map.1 hx
   have := mustM_lt hj
   have := HBL.out
   omega)
 obtain ⟨un, hun⟩ : ∃ un, un = (nats (mustM m prices)).length := ⟨_, rfl⟩
 rw [← hun] at hU hv11e
 have hul : (mustM m prices).length = un := by rw [hun]; unfold nats; rw [List.length_map]
 have hun8 : un ≤ 8 := by omega
 subst hv11e
 subst hv12e
 have HU5 := Lib.hid hU
 have HW5 := Lib.hid hW
 have HUL := Lib.hid hul
 clear hU hW hul hun hOu hmu hwml hmu8 hO5 hB HB4 HM4 HP4 HO HAll HDL HI
 go_wp2_with (at_builtin; refine appAny _ rfl _ _ rfl w5.heap.size _ [] rfl (Own.nil _ _) pa pn pc prices rfl HP5.out (by simp; omega) (Nat.le_refl _) ?_)
 intro v14 w6 hO6 _ hb6 _
 have HO6 := Lib.hid hO6
 obtain ⟨g, cap, rfl, hcap, hg, hwr⟩ := hO6.wrt (by rw [HPL.out]; omega)
 rw [HPL.out] at hcap hwr HO6
 rw [HPL.out]
 have HW6 := Lib.hid hwr
 have c1 := cell_st hb6 c1
 have HM6 := Lib.hid (HM5.out.below hb6 (Nat.le_refl _))
 have HP6 := Lib.hid (HP5.out.below hb6 (Nat.le_refl _))
 have HU6 := Lib.hid (HU5.out.below hb6 (Nat.le_refl _))
 have HWA6 := Lib.hid (HW5.out.below hb6 (Nat.le_refl _))
 have HB6 := Lib.hid (HB5.out.trans (hb6.mono HB5.out.size))
 have HFE := Lib.hid (few09_yes wa ua bn wc un uc (wantsM m prices) m.res.length (mustM m prices) w6 (few_in2 HOK.out HPR.out HWA6.out HU6.out HBL.out))
 have he : Way.fewOf (nbOf (wantsM m prices)) m.res.length (mustM m prices) = fewM m prices := rfl
 rw [he, HRL.out] at HFE
 have hwg := HB5.out.size
 clear he hb6 hwr HB5 HM5 HP5 HU5 HW5 hO6
 go_wp2_with fail
 refine HFE.out.mono ?_
 rintro e w7 ⟨v15, fb, rfl, hBA, hb7⟩
 have c1 := cell_st hb7 c1
 have HM7 := Lib.hid (HM6.out.below hb7 (Nat.le_refl _))
 have HP7 := Lib.hid (HP6.out.below hb7 (Nat.le_refl _))
 have HU7 := Lib.hid (HU6.out.below hb7 (Nat.le_refl _))
 have HWA7 := Lib.hid (HWA6.out.below hb7 (Nat.le_refl _))
 have HB7 := Lib.hid (HB6.out.trans (hb7.mono HB6.out.size))
 have HO7 := Lib.hid (HO6.out.below hb7 (Nat.le_refl _))
 have HW7 := Lib.hid (HW6.out.below hb7 HW6.out.lt)
 have hglt := HW6.out.lt
 clear hb7 HB6 HM6 HP6 HU6 HWA6 HO6 HW6 HFE
 cases hfw : fewM m prices with
 | none =>
   rw [hfw] at hBA
   obtain ⟨rfl, rfl⟩ := hBA
   have hsn : stepL m prices = none := by unfold stepL; rw [hfw]; rfl
   have HSN := Lib.hid hsn; clear hsn hfw
   go_wp2_with fail
   go_ret3
   refine ⟨_, _, _, by rw [HSN.out]; rfl, ?_, HB7.out⟩
   rw [HSN.out]
   exact HW7.out.ints hcap (by omega) fun x hx => by have := HPA.out x hx; omega
 | some X =>
   rw [hfw] at hBA
   obtain ⟨rfl, hOX⟩ := hBA
   have hsn : stepL m prices = some (upBy prices X (farM m prices X)) := by unfold stepL; rw [hfw]; rfl
   have HSN := Lib.hid hsn; clear hsn
   obtain ⟨hff, hXn, hXl⟩ := few_far HOK.out HPR.out hfw
   have hfb := farM_bd HOK.out HPR.out hfw
   rw [HRL.out] at hXl
   have hXlen : X.length ≤ pn := by
     have := Way.nodup_len hXn (m := List.range pn) fun x hx => List.mem_range.2 (hXl x hx)
     simpa using this
   obtain ⟨xa, xc, rfl, hXi⟩ := hOX.ints (by unfold nats; rw [List.length_map]; omega) (fun x hx => by
     obtain ⟨j, hj, rfl⟩ := List.mem_map.1 hx
     have := hXl j hj
     omega)
   have hxf : ∀ b o, xa = some ⟨b, o, none⟩ → 0 < (nats X).length → g < b := fun b o e h => by
     subst e
     obtain ⟨g', c', e', hge, _⟩ := hOX.row h
     have := Value.slice.inj e'
     have h2 : b = g' := by simpa using congrArg (fun o : Option Addr => (o.map Addr.block)) this.1
     omega
   obtain ⟨xn, hxn⟩ : ∃ xn, xn = (nats X).length := ⟨_, rfl⟩
   rw [← hxn] at hXi hxf hOX ⊢
   have hxl : X.length = xn := by rw [hxn]; unfold nats; rw [List.length_map]
   have HXF := Lib.hid hxf
   have HXI := Lib.hid hXi
   have HXL := Lib.hid (And.intro hXl hxl)
   have HXN := Lib.hid hXn
   have HFF := Lib.hid (And.intro hff hfb)
   have hxn8 : xn ≤ 8 := by omega
   clear hxf hXi hXl hXn hff hfb hOX hXlen hxn hfw hxl
   go_wp2_with fail
   go_loopg [18, 19, 20, 21, 22, 23, 24, 25] un (fun g' s18 s19 s20 s21 s22 s23 s24 s25 wr => ∃ j : Nat, j + g' = un ∧ s19 = .int .i64 j ∧ s18 = .int .i64 (byOf (farTo m prices (wantsM m prices) X (mustM m prices) j)) ∧ Below w7.heap.size w7 wr)
   case atStart => exact ⟨0, by omega, rfl, by simp [farTo, farAll, byOf], Below.refl _ _⟩
   case round =>
     obtain ⟨j, hj, rfl, rfl, hB⟩ := hrel
     have HJ := Lib.hid hj; clear hj
     have HB := Lib.hid hB; clear hB
     by_cases hlt : j < un
     · obtain ⟨w8, rfl⟩ : ∃ w8, w8 = wr := ⟨_, rfl⟩
       have HW8 := Lib.hid (HW7.out.below HB.out HW7.out.lt)
       have HXI8 := Lib.hid (HXI.out.below HB.out (Nat.le_refl _))
       have HP8 := Lib.hid (HP7.out.below HB.out (Nat.le_refl _))
       have HM8 := Lib.hid (HM7.out.below HB.out (Nat.le_refl _))
       have HWA8 := Lib.hid (HWA7.out.below HB.out (Nat.le_refl _))
       have c1w := cell_st HB.out c1
       obtain ⟨i, hi⟩ : ∃ i, (mustM m prices)[j]? = some i := ⟨_, List.getElem?_eq_getElem (by rw [HUL.out]; exact hlt)⟩
       have him := List.mem_of_getElem? hi
       have hib := HFO.out.lt i him
       rw [HBL.out] at hib
       obtain ⟨ub, uo, rfl⟩ := HU7.out.addr (by omega)
       have ci := cell_st HB.out (HU7.out.cell ub uo rfl j (i : Int) (by simp [nats, hi]))
       obtain ⟨L, hL⟩ : ∃ L, (wantsM m prices)[i]? = some L := ⟨_, List.getElem?_eq_getElem (by rw [wantsM_len, HBL.out]; exact hib)⟩
       have hgL : (wantsM m prices).getD i [] = L := by rw [List.getD_eq_getElem?_getD, hL]; rfl
       obtain ⟨wb, wo, rfl⟩ := HWA8.out.addr (by omega)
       obtain ⟨la, ln, lc, hcl, hli⟩ := HWA8.out.cell wb wo rfl i (nats L) (by rw [List.getElem?_map, hL]; rfl)
       have hLn := HFO.out.ne i him
       rw [hgL] at hLn
       have hnl : L.length = ln := by have := hli.len; simpa [nats] using this
       have hLp := List.length_pos_iff.2 hLn
       obtain ⟨k0, hL0⟩ : ∃ k0, L[0]? = some k0 := ⟨_, List.getElem?_eq_getElem hLp⟩
       have hLd : L.getD 0 0 = k0 := by rw [List.getD_eq_getElem?_getD, hL0]; rfl
       have hk0 := HFO.out.want i him k0 (by rw [hgL]; exact List.mem_of_getElem? hL0)
       obtain ⟨bid, x0, y0, hx1, hx2, hx3, hx4, hx5, hx6⟩ := HFO.out.gn him hk0
       have hbid8 := (HFO.out.row i him).1
       have hgb : m.bids.getD i [] = bid := by rw [List.getD_eq_getElem?_getD, hx1]; rfl
       rw [hgb] at hbid8
       rw [HPL.out] at hk0 hbid8
       have hft := farTo_succ (m := m) (q := prices) (wants := wantsM m prices) (l := X) hi
       have hnn : ∀ x, x ∈ farTo m prices (wantsM m prices) X (mustM m prices) j → 0 ≤ x := fun x hx => by
         unfold farTo farAll at hx
         obtain ⟨i', hi', hx⟩ := List.mem_flatMap.1 hx
         exact far_nonneg HFO.out (List.mem_of_mem_take hi') x hx
       have hrow1 : L.all (fun k => X.contains k) = false → farRow m.bids prices (wantsM m prices) X i = [] := fun h => by
         unfold farRow
         rw [hgL, if_pos]
         rw [List.any_eq_true]
         rw [List.all_eq_false] at h
         obtain ⟨z, h1, h2⟩ := h
         exact ⟨z, h1, by simpa using h2⟩
       have hrow2 : L.all (fun k => X.contains k) = true → farRow m.bids prices (wantsM m prices) X i = gnOf m.bids prices i k0 :: rowTo m.bids prices X i (gnOf m.bids prices i k0) pn := fun h => by
         unfold farRow
         rw [hgL, if_neg, hLd, HPL.out]
         · rfl
         · rw [List.any_eq_true]
           rintro ⟨z, h1, h2⟩
           have := List.all_eq_true.1 h z h1
           rw [this] at h2; cases h2
       obtain ⟨l0, hl0⟩ : ∃ l, l = farTo m prices (wantsM m prices) X (mustM m prices) j := ⟨_, rfl⟩
       rw [← hl0] at hft hnn ⊢
       have HFT := Lib.hid (And.intro hft (And.intro hnn (And.intro hrow1 hrow2)))
       have HLI := Lib.hid hli
       have HLL := Lib.hid (And.intro hnl hL0)
       have HBI := Lib.hid (And.intro hx1 (And.intro hgb (And.intro hbid8 him)))
       have hln0 : 0 < ln := by omega
       have hlbig := hli.big
       obtain ⟨ba0, bo0, hbae⟩ := HM8.out.bids.addr (by omega)
       subst hbae
       obtain ⟨ea, en, ec, hce, hei⟩ := HM8.out.bids.cell ba0 bo0 rfl i bid hx1
       have hen : en = pn := by have := hei.len; omega
       subst hen
       have HEI := Lib.hid hei
       obtain ⟨G, hG⟩ : ∃ G, G = gnOf m.bids prices i k0 := ⟨_, rfl⟩
       rw [← hG] at HFT hx6
       obtain ⟨lb, lo, rfl⟩ := hli.addr (by omega)
       obtain ⟨eb, eo, rfl⟩ := hei.addr (by omega)
       obtain ⟨pb, po, rfl⟩ := HP8.out.addr (by omega)
       have cz0 := hli.cell lb lo rfl 0 (k0 : Int) (by simp [nats, hL0])
       have ce0 := hei.cell eb eo rfl k0 x0 hx2
       have cp0 := HP8.out.cell pb po rfl k0 y0 hx3
       rw [Nat.add_zero] at cz0
       obtain ⟨gP, hgP⟩ : ∃ x, x = gk - 1 := ⟨_, rfl⟩
       have HGP := Lib.hid hgP
       have i1 : (j : Int) < (un : Int) := by omega
       have i2 : (i : Int) < (bn : Int) := by omega
       have i3 : (k0 : Int) < (en : Int) := by omega
       have HK0 := Lib.hid (And.intro cz0 (And.intro ce0 (And.intro cp0 (And.intro hx4 (And.intro hx5 hx6)))))
       clear hgP hG hx1 hx2 hx3 hx4 hx5 hx6 hbid8 hgb hei hli hnl hLp hLn hL0 hLd hgL hL hi him hft hnn hrow1 hrow2 hl0 cz0 ce0 cp0
       go_wp2_with fail
       go_loopg [21, 22] ln (fun g' s21 s22 wr' => ∃ t : Nat, t + g' = ln ∧ s22 = .int .i64 t ∧ s21 = .bool ((L.take t).all fun k => X.contains k) ∧ wr' = w8)
       case atStart => exact ⟨0, by omega, rfl, rfl, rfl⟩
       case round =>
         obtain ⟨t, ht, rfl, rfl, rfl⟩ := hrel
         have HT := Lib.hid ht; clear ht
         by_cases htl : t < ln
         · have hz : L[t]? = some (L[t]'(by have := HLL.out; omega)) := List.getElem?_eq_getElem _
           obtain ⟨z, hzz⟩ : ∃ z, z = L[t]'(by have := HLL.out; omega) := ⟨_, rfl⟩
           rw [← hzz] at hz
           have cz := HLI.out.cell lb lo rfl t (z : Int) (by unfold nats; rw [List.getElem?_map, hz]; rfl)
           have hal : (L.take (t + 1)).all (fun k => X.contains k) = ((L.take t).all (fun k => X.contains k) && X.contains z) := by
             rw [List.take_add_one, hz, List.all_append]; simp
           obtain ⟨ab, hab⟩ : ∃ ab, ab = (L.take t).all (fun k => X.contains k) := ⟨_, rfl⟩
           rw [← hab] at hal ⊢
           have HAL := Lib.hid hal; clear hal hab hz hzz
           have i4 : (t : Int) < (ln : Int) := by omega
           cases ab with
           | false =>
             go_wp2_with fail
             go_roundg (gk - 1)
             case measure => have := HT.out; omega
             case rel => exact ⟨t + 1, by have := HT.out; omega, by go_num, by rw [HAL.out]; rfl, rfl⟩
           | true =>
             go_wp2_with fail
             refine (in13_any xa xn xc (nats X) (z : Int) _ HXI8.out).mono ?_
             rintro e w9 ⟨rfl, rfl⟩
             rw [nats_contains]
             go_wp2_with fail
             go_roundg (gk - 1)
             case measure => have := HT.out; omega
             case rel => exact ⟨t + 1, by have := HT.out; omega, by go_num, by rw [HAL.out, Bool.true_and]; simp, rfl⟩
         · obtain rfl : ln = t := by have := HT.out; omega
           have htk : L.take ln = L := List.take_of_length_le (by have := HLL.out; omega)
           rw [htk]
           obtain ⟨ab, hab⟩ : ∃ ab, ab = L.all (fun k => X.contains k) := ⟨_, rfl⟩
           rw [← hab] at HFT ⊢
           clear hab htk
           cases ab with
           | false =>
             go_wp2_with fail
             go_roundg gP
             case measure => have := HJ.out; have := HGP.out; omega
             case rel => exact ⟨j + 1, by have := HJ.out; have := HGP.out; omega, by go_num, by rw [HFT.out.1, HFT.out.2.2.1 (by first | trivial | rfl), List.append_nil], HB.out⟩
           | true =>
             obtain ⟨cz0, ce0, cp0, ⟨hx4, hx4'⟩, ⟨hx5, hx5'⟩, hx6⟩ := HK0.out
             have hwp : wrap64 (x0 - y0) = G := by rw [hx6]; unfold wrap64; omega
             have hGb : -2000000 ≤ G ∧ G ≤ 1000000 := by omega
             have HX6 := Lib.hid hx6; clear hx6 HK0
             have hrow := HFT.out.2.2.2 (by first | trivial | rfl)
             have hft1 := HFT.out.1
             have hby := byOf_append (l := l0) (r := farRow m.bids prices (wantsM m prices) X i) (by rw [hrow]; simp) HFT.out.2.1
             rw [← hft1, hrow] at hby
             have HBY := Lib.hid hby
             clear hrow hft1 hby
             have hbr := (HFO.out.row i HBI.out.2.2.2).2
             rw [HBI.out.2.1] at hbr
             have HBR := Lib.hid hbr; clear hbr
             obtain ⟨hGb1, hGb2⟩ := hGb
             go_wp2_with fail
             go_quiet (fail)
             go_wp2_with fail
             obtain ⟨w9, rfl⟩ : ∃ w9, w9 = wr := ⟨_, rfl⟩
             go_loopg [24, 25] en (fun g' s24 s25 wr' => ∃ t : Nat, t + g' = en ∧ s25 = .int .i64 t ∧ s24 = .int .i64 (lmin (G :: rowTo m.bids prices X i G t)) ∧ Below w9.heap.size w9 wr')
             case atStart => exact ⟨0, by omega, rfl, by simp [rowTo, lmin]; exact HX6.out.symm, by first | exact below_drewN (Below.refl _ _) _ | exact Below.refl _ _ | exact (Below.refl _ _).drew⟩
             case round =>
               obtain ⟨t, ht, rfl, rfl, hB2⟩ := hrel
               have HU := Lib.hid ht; clear ht
               have HB2 := Lib.hid hB2; clear hB2
               by_cases htl : t < en
               · obtain ⟨x, hx, _⟩ := HEI.out.get htl
                 obtain ⟨y, hy, _⟩ := HP8.out.get htl
                 have c1v := cell_st HB2.out c1w
                 have hcev := cell_st HB2.out hce
                 have cx := cell_st HB2.out (HEI.out.cell eb eo rfl t x hx)
                 have cy := cell_st HB2.out (HP8.out.cell pb po rfl t y hy)
                 obtain ⟨hx1, hx2⟩ := HBR.out x (List.mem_of_getElem? hx)
                 obtain ⟨hy1, hy2⟩ := HPA.out y (List.mem_of_getElem? hy)
                 have hgn : gnOf m.bids prices i t = x - y := by unfold gnOf; rw [HBI.out.2.1, getD_at hx, getD_at hy]
                 have hri : X.contains t = true → lmin (G :: rowTo m.bids prices X i G (t + 1)) = lmin (G :: rowTo m.bids prices X i G t) := fun h => by rw [rowTo_in h]
                 have hro : X.contains t = false → lmin (G :: rowTo m.bids prices X i G (t + 1)) = min (lmin (G :: rowTo m.bids prices X i G t)) (G - (x - y)) := fun h => by rw [rowTo_out h, lmin_snoc, hgn]
                 obtain ⟨R, hR⟩ : ∃ R, R = lmin (G :: rowTo m.bids prices X i G t) := ⟨_, rfl⟩
                 rw [← hR] at hri hro ⊢
                 have HRI := Lib.hid (And.intro hri hro)
                 have HQ := Lib.hid (fun n : Nat => (in13_any xa xn xc (nats X) (t : Int) (wr.drewN n) (HXI8.out.below (below_drewN HB2.out n) (Nat.le_refl _))).mono (fun e w' h => (⟨h.1, h.2.symm⟩ : e = .returned (.bool ((nats X).contains (t : Int))) ∧ w' = wr.drewN n)))
                 rw [nats_contains] at HQ
                 have i5 : (t : Int) < (en : Int) := by omega
                 clear hri hro hgn hx hy hR
                 cases hct : X.contains t with
                 | true =>
                   have hri := HRI.out.1 hct
                   rw [hct] at HQ
                   have HCT := Lib.hid hct
                   have HRR := Lib.hid hri
                   clear hct hri HRI
                   go_wp2_with fail
                   go_quiet ((go_at_call 190; with_reducible exact Calls.quiet_of_same (HQ.out _)))
                   go_wp2_with fail
                   go_roundg (gk - 1)
                   case measure => have := HU.out; omega
                   case rel => exact ⟨t + 1, by have := HU.out; omega, by go_num, by rw [HRR.out], below_drewN HB2.out _⟩
                 | false =>
                   have hro := HRI.out.2 hct
                   rw [hct] at HQ
                   have HRR := Lib.hid hro
                   clear hct hro HRI
                   by_cases hlr : x0 - y0 - (x - y) < R
                   · have e1 : decide (x0 - y0 - (x - y) < R) = true := by simpa using hlr
                     go_wp2_with fail
                     go_quiet ((go_at_call 190; with_reducible exact Calls.quiet_of_same (HQ.out _)))
                     go_wp2_with fail
                     go_quiet (fail)
                     go_wp2_with fail
                     go_roundg (gk - 1)
                     case measure => have := HU.out; omega
                     case rel => exact ⟨t + 1, by have := HU.out; omega, by go_num, by rw [HRR.out]; have := HX6.out; congr 1; omega, below_drewN HB2.out _⟩
                   · have e1 : decide (x0 - y0 - (x - y) < R) = false := by simpa using hlr
                     go_wp2_with fail
                     go_quiet ((go_at_call 190; with_reducible exact Calls.quiet_of_same (HQ.out _)))
                     go_wp2_with fail
                     go_roundg (gk - 1)
                     case measure => have := HU.out; omega
                     case rel => exact ⟨t + 1, by have := HU.out; omega, by go_num, by rw [HRR.out]; have := HX6.out; congr 1; omega, below_drewN HB2.out _⟩
               · obtain rfl : en = t := by have := HU.out; omega
                 have hby := HBY.out
                 obtain ⟨R, hR⟩ : ∃ R, R = lmin (G :: rowTo m.bids prices X i G en) := ⟨_, rfl⟩
                 rw [← hR] at hby ⊢
                 obtain ⟨b0, hb0⟩ : ∃ b, b = byOf l0 := ⟨_, rfl⟩
                 rw [← hb0] at hby ⊢
                 have HBY2 := Lib.hid hby
                 have HB3 := Lib.hid (HB.out.trans (HB2.out.mono HB.out.size))
                 clear hby HBY hR hb0
                 by_cases h1 : b0 < 0
                 · have e1 : decide (b0 < 0) = true := by simpa using h1
                   go_wp2_with fail
                   go_roundg gP
                   case measure => have := HJ.out; have := HGP.out; omega
                   case rel => exact ⟨j + 1, by have := HJ.out; have := HGP.out; omega, by go_num, by rw [HBY2.out, if_pos (.inl h1)], HB3.out⟩
                 · have e1 : decide (b0 < 0) = false := by simpa using h1
                   by_cases h2 : R < b0
                   · have e2 : decide (R < b0) = true := by simpa using h2
                     go_wp2_with fail
                     go_roundg gP
                     case measure => have := HJ.out; have := HGP.out; omega
                     case rel => exact ⟨j + 1, by have := HJ.out; have := HGP.out; omega, by go_num, by rw [HBY2.out, if_pos (.inr h2)], HB3.out⟩
                   · have e2 : decide (R < b0) = false := by simpa using h2
                     go_wp2_with fail
                     go_roundg gP
                     case measure => have := HJ.out; have := HGP.out; omega
                     case rel => exact ⟨j + 1, by have := HJ.out; have := HGP.out; omega, by go_num, by rw [HBY2.out, if_neg (by omega)], HB3.out⟩
     · obtain rfl : un = j := by have := HJ.out; omega
       have hby : byOf (farTo m prices (wantsM m prices) X (mustM m prices) un) = farM m prices X := by
         unfold farTo farM byOf
         rw [List.take_of_length_le (by rw [HUL.out]; omega), if_neg HFF.out.1]
       rw [hby]
       obtain ⟨by', hby'⟩ : ∃ b, b = farM m prices X := ⟨_, rfl⟩
       obtain ⟨_, hf1, hf2⟩ := HFF.out
       rw [← hby'] at HSN hf1 hf2 ⊢
       have HW8 := Lib.hid (HW7.out.below HB.out HW7.out.lt)
       have HXI8 := Lib.hid (HXI.out.below HB.out (Nat.le_refl _))
       have HB8 := Lib.hid (HB7.out.trans (HB.out.mono HB7.out.size))
       have hqb := HPA.out
       have HQB := Lib.hid hqb; clear hqb hby hby'
       clear HB HB7 HW7 HXI
       go_wp2_with fail
       go_loopg [26] xn (fun g' s26 wr => ∃ t : Nat, t + g' = xn ∧ s26 = .int .i64 t ∧ Wrt wr g pn (upBy prices (X.take t) by') ∧ Ints wr xa xn xc (nats X) ∧ Below w.heap.size w wr)
       case atStart => exact ⟨0, by omega, rfl, by rw [List.take_zero, upBy_none]; exact HW8.out, HXI8.out, HB8.out⟩
       case round =>
         obtain ⟨t, ht, rfl, hw, hx, hb⟩ := hrel
         have HT := Lib.hid ht; clear ht
         by_cases hlt : t < xn
         · obtain ⟨k, hk⟩ : ∃ k, X[t]? = some k := ⟨_, List.getElem?_eq_getElem (by rw [HXL.out.2]; exact hlt)⟩
           have hkq := HXL.out.1 k (List.mem_of_getElem? hk)
           obtain ⟨xb, xo, rfl⟩ := hx.addr (by omega)
           have cx := hx.cell xb xo rfl t (k : Int) (by simp [nats, hk])
           have hup := upBy_at (b := by') HXN.out hk (by rw [HPL.out]; exact hkq)
           have hnx := upBy_next (b := by') hk (by rw [HPL.out]; exact hkq)
           have co := hw.cell hup
           have fo := hw.frozen k
           have hqk := HQB.out (prices.getD k 0) (getD_mem (by rw [HPL.out]; exact hkq) 0)
           obtain ⟨y, hy⟩ : ∃ y, y = prices.getD k 0 := ⟨_, rfl⟩
           rw [← hy] at hup hnx co hqk
           obtain ⟨hy1, hy2⟩ := hqk
           have hw' := hw.set k (y + by')
           rw [hnx] at hw'
           have HW0 := Lib.hid hw
           have HNX := Lib.hid hnx
           have HX0 := Lib.hid hx
           have HB0 := Lib.hid hb
           have hkn : (k : Int) < (pn : Int) := by omega
           have htn : (t : Int) < (xn : Int) := by omega
           clear hw hx hb hw' hup hnx hy hk
           go_wp2_with fail
           go_region
           go_wp2_with fail
           go_roundg (gk - 1)
           case measure => have := HT.out; omega
           case rel =>
             have hw' := HW0.out.set k (y + by')
             rw [HNX.out] at hw'
             have hx' := HX0.out.far (p := ⟨g, k, none⟩) (fun _ b o e => by have := HXF.out b o e (by omega); show b ≠ g; omega) (.int .i64 (y + by'))
             have hdr : Below (wr.setCell ⟨g, k, none⟩ (.int .i64 (y + by'))).heap.size (wr.setCell ⟨g, k, none⟩ (.int .i64 (y + by'))) (wr.setCell ⟨g, k, none⟩ (.int .i64 (y + by'))).drew := (Below.refl _ _).drew
             exact ⟨t + 1, by have := HT.out; omega, by go_num, hw'.below hdr hw'.lt, hx'.below hdr (Nat.le_refl _), (HB0.out.setCell (p := ⟨g, k, none⟩) (by show _ ≤ g; omega) (.int .i64 (y + by'))).trans (hdr.mono (by simp; exact HB0.out.size))⟩
         · obtain rfl : t = xn := by have := HT.out; omega
           have HW9 := Lib.hid hw; clear hw
           have HX9 := Lib.hid hx; clear hx
           have HB9 := Lib.hid hb; clear hb
           go_wp2_with fail
           go_ret3
           refine ⟨_, _, _, by rw [HSN.out]; rfl, ?_, HB9.out⟩
           rw [HSN.out]
           have hw := HW9.out
           rw [List.take_of_length_le (by rw [HXL.out.2]; exact Nat.le_refl _)] at hw
           refine hw.ints hcap (by omega) fun x hx => ?_
           obtain ⟨k, hk⟩ := List.mem_iff_getElem?.1 hx
           have hkl : k < prices.length := by have := (List.getElem?_eq_some_iff.1 hk).1; rwa [upBy_len] at this
           have h1 := upBy_get (X := X) (b := by') hkl
           rw [getD_at hk] at h1
           have h2 := HQB.out (prices.getD k 0) (getD_mem hkl 0)
           rw [h1]
           split <;> omega
end Go.Proofs.YtkddkkcfpnndlaaGreatDoor
