/- Walks: graphs.Fits; slices.Clone, Clip at ints. Walks: slices.Clone, Clip at ints; paths.begin: what a search holds in memory. Walks: paths.begin: what a search holds in memory. Walks: paths.begin. -/
import Derived.Test.YtkddkkcfpnndlaaGreatDoorOq01
import Derived.Test.YtkddkkcfpnndlaaGreatDoorOq09
import Derived.Test.YtkddkkcfpnndlaaGreatDoorOq02
namespace Go.Proofs.YtkddkkcfpnndlaaGreatDoor
open Go.RowKit

/-! ### Fits -/
def okFit (g : List (List Int)) (has : List Int) (i : Nat) (h : Int) : Bool := decide (h = -1) || ((g[i]?.getD []).contains h && !(has.take i).contains h)
def fitTo (g : List (List Int)) (has : List Int) (k : Nat) : Bool := (List.range k).all fun i => okFit g has i ((has[i]?).getD (-1))
def fitsB (g : List (List Int)) (items : Int) (has : List Int) : Bool := gcheck g items && decide (has.length = g.length) && fitTo g has has.length

theorem fitTo_succ {g : List (List Int)} {has : List Int} {k : Nat} {h : Int} (hx : has[k]? = some h) : fitTo g has (k + 1) = (fitTo g has k && okFit g has k h) := by
 simp [fitTo, List.range_succ, hx]
theorem fitTo_no {g : List (List Int)} {has : List Int} {k n : Nat} {h : Int} (hx : has[k]? = some h) (hk : k < n) (ho : okFit g has k h = false) : fitTo g has n = false := by
 unfold fitTo
 rw [List.all_eq_false]
 exact ⟨k, List.mem_range.2 hk, by rw [hx, Option.getD_some, ho]; simp⟩

theorem risesFrom_bd {many : Int} : ∀ {l : List Int} {last : Int}, risesFrom many last l = true → ∀ x, x ∈ l → last < x ∧ x < many
 | [], _, _, _, hx => absurd hx List.not_mem_nil
 | n :: l, last, h, x, hx => by
   simp only [risesFrom, Bool.and_eq_true, decide_eq_true_eq] at h
   rcases List.mem_cons.1 hx with rfl | hx
   · exact h.1
   · have := risesFrom_bd h.2 x hx
     omega
theorem gcheck_parts {g : List (List Int)} {items : Int} (h : gcheck g items = true) : 0 ≤ items ∧ items ≤ 8 ∧ g.length ≤ 8 ∧ ∀ l, l ∈ g → risesFrom items (-1) l = true := by
 simp only [gcheck, Bool.and_eq_true, decide_eq_true_eq, Bool.not_eq_true', List.any_eq_false] at h
 obtain ⟨⟨⟨h1, h2⟩, h3⟩, h4⟩ := h
 exact ⟨h1, h2, h3, fun l hl => by have := h4 l hl; simpa using this⟩

theorem timesOf_none {l : List Int} {x : Int} (hx : x = -1) : timesOf (l ++ [x]) = timesOf l := by
 subst hx
 apply List.ext_getElem?
 intro j
 by_cases hj : j < 8
 · rw [timesOf_get _ hj, timesOf_get _ hj, List.count_append]
   have : ¬ ((-1 : Int) = (j : Int)) := by omega
   simp [this]
 · rw [List.getElem?_eq_none (by simp [timesOf]; omega), List.getElem?_eq_none (by simp [timesOf]; omega)]

set_option maxHeartbeats 1000000 in
theorem fits_any (ga ha : Option Addr) (gn gc hn hc : Nat) (g : List (List Int)) (items : Int) (has : List Int) (w : World) (hg : Rows w ga gn gc g) (hh : Ints w ha hn hc has) :
   Calls Tryz.prog 146 #[.slice ga gn gc, .int .i64 items, .slice ha hn hc] w fun e w' => e = .returned (.bool (fitsB g items has)) ∧ Below w.heap.size w w' := by
 have hl1 := hg.len
 have hl2 := hh.len
 have hb1 := hg.big
 have hb2 := hh.big
 have HG := Lib.hid hg; clear hg
 have HH := Lib.hid hh; clear hh
 have HL1 := Lib.hid hl1; clear hl1
 have HL2 := Lib.hid hl2; clear hl2
 cases hck : gcheck g items with
 | false =>
   have HC := Lib.hid hck; clear hck
   go_enter Tryz.func146, Tryz.ntmps146
   go_wp2_with fail
   refine (gcheck_any ga gn gc g items w HG.out).mono ?_
   rw [HC.out]
   rintro e w1 ⟨rfl, hb⟩
   have HB := Lib.hid hb; clear hb
   go_wp2_with fail
   go_ret
   exact ⟨ret_bool (by simp [fitsB, HC.out]), HB.out⟩
 | true =>
   obtain ⟨q1, q2, q3, q4⟩ := gcheck_parts hck
   have HC := Lib.hid hck; clear hck
   have HQ := Lib.hid q4; clear q4
   by_cases hlen : hn = gn
   · subst hlen
     have e1 : ((hn : Int) != (hn : Int)) = false := by simp
     have hn8 : hn ≤ 8 := by have := HL1.out; omega
     go_enter Tryz.func146, Tryz.ntmps146
     go_wp2_with fail
     refine (gcheck_any ga hn gc g items w HG.out).mono ?_
     rw [HC.out]
     rintro e w1 ⟨rfl, hb⟩
     have HB := Lib.hid hb; clear hb
     have hz1 := HB.out.size
     go_wp2_with fail
     go_loopg [23] hn (fun g' s23 wr => ∃ k : Nat, k + g' = hn ∧ s23 = .int .i64 k ∧ Row wr w1.heap.size 114 (timesOf (has.take k)) ∧ Below w.heap.size w wr ∧ fitTo g has k = true)
     case atStart => exact ⟨0, by omega, rfl, Row.new _ _ (timesOf []), HB.out.alloc HB.out.size _, rfl⟩
     case round =>
       obtain ⟨k, hk, rfl, hR, hB, hf⟩ := hrel
       have HF := Lib.hid hf; clear hf
       have HK := Lib.hid hk; clear hk
       by_cases hlt : k < hn
       · obtain ⟨h, hx, _⟩ := HH.out.get hlt
         obtain ⟨bh, oh, rfl⟩ := HH.out.addr (by omega)
         have hcx := (HH.out.below hB (Nat.le_refl _)).cell bh oh rfl k h hx
         have HB2 := Lib.hid hB; clear hB
         have HX := Lib.hid hx; clear hx
         by_cases hh1 : h = -1
         · have e2 : (h == -1) = true := by simp [hh1]
           have HH1 := Lib.hid hh1; clear hh1
           have HR := Lib.hid hR; clear hR
           go_wp2_with fail
           go_roundg (gk - 1)
           case measure => have := HK.out; omega
           case rel =>
             refine ⟨k + 1, by have := HK.out; omega, by go_num, ?_, HB2.out, by rw [fitTo_succ HX.out, HF.out, okFit]; simp [HH1.out]⟩
             rw [List.take_add_one, HX.out, Option.toList_some, timesOf_none HH1.out]
             exact HR.out
         · have e2 : (h == -1) = false := by simp [hh1]
           have HH1 := Lib.hid hh1; clear hh1
           obtain ⟨l, hl⟩ := HG.out.get (k := k) hlt
           obtain ⟨bg, og, rfl⟩ := HG.out.addr (by omega)
           obtain ⟨la, ln, lc, hcl, hli⟩ := (HG.out.below HB2.out (Nat.le_refl _)).cell bg og rfl k l hl
           have HLI := Lib.hid hli; clear hli
           have HL := Lib.hid hl; clear hl
           cases hct : l.contains h with
           | false =>
             have HCT := Lib.hid hct; clear hct
             have HR := Lib.hid hR; clear hR
             go_wp2_with fail
             refine (contains_any la ln lc l h wr HLI.out).mono ?_
             rw [HCT.out]
             rintro e w2 ⟨rfl, rfl⟩
             go_wp2_with fail
             go_ret
             refine ⟨ret_bool ?_, HB2.out⟩
             have := fitTo_no (g := g) (n := has.length) HX.out (by rw [HL2.out]; exact hlt) (by simp only [okFit, HL.out, Option.getD_some, HCT.out, HH1.out]; simp)
             simp [fitsB, this]
           | true =>
             have hbd := risesFrom_bd (HQ.out l (List.mem_of_getElem? HL.out)) h (by simpa using hct)
             obtain ⟨y, rfl⟩ := Int.eq_ofNat_of_zero_le (show 0 ≤ h by omega)
             have hy8 : y < 8 := by omega
             clear hbd
             have HCT := Lib.hid hct; clear hct
             have hc2 := hR.cell (timesOf_get (has.take k) hy8)
             have hcl2 : (has.take k).count (y : Int) ≤ k := Nat.le_trans List.count_le_length (by simp; omega)
             have e3 : IntKind.i64.wrap (((has.take k).count (y : Int) : Int) + 1) = ((has.take k).count (y : Int) : Int) + 1 := IntWalk.i64_in _ (by omega)
             obtain ⟨cc, hcc⟩ : ∃ cc, cc = (has.take k).count (y : Int) := ⟨_, rfl⟩
             rw [← hcc] at hc2 hcl2 e3
             have HCC := Lib.hid hcc; clear hcc
             have hfz := hR.frozen y
             have hset := hR.set y ((cc : Int) + 1)
             have hc3 := hset.cell (k := y) (x := (cc : Int) + 1) (by rw [List.getElem?_set_self (by simp [timesOf]; exact hy8)])
             have HSET := Lib.hid hset; clear hset
             have HR := Lib.hid hR; clear hR
             have i1 : (y : Int) < 8 := by omega
             by_cases hc0 : 0 < cc
             · have i2 : decide (1 < (cc : Int) + 1) = true := by simp; omega
               go_wp2_with fail
               refine (contains_any la ln lc l y wr HLI.out).mono ?_
               rw [HCT.out]
               rintro e w2 ⟨rfl, rfl⟩
               go_wp2_with fail
               go_ret
               refine ⟨ret_bool ?_, HB2.out.setCell (by simp; omega) _⟩
               have hmem : (y : Int) ∈ has.take k := List.count_pos_iff.1 (by rw [← HCC.out]; exact hc0)
               have := fitTo_no (g := g) (n := has.length) HX.out (by rw [HL2.out]; exact hlt) (by simp only [okFit]; simp [hmem])
               simp [fitsB, this]
             · have i2 : decide (1 < (cc : Int) + 1) = false := by simp; omega
               go_wp2_with fail
               refine (contains_any la ln lc l y wr HLI.out).mono ?_
               rw [HCT.out]
               rintro e w2 ⟨rfl, rfl⟩
               go_wp2_with fail
               go_roundg (gk - 1)
               case measure => have := HK.out; omega
               case rel =>
                 refine ⟨k + 1, by have := HK.out; omega, by go_num, ?_, HB2.out.setCell (by simp; omega) _, ?_⟩
                 · have := HSET.out
                   rw [HCC.out, timesOf_set _ _ hy8 rfl] at this
                   rw [HCC.out, List.take_add_one, HX.out]; exact this
                 · have hnm : (y : Int) ∉ has.take k := fun hm => hc0 (by rw [HCC.out]; exact List.count_pos_iff.2 hm)
                   rw [fitTo_succ HX.out, HF.out]
                   simp only [okFit, HL.out, Option.getD_some, HCT.out]
                   simp [hnm]
       · obtain rfl : k = hn := by have := HK.out; omega
         have HR := Lib.hid hR; clear hR
         have HB2 := Lib.hid hB; clear hB
         go_wp2_with fail
         go_ret
         refine ⟨ret_bool ?_, HB2.out⟩
         simp [fitsB, HC.out, HL1.out, HL2.out, HF.out]
   · have e1 : ((hn : Int) != (gn : Int)) = true := by simp; omega
     have HNE := Lib.hid hlen; clear hlen
     go_enter Tryz.func146, Tryz.ntmps146
     go_wp2_with fail
     refine (gcheck_any ga gn gc g items w HG.out).mono ?_
     rw [HC.out]
     rintro e w1 ⟨rfl, hb⟩
     have HB := Lib.hid hb; clear hb
     go_wp2_with fail
     go_ret
     refine ⟨ret_bool ?_, HB.out⟩
     simp [fitsB, HL1.out, HL2.out, HNE.out]
end Go.Proofs.YtkddkkcfpnndlaaGreatDoor

namespace Go.Proofs.YtkddkkcfpnndlaaGreatDoor
open Go.RowKit

theorem appAny {ops : Array Oper} {rest : List Oper} {o : Oper} {a : Act} {Q : Exit → Act → World → Prop} (w : World) (hgd : o.guard = none) (s x : Operand)
   (ho : o.op = .call { callee := .builtin .append, args := #[s, x], argTypes := #[25, 25] })
   (base : Nat) (v : Value) (xs : List Int) (hs : a.eval s = v) (hown : Own w base v xs) (la : Option Addr) (m c : Nat) (ys : List Int) (hx : a.eval x = .slice la m c) (hy : Ints w la m c ys)
   (hlen : xs.length + m < 17592186044000) (hbase : base ≤ w.heap.size)
   (h : ∀ v' w', Own w' base v' (xs ++ ys) → w.grownBy w' v.ownBlock → Below base w w' → (v'.ownBlock = v.ownBlock ∨ v'.ownBlock = some w.heap.size) → wpList Tryz.prog ops Q rest (a.put o.dst v') w') : wpList Tryz.prog ops Q (o :: rest) a w := by
 by_cases hpos : 0 < m
 · exact appMany w hgd s x ho base v xs hs hown la m c ys hx hy hpos hlen hbase h
 · obtain rfl : m = 0 := by omega
   have hys : ys = [] := List.eq_nil_of_length_eq_zero hy.len
   subst hys
   obtain ⟨i0, hi, hz0, hz1, hz2⟩ := info_parts infoInt
   cases la with
   | none =>
     obtain ⟨_, rfl⟩ := hy.nil rfl
     refine app0 w hgd s x ho base v xs hs hown hx ?_
     exact h v w (by simpa using hown) (World.grownBy.refl _ _) (Below.refl _ _) (.inl rfl)
   | some ad =>
     refine wpList_append_own_at w hgd s x _ ho base 3 i0 _ 1 8 Tryz.underlying25 hi hz0 hz1 hz2 rfl (by decide) v xs.length _ hs hown ad 0 c [] hx rfl ?_ ?_ ?_ ?_ hbase ?_
     · intro j u hu; simp at hu
     · intro u hu; cases hu
     · unfold maxLen; omega
     · omega
     · intro v' w' hown' hg _ hat
       refine h v' w' ?_ hg ((Below.refl base w).grown hg hbase fun k hk => (World.ownsRow.lt hown k hk).1) hat
       unfold Own
       simpa using hown'

set_option maxHeartbeats 400000 in
theorem clone_any (a : Option Addr) (n c : Nat) (xs : List Int) (w : World) (h : Ints w a n c xs) (hsz : n < 17592186044000) :
   Calls Tryz.prog 111 #[.slice a n c] w fun e w' => ∃ v, e = .returned v ∧ Own w' w.heap.size v xs ∧ Below w.heap.size w w' := by
 have HI := Lib.hid h; clear h
 cases a with
 | none =>
   obtain ⟨rfl, rfl⟩ := HI.out.nil rfl
   have hxs : xs = [] := List.eq_nil_of_length_eq_zero HI.out.len
   subst hxs
   have hq := fun w : World => Lib.run_eql_slice_nil (P := Tryz.prog) w 25 3 none 0 0 0 0 Tryz.underlying25
   go_enter Tryz.func111, Tryz.ntmps111
   go_wp2_with fail
   go_ret
   exact ⟨_, rfl, Own.nil _ _, Below.refl _ _⟩
 | some ad =>
   have hq := fun w : World => Lib.run_eql_slice_nil (P := Tryz.prog) w 25 3 (some ad) n c 0 0 Tryz.underlying25
   have ho : Own (w.alloc (.cells #[] 3)) w.heap.size (.slice (some ⟨w.heap.size, 0, none⟩) 0 0) [] :=
     ⟨rfl, .inr ⟨w.heap.size, 0, #[], rfl, Nat.le_refl _, heap_alloc_new w _, Nat.le_refl _, Nat.zero_le _, rfl, rfl⟩⟩
   have HO := Lib.hid ho; clear ho
   have hb : Below w.heap.size w (w.alloc (.cells #[] 3)) := (Below.refl _ _).alloc (Nat.le_refl _) _
   have HB := Lib.hid hb; clear hb
   go_enter Tryz.func111, Tryz.ntmps111
   go_wp2_with (at_builtin; refine appAny _ rfl _ _ rfl w.heap.size _ [] rfl HO.out (some ad) n c xs rfl (HI.out.below HB.out (Nat.le_refl _)) (by simpa using hsz) (by simp) ?_; intro v' w' hown' _ hb' _)
   have HO2 := Lib.hid hown'; clear hown'
   have HB2 := Lib.hid hb'; clear hb'
   go_wp2_with fail
   go_ret
   exact ⟨_, rfl, by simpa using HO2.out, HB.out.trans HB2.out⟩

theorem clip_any (a : Option Addr) (n c : Nat) (w : World) (hc : n ≤ c) :
   Calls Tryz.prog 98 #[.slice a n c] w fun e w' => e = .returned (.slice a n n) ∧ w = w' := by
 go_enter Tryz.func98, Tryz.ntmps98
 go_wp2_with fail
 go_ret
 exact ⟨rfl, rfl⟩
end Go.Proofs.YtkddkkcfpnndlaaGreatDoor

namespace Go.Proofs.YtkddkkcfpnndlaaGreatDoor
open Go.RowKit

def iv (n : Nat) : Value := .int .i64 (n : Int)
def sCells (g h wv : Value) (came hold : Nat → Nat) : List Value := g :: h :: wv :: ((List.range 8).map (fun k => iv (came k)) ++ (List.range 8).map (fun k => iv (hold k)))
theorem sCells_came {g h wv : Value} {came hold : Nat → Nat} {k : Nat} (hk : k < 8) : (sCells g h wv came hold)[3 + k]? = some (iv (came k)) := by
 unfold sCells
 rw [show 3 + k = k + 1 + 1 + 1 by omega, List.getElem?_cons_succ, List.getElem?_cons_succ, List.getElem?_cons_succ, List.getElem?_append_left (by simpa using hk)]
 simp [hk]
theorem sCells_hold {g h wv : Value} {came hold : Nat → Nat} {k : Nat} (hk : k < 8) : (sCells g h wv came hold)[11 + k]? = some (iv (hold k)) := by
 unfold sCells
 rw [show 11 + k = k + 8 + 1 + 1 + 1 by omega, List.getElem?_cons_succ, List.getElem?_cons_succ, List.getElem?_cons_succ, List.getElem?_append_right (by simp)]
 simp [hk]
theorem tab8_set {f : Nat → Nat} {k v : Nat} (hk : k < 8) : ((List.range 8).map fun j => iv (f j)).set k (iv v) = (List.range 8).map fun j => iv (Way.mark f k v j) := by
 apply List.ext_getElem?
 intro j
 rw [List.getElem?_set]
 by_cases hj : j < 8
 · by_cases e : k = j
   · subst e; simp [hj, Way.mark_same]
   · simp [hj, e, Way.mark_other (Ne.symm e)]
 · rw [if_neg (by omega), List.getElem?_eq_none (by simp; omega), List.getElem?_eq_none (by simp; omega)]
theorem sCells_setCame {g h wv : Value} {came hold : Nat → Nat} {k v : Nat} (hk : k < 8) : (sCells g h wv came hold).set (3 + k) (iv v) = sCells g h wv (Way.mark came k v) hold := by
 unfold sCells
 rw [show 3 + k = k + 1 + 1 + 1 by omega, List.set_cons_succ, List.set_cons_succ, List.set_cons_succ, List.set_append_left _ _ (by simpa using hk), tab8_set hk]
theorem sCells_setHold {g h wv : Value} {came hold : Nat → Nat} {k v : Nat} (hk : k < 8) : (sCells g h wv came hold).set (11 + k) (iv v) = sCells g h wv came (Way.mark hold k v) := by
 unfold sCells
 rw [show 11 + k = k + 8 + 1 + 1 + 1 by omega, List.set_cons_succ, List.set_cons_succ, List.set_cons_succ, List.set_append_right _ _ (by simp), show k + 8 - ((List.range 8).map fun j => iv (came j)).length = k by simp, tab8_set hk]
def nats (l : List Nat) : List Int := l.map fun k : Nat => (k : Int)

def Srch (w : World) (B : Nat) (g h : Value) (s : Way.St) (hold : Nat → Nat) : Prop :=
 ∃ wv : Value, VRow w (B + 1) 116 (sCells g h wv s.came hold) ∧ Own w B wv (nats s.ws) ∧ wv.ownBlock ≠ some (B + 1)

structure MyRow (w : World) (base : Nat) (a : Option Addr) (n c : Nat) (xs : List Int) : Prop where
 len : xs.length = n
 cap : n ≤ c
 nil : a = none → n = 0 ∧ c = 0
 own : 0 < n → ∃ g cur, a = some ⟨g, 0, none⟩ ∧ base ≤ g ∧ w.heap[g]? = some (.cells cur 3 (0, 0)) ∧ n ≤ cur.size ∧ cur.toList.take n = xs.map (Value.int .i64)

theorem Own.myRow {w : World} {base : Nat} {v : Value} {xs : List Int} (h : Own w base v xs) : ∃ a c, v = .slice a xs.length c ∧ MyRow w base a xs.length c xs ∧ c ≤ maxLen := by
 obtain ⟨h1, h2⟩ := h
 rcases h2 with ⟨hv, hn⟩ | ⟨g, cap, cur, hv, hg, hh, hc, hm, hs, ht⟩
 · exact ⟨none, 0, by rw [hv, hn], ⟨rfl, by omega, fun _ => ⟨hn, rfl⟩, fun h => by omega⟩, Nat.zero_le _⟩
 · exact ⟨some ⟨g, 0, none⟩, cap, hv, ⟨rfl, hc, (fun e => by cases e), fun _ => ⟨g, cur, rfl, hg, hh, by omega, by simpa using ht⟩⟩, hm⟩

theorem MyRow.clip {w : World} {base : Nat} {a : Option Addr} {n c : Nat} {xs : List Int} (h : MyRow w base a n c xs) : MyRow w base a n n xs :=
 ⟨h.len, Nat.le_refl _, fun e => ⟨(h.nil e).1, (h.nil e).1⟩, h.own⟩

theorem MyRow.lt {w : World} {base : Nat} {a : Option Addr} {n c : Nat} {xs : List Int} (h : MyRow w base a n c xs) (hn : 0 < n) : ∃ g, a = some ⟨g, 0, none⟩ ∧ base ≤ g ∧ g < w.heap.size := by
 obtain ⟨g, cur, e, hg, hh, _⟩ := h.own hn
 refine ⟨g, e, hg, ?_⟩
 rcases Nat.lt_or_ge g w.heap.size with h | h
 · exact h
 · rw [Array.getElem?_eq_none h] at hh; cases hh

theorem MyRow.below {w w' : World} {base B : Nat} {a : Option Addr} {n c : Nat} {xs : List Int} (h : MyRow w base a n c xs) (hb : Below B w w') (hB : w.heap.size ≤ B) : MyRow w' base a n c xs :=
 ⟨h.len, h.cap, h.nil, fun hn => by
   obtain ⟨g, cur, e, hg, hh, r⟩ := h.own hn
   obtain ⟨g', e', _, hlt⟩ := h.lt hn
   rw [e] at e'; cases e'
   exact ⟨g, cur, e, hg, by rw [hb.block g (by omega)]; exact hh, r⟩⟩

theorem MyRow.ints {w : World} {base : Nat} {a : Option Addr} {n c : Nat} {xs : List Int} (h : MyRow w base a n c xs) (hbig : n ≤ 4611686018427387904) (hbd : ∀ x, x ∈ xs → -9223372036854775808 ≤ x ∧ x ≤ 9223372036854775807) : Ints w a n c xs :=
 ⟨h.len, h.cap, hbig, fun hn => by obtain ⟨g, _, e, _⟩ := h.own hn; exact ⟨g, 0, e⟩, fun b o e k x hx => by
   have hk : k < n := by have := (List.getElem?_eq_some_iff.1 hx).1; have := h.len; omega
   obtain ⟨g, cur, e', hg, hh, hs, ht⟩ := h.own (by omega)
   rw [e] at e'; cases e'
   rw [Nat.zero_add, cell_of_row w b _ cur _ _ hh]
   have h3 : (cur.toList.take n)[k]? = some (.int .i64 x) := by rw [ht]; simp [hx]
   rw [List.getElem?_take_of_lt hk] at h3
   simpa using h3, hbd, h.nil⟩

theorem MyRow.set {w : World} {base g : Nat} {n c : Nat} {xs : List Int} (h : MyRow w base (some ⟨g, 0, none⟩) n c xs) (k : Nat) (v : Int) :
   MyRow (w.setCell ⟨g, k, none⟩ (.int .i64 v)) base (some ⟨g, 0, none⟩) n c (xs.set k v) := by
 refine ⟨by rw [List.length_set]; exact h.len, h.cap, (fun e => by cases e), fun hn => ?_⟩
 obtain ⟨g', cur, e, hg, hh, hs, ht⟩ := h.own hn
 cases e
 refine ⟨g, cur.setIfInBounds k (.int .i64 v), rfl, hg, by rw [heap_setCell_same w g k cur _ _ hh], by simpa using hs, ?_⟩
 rw [Array.toList_setIfInBounds, List.map_set, ← ht, List.take_set]

theorem MyRow.frozen {w : World} {base g : Nat} {n c : Nat} {xs : List Int} (h : MyRow w base (some ⟨g, 0, none⟩) n c xs) (hn : 0 < n) (k : Nat) : w.frozen? ⟨g, k, none⟩ = false := by
 obtain ⟨g', cur, e, hg, hh, r⟩ := h.own hn
 cases e
 exact frozen_of_row w g k cur _ hh
end Go.Proofs.YtkddkkcfpnndlaaGreatDoor

namespace Go.Proofs.YtkddkkcfpnndlaaGreatDoor
open Go.RowKit

def hasAt (has : List Int) (i : Nat) : Option Nat := match has[i]? with
 | some h => if h = -1 then none else some h.toNat
 | none => none
theorem hasAt_of {has : List Int} {i : Nat} {x : Int} (h : has[i]? = some x) : hasAt has i = if x = -1 then none else some x.toNat := by simp [hasAt, h]

def bOk (g : List (List Int)) (items : Int) (has : List Int) (start : Int) : Bool := fitsB g items has && decide (0 ≤ start) && decide (start < g.length) && decide (has[start.toNat]? = some (-1))

theorem fitsB_parts {g : List (List Int)} {items : Int} {has : List Int} (h : fitsB g items has = true) : gcheck g items = true ∧ has.length = g.length ∧ fitTo g has has.length = true := by
 simp only [fitsB, Bool.and_eq_true, decide_eq_true_eq] at h
 exact ⟨h.1.1, h.1.2, h.2⟩

theorem okFit_at {g : List (List Int)} {has : List Int} {n i : Nat} {x : Int} (h : fitTo g has n = true) (hi : i < n) (hx : has[i]? = some x) (hne : x ≠ -1) : x ∈ (g[i]?.getD []) ∧ x ∉ has.take i := by
 unfold fitTo at h
 have := List.all_eq_true.1 h i (List.mem_range.2 hi)
 rw [hx] at this
 simpa [okFit, hne] using this

theorem fits_item {g : List (List Int)} {items : Int} {has : List Int} (h : fitsB g items has = true) {i : Nat} {x : Int} (hx : has[i]? = some x) (hne : x ≠ -1) : 0 ≤ x ∧ x < items ∧ items ≤ 8 ∧ x ∈ (g[i]?.getD []) := by
 obtain ⟨h1, h2, h3⟩ := fitsB_parts h
 obtain ⟨q1, q2, q3, q4⟩ := gcheck_parts h1
 have hil : i < has.length := (List.getElem?_eq_some_iff.1 hx).1
 have ho := okFit_at h3 hil hx hne
 have hg : g[i]? = some (g[i]'(by omega)) := by simp
 rw [hg, Option.getD_some] at ho
 have := risesFrom_bd (q4 _ (List.getElem_mem _)) x ho.1
 rw [hg, Option.getD_some]
 exact ⟨by omega, by omega, q2, ho.1⟩

theorem holdTo_snoc_none {has : List Int} {k : Nat} {x : Int} (hx : has[k]? = some x) (h1 : x = -1) : Way.holdTo (hasAt has) (k + 1) = Way.holdTo (hasAt has) k := by
 funext j
 rw [Way.holdTo, hasAt_of hx, if_pos h1, if_neg (by simp)]
theorem holdTo_snoc_some {has : List Int} {k y : Nat} (hx : has[k]? = some (y : Int)) : Way.holdTo (hasAt has) (k + 1) = Way.mark (Way.holdTo (hasAt has) k) y (k + 1) := by
 funext j
 have h1 : hasAt has k = some y := by rw [hasAt_of hx, if_neg (by omega), Int.toNat_natCast]
 rw [Way.holdTo, h1]
 by_cases e : j = y
 · subst e; rw [Way.mark_same, if_pos rfl]
 · rw [Way.mark_other e, if_neg (fun h => e (Option.some.inj h).symm)]

def Begun (ga : Option Addr) (gn gc hn f : Nat) (has : List Int) (w : World) (e : Ending) (w' : World) : Prop :=
 ∃ B a', e = .returned (.tuple #[.pointer (some ⟨B + 1, 0, none⟩), .int .i64 0]) ∧ w.heap.size ≤ B ∧
     Srch w' B (.slice ga gn gc) (.slice a' hn hn) ⟨[f], fun _ => 0⟩ (Way.holdTo (hasAt has) hn) ∧ MyRow w' w.heap.size a' hn hn has ∧ (0 < hn → ∀ b o, a' = some ⟨b, o, none⟩ → b < B) ∧ Below w.heap.size w w'

set_option maxRecDepth 100000 in
set_option maxHeartbeats 1000000 in
theorem begin_yes (ga ha : Option Addr) (gn gc hn hc f : Nat) (g : List (List Int)) (items : Int) (has : List Int) (w : World) (hg : Rows w ga gn gc g) (hh : Ints w ha hn hc has) (hok : bOk g items has f = true) :
   Calls Tryz.prog 93 #[.slice ga gn gc, .int .i64 items, .slice ha hn hc, .int .i64 f] w (Begun ga gn gc hn f has w) := by
 simp only [bOk, Bool.and_eq_true, decide_eq_true_eq] at hok
 obtain ⟨⟨⟨hf, _⟩, hfl⟩, hx⟩ := hok
 rw [Int.toNat_natCast] at hx
 have HG := Lib.hid hg; clear hg
 have HH := Lib.hid hh; clear hh
 have hb1 := HG.out.big
 have hhl := HH.out.len
 have hgl := HG.out.len
 have hlen := (fitsB_parts hf).2.1
 have hn8 : hn ≤ 8 := by have := (gcheck_parts (fitsB_parts hf).1).2.2.1; omega
 have hfn : f < hn := by omega
 have hfg : f < gn := by omega
 obtain ⟨bh, oh, rfl⟩ := HH.out.addr (by omega)
 have HF := Lib.hid hf; clear hf
 have HX := Lib.hid hx; clear hx
 clear hfl hhl hgl hlen
 go_enter Tryz.func93, Tryz.ntmps93
 go_wp2_with fail
 refine (fits_any ga _ gn gc hn hc g items has w HG.out HH.out).mono ?_
 rw [HF.out]
 rintro e w1 ⟨rfl, hb⟩
 have HB := Lib.hid hb; clear hb
 have hcx := (HH.out.below HB.out (Nat.le_refl _)).cell bh oh rfl f (-1) HX.out
 have e1 : decide ((f : Int) < 0) = false := by simp
 have e2 : decide ((gn : Int) ≤ (f : Int)) = false := by simp; omega
 have i1 : (f : Int) < (hn : Int) := by omega
 have i2 : ¬ (gn ≤ f) := by omega
 go_wp2_with fail
 refine (clone_any _ hn hc has w1 (HH.out.below HB.out (Nat.le_refl _)) (by omega)).mono ?_
 rintro e w2 ⟨v, rfl, ho, hb⟩
 have HB2 := Lib.hid hb; clear hb
 obtain ⟨a2, c2, rfl, hm, _⟩ := ho.myRow
 rw [HH.out.len] at hm ⊢
 have hm' : MyRow w2 w.heap.size a2 hn hn has := ⟨hm.len, Nat.le_refl _, fun e => ⟨(hm.nil e).1, (hm.nil e).1⟩, fun h => by obtain ⟨g', cur, r1, r2, r3⟩ := hm.own h; exact ⟨g', cur, r1, Nat.le_trans HB.out.size r2, r3⟩⟩
 have HM := Lib.hid hm'; clear hm'
 have hc2 := hm.cap
 clear hm ho
 go_wp2_with fail
 refine (clip_any a2 hn c2 w2 hc2).mono ?_
 rintro e w3 ⟨rfl, rfl⟩
 go_wp2_with fail
 have hV0 : VRow ((w2.alloc (.cells #[.int .i64 (f : Int)] 3)).alloc (.cells (sCells (.slice ga gn gc) (.slice a2 hn hn) (.slice (some ⟨w2.heap.size, 0, none⟩) 1 1) (fun _ => 0) (fun _ => 0)).toArray 116)) (w2.heap.size + 1) 116 (sCells (.slice ga gn gc) (.slice a2 hn hn) (.slice (some ⟨w2.heap.size, 0, none⟩) 1 1) (fun _ => 0) (fun _ => 0)) := by
   have := VRow.new (w2.alloc (.cells #[.int .i64 (f : Int)] 3)) 116 (sCells (.slice ga gn gc) (.slice a2 hn hn) (.slice (some ⟨w2.heap.size, 0, none⟩) 1 1) (fun _ => 0) (fun _ => 0))
   simpa using this
 have hO0 : Own (w2.alloc (.cells #[.int .i64 (f : Int)] 3)) w2.heap.size (.slice (some ⟨w2.heap.size, 0, none⟩) 1 1) (nats [f]) :=
   ⟨rfl, .inr ⟨w2.heap.size, 1, #[.int .i64 (f : Int)], rfl, Nat.le_refl _, heap_alloc_new w2 _, Nat.le_refl _, by unfold maxLen; omega, rfl, rfl⟩⟩
 have HO0 := Lib.hid hO0; clear hO0
 have HV0 := Lib.hid hV0; clear hV0
 have HBW := Lib.hid (HB.out.trans (HB2.out.mono HB.out.size))
 go_loopg [45] hn (fun g' s45 wr => ∃ k : Nat, k + g' = hn ∧ s45 = .int .i64 k ∧ VRow wr (w2.heap.size + 1) 116 (sCells (.slice ga gn gc) (.slice a2 hn hn) (.slice (some ⟨w2.heap.size, 0, none⟩) 1 1) (fun _ => 0) (Way.holdTo (hasAt has) k)) ∧ Below (w2.heap.size + 1) (w2.alloc (.cells #[.int .i64 (f : Int)] 3)) wr)
 case atStart => exact ⟨0, by omega, rfl, HV0.out, (Below.refl _ _).alloc (by simp) _⟩
 case round =>
   obtain ⟨k, hk, rfl, hV, hBl⟩ := hrel
   have hBw : Below w.heap.size w wr := (HBW.out.alloc HBW.out.size _).trans (hBl.mono (by have := HBW.out.size; omega))
   have HK := Lib.hid hk; clear hk
   by_cases hlt : k < hn
   · obtain ⟨x, hx, _⟩ := HH.out.get hlt
     have hcx2 := (HH.out.below hBw (Nat.le_refl _)).cell bh oh rfl k x hx
     have HBWR := Lib.hid hBw; clear hBw
     have HBL := Lib.hid hBl; clear hBl
     by_cases hx1 : x = -1
     · have e3 : (x != -1) = false := by simp [hx1]
       have hs := holdTo_snoc_none hx hx1
       have HX1 := Lib.hid hx1; clear hx1
       have HXX := Lib.hid hx; clear hx
       have HS := Lib.hid hs; clear hs
       have HV := Lib.hid hV; clear hV
       go_wp2_with fail
       go_roundg (gk - 1)
       case measure => have := HK.out; omega
       case rel => exact ⟨k + 1, by have := HK.out; omega, by go_num, by rw [HS.out]; exact HV.out, HBL.out⟩
     · have e3 : (x != -1) = true := by simp [hx1]
       obtain ⟨y0, yi, y8, _⟩ := fits_item HF.out hx hx1
       obtain ⟨y, rfl⟩ := Int.eq_ofNat_of_zero_le y0
       have hy8 : y < 8 := by omega
       have hs := holdTo_snoc_some hx
       have hcw := hV.cell (sCells_hold (came := fun _ => 0) (hold := Way.holdTo (hasAt has) k) hy8)
       have hfz := hV.frozen (11 + y)
       have hset := hV.set (11 + y) (iv (k + 1))
       rw [sCells_setHold hy8, ← hs] at hset
       have HX1 := Lib.hid hx1; clear hx1
       have HXX := Lib.hid hx; clear hx
       have HS := Lib.hid hs; clear hs
       have HV := Lib.hid hV; clear hV
       have HSET := Lib.hid hset; clear hset
       have i3 : (y : Int) < 8 := by omega
       clear yi y8
       go_wp2_with fail
       go_roundg (gk - 1)
       case measure => have := HK.out; omega
       case rel => exact ⟨k + 1, by have := HK.out; omega, by go_num, HSET.out, HBL.out.setCell (by simp) _⟩
   · obtain rfl : k = hn := by have := HK.out; omega
     have HBWR := Lib.hid hBw; clear hBw
     have HBL := Lib.hid hBl; clear hBl
     have HV := Lib.hid hV; clear hV
     go_wp2_with fail
     go_ret2
     refine ⟨w2.heap.size, a2, rfl, HBW.out.size, ⟨_, HV.out, HO0.out.below HBL.out (by simp), by simp [Value.ownBlock]⟩, (HM.out.below ((Below.refl w2.heap.size w2).alloc (Nat.le_refl _) _) (Nat.le_refl _)).below HBL.out (by simp), fun h0 b o e => ?_, HBWR.out⟩
     obtain ⟨g', e', _, hlt⟩ := HM.out.lt h0
     rw [e] at e'; cases e'; exact hlt
end Go.Proofs.YtkddkkcfpnndlaaGreatDoor
