/- A region that draws its order, operation by operation: what each yields, said of its value and the world; no order is gone through. A region that draws its order, operation by operation, where an operation may spoil what nothing needs behind it (an 'append' that writes in place). A region that draws its order, operation by operation, where what is said of an operation may name the values of those that it waits for. A region that draws its order, operations among it that yield nothing: operation by operation. A region that draws its order, one of whose operations writes over memory: all ahead of it is done by then, operation by operation. -/
import Derived.Test.YtkddkkcfpnndlaaGreatDoorOq00
import Derived.Test.YtkddkkcfpnndlaaGreatDoorOq02
import Derived.BigQuiet
import Derived.Orders
namespace Go.Proofs.YtkddkkcfpnndlaaGreatDoor
open Go.RowKit

theorem cell_step {w w' : World} {b o : Nat} {v : Value} (hb : Below w.heap.size w w') (h : w.cell? ⟨b, o, none⟩ = some v) : w'.cell? ⟨b, o, none⟩ = some v := by
 rw [hb.cell (p := ⟨b, o, none⟩) (block_lt_of_cell h)]; exact h

def fold (v : Nat → Value) : Nat → List Nat → Array Value → Array Value
 | _, [], T => T
 | j, d :: ds, T => fold v (j + 1) ds (T.setIfInBounds d (v j))
theorem fold_congr {v v' : Nat → Value} : ∀ (ds : List Nat) (j : Nat) (T : Array Value), (∀ i, i < ds.length → v (j + i) = v' (j + i)) → fold v j ds T = fold v' j ds T
 | [], _, _, _ => rfl
 | d :: ds, j, T, h => by
   unfold fold
   rw [show v j = v' j from h 0 (by simp)]
   exact fold_congr ds (j + 1) _ fun i hi => by
     have := h (i + 1) (by simpa using hi)
     rwa [show j + (i + 1) = j + 1 + i by omega] at this
theorem fold_set_out (v : Nat → Value) : ∀ (ds : List Nat) (j d : Nat) (x : Value) (T : Array Value), d ∉ ds → (fold v j ds T).setIfInBounds d x = fold v j ds (T.setIfInBounds d x)
 | [], _, _, _, _, _ => rfl
 | d' :: ds, j, d, x, T, h => by
   unfold fold
   rw [fold_set_out v ds (j + 1) d x _ (fun hm => h (List.mem_cons_of_mem _ hm))]
   rw [Array.setIfInBounds_comm _ _ (show d' ≠ d from fun e => h (by rw [e]; exact List.mem_cons_self))]
theorem fold_set (v : Nat → Value) : ∀ (ds : List Nat) (j i : Nat) (d : Nat) (x : Value) (T : Array Value), ds.Nodup → ds[i]? = some d → (fold v j ds T).setIfInBounds d x = fold (fun k => if k = j + i then x else v k) j ds T
 | [], _, _, _, _, _, _, h => by simp at h
 | d' :: ds, j, 0, d, x, T, hn, h => by
   obtain rfl : d' = d := by simpa using h
   obtain ⟨h1, _⟩ := List.nodup_cons.1 hn
   unfold fold
   rw [fold_set_out v ds (j + 1) d' x _ h1, Array.setIfInBounds_setIfInBounds]
   simp only [Nat.add_zero, if_true]
   exact fold_congr ds (j + 1) _ fun i _ => by rw [if_neg (by omega)]
 | d' :: ds, j, i + 1, d, x, T, hn, h => by
   obtain ⟨_, h2⟩ := List.nodup_cons.1 hn
   unfold fold
   rw [fold_set v ds (j + 1) i d x _ h2 (by simpa using h)]
   simp only [if_neg (show ¬ j = j + (i + 1) by omega)]
   exact fold_congr ds (j + 1) _ fun k _ => by rw [show j + 1 + i = j + (i + 1) by omega]
def backB (ops : List Oper) : Bool := (List.range ops.length).all fun i => match ops[i]? with
 | some o => o.after.toList.all (fun e => !(Region.binds .any e) || decide (e.on < i)) && (decide (i + 1 = ops.length) || (List.range ops.length).any fun j => match ops[j]? with | some o' => o'.after.toList.any (fun e => Region.binds .any e && e.on == i) | none => false)
 | none => true
theorem list_of {P : Program} {ops : Array Oper} {Q : Exit → Act → World → Prop} {i : Nat} {o : Oper} (ho : ops[i]? = some o) {K : Act → World → Prop} {a : Act} {w : World}
   (h : wpList P ops (Exit.then K Q) [o] a w) : wpOp P ops Q i K a w := by
 unfold wpOp
 rw [ho]
 unfold wpList at h
 simp only
 split
 · rename_i hw
   rw [if_pos hw] at h
   have hl : LetsOut (Exit.then K Q) → LetsOut Q := fun ⟨a, w, h⟩ => ⟨a, w, h⟩
   rcases h with h | ⟨h1, h2⟩
   · left
     have h' : o.wp P a w K (Exit.then K Q) := Oper.wp_mono (fun a w h => h) h
     unfold Oper.wp at h' ⊢
     generalize (execOp a.eval o).run P w = r at h' ⊢
     cases r with
     | ok n w' =>
       cases n <;> simp only [Oper.upon] at h' ⊢ <;> first
         | exact h'
         | exact Calls.mono h' (fun e w'' he => by cases e <;> first | exact he | exact hl he)
         | exact Rows.mono h' (fun _ _ he => he)
     | halt x w' => cases x <;> simp only [Oper.upon] at h' ⊢ <;> first | exact h' | exact hl h'
   · exact .inr ⟨h1, hl h2⟩
 · rename_i hw
   rw [if_neg hw] at h
   exact h

theorem wpList_mono' {P : Program} {ops : Array Oper} {Q : Exit → Act → World → Prop} {K K' : Act → World → Prop} {o : Oper} {a : Act} {w : World} (hK : ∀ a w, K a w → K' a w)
   (h : wpList P ops (Exit.then K Q) [o] a w) : wpList P ops (Exit.then K' Q) [o] a w := by
 unfold wpList at h ⊢
 have hl : LetsOut (Exit.then K Q) → LetsOut (Exit.then K' Q) := fun ⟨a, w, h⟩ => ⟨a, w, h⟩
 split
 · rename_i hw
   rw [if_pos hw] at h
   rcases h with h | ⟨h1, h2⟩
   · left
     have h' : o.wp P a w (wpList P ops (Exit.then K' Q) []) (Exit.then K Q) := Oper.wp_mono (fun a w h => hK a w h) h
     unfold Oper.wp at h' ⊢
     generalize (execOp a.eval o).run P w = r at h' ⊢
     cases r with
     | ok n w' =>
       cases n <;> simp only [Oper.upon] at h' ⊢ <;> first
         | exact h'
         | exact Calls.mono h' (fun e w'' he => by cases e <;> first | exact he | exact hl he)
         | exact Rows.mono h' (fun _ _ he => he)
     | halt x w' => cases x <;> simp only [Oper.upon] at h' ⊢ <;> first | exact h' | exact hl h'
   · exact .inr ⟨h1, hl h2⟩
 · rename_i hw
   rw [if_neg hw] at h
   exact hK _ _ h

theorem falses_lt {listed : Array Bool} {n i : Nat} (hi : i < n) (h : listed.getD i true = false) :
   ((List.range n).filter fun k => !(listed.setIfInBounds i true).getD k true).length < ((List.range n).filter fun k => !listed.getD k true).length := by
 have hg : ∀ k, (listed.setIfInBounds i true).getD k true = if k = i then true else listed.getD k true := fun k => by
   rw [Array.getD_eq_getD_getElem?, Array.getD_eq_getD_getElem?, Array.getElem?_setIfInBounds]
   by_cases e : i = k
   · subst e
     rw [if_pos rfl, if_pos rfl]
     split <;> rfl
   · rw [if_neg e, if_neg (Ne.symm e)]
 have hn : (i :: (List.range n).filter fun k => !(listed.setIfInBounds i true).getD k true).Nodup := by
   refine List.nodup_cons.2 ⟨fun hm => ?_, List.nodup_range.filter _⟩
   have := (List.mem_filter.1 hm).2
   rw [hg, if_pos rfl] at this
   cases this
 have := Way.nodup_len hn (m := (List.range n).filter fun k => !listed.getD k true) fun k hk => by
   rcases List.mem_cons.1 hk with rfl | hk
   · exact List.mem_filter.2 ⟨List.mem_range.2 hi, by rw [h]; rfl⟩
   · obtain ⟨h1, h2⟩ := List.mem_filter.1 hk
     refine List.mem_filter.2 ⟨h1, ?_⟩
     rw [hg] at h2
     split at h2
     · cases h2
     · exact h2
 rw [List.length_cons] at this
 omega

theorem wp_region_inv {P : Program} {id : Nat} {l : List Oper} {Q : Exit → Act → World → Prop} {a : Act} {w : World} (hm : P.follows .mixedOrders = true) (hback : backB l = true) (Inv : Array Bool → Act → World → Prop)
   (h0 : Inv (Array.replicate l.length false) a w.drew)
   (hstep : ∀ (i : Nat) (o : Oper) (listed : Array Bool) (a : Act) (w : World), l[i]? = some o → listed.size = l.length → listed.getD i true = false → (∀ e, e ∈ o.after.toList → Region.binds .any e = true → listed.getD e.on false = true) → Inv listed a w →
     wpList P l.toArray (Exit.then (Inv (listed.setIfInBounds i true)) Q) [o] a w)
   (hend : ∀ (listed : Array Bool) (a : Act) (w : World), (∀ i, i < l.length → listed.getD i false = true) → Inv listed a w → Q .normal a w) : (Code.region id l.toArray true).wp P Q a w := by
 refine wp_region_any hm ?_
 have key : ∀ (fuel : Nat) (listed : Array Bool) (a : Act) (w : World), listed.size = l.length → ((List.range l.length).filter fun k => !listed.getD k true).length ≤ fuel → Inv listed a w → wpAny P .any l.toArray Q fuel listed a w := by
   intro fuel
   have hnil : ∀ (listed : Array Bool) (a : Act) (w : World), listed.size = l.length → Inv listed a w → Region.ready .any l.toArray listed = [] → Q .normal a w := by
     intro listed a w hs hI hr
     refine hend listed a w ?_ hI
     have hall : ∀ n i, i < n → i < l.length → listed.getD i false = true := by
       intro n
       induction n with
       | zero => intro i h; omega
       | succ n ih =>
         intro i hin hil
         rcases Nat.lt_or_ge i n with h1 | h1
         · exact ih i h1 hil
         · obtain rfl : i = n := by omega
           cases hx : listed.getD i false with
           | true => rfl
           | false =>
             exfalso
             have hx' : listed.getD i true = false := by
               rw [Array.getD_eq_getD_getElem?] at hx ⊢
               rw [Array.getElem?_eq_getElem (by omega)] at hx ⊢
               exact hx
             have hm : i ∈ Region.ready .any l.toArray listed := by
               unfold Region.ready
               refine List.mem_filter.2 ⟨List.mem_range.2 (by simpa using hil), ?_⟩
               have hb := List.all_eq_true.1 hback i (List.mem_range.2 hil)
               rw [List.getElem?_eq_getElem hil] at hb
               simp only [Bool.and_eq_true, List.all_eq_true, decide_eq_true_eq, Bool.or_eq_true] at hb
               rw [hx']
               simp only [Bool.not_false, Bool.true_and, List.getElem?_toArray, List.getElem?_eq_getElem hil, Option.map_some, Option.getD_some]
               rw [Array.all_eq_true_iff_forall_mem]
               intro e he
               by_cases hbe : Region.binds .any e = true
               case neg => simp [hbe]
               rw [Bool.or_eq_true]
               right
               have hlt := (hb.1 e (by simpa using he)).resolve_left (by simp [hbe])
               exact ih e.on hlt (by omega)
             rw [hr] at hm
             cases hm
     exact fun i hi => hall l.length i hi hi
   induction fuel with
   | zero =>
     intro listed a w hs hc hI
     have hr : Region.ready .any l.toArray listed = [] := by
       unfold Region.ready
       rw [List.filter_eq_nil_iff]
       intro i hi hh
       have h1 : (List.range l.length).filter (fun k => !listed.getD k true) = [] := List.eq_nil_of_length_eq_zero (by omega)
       rw [List.filter_eq_nil_iff] at h1
       simp only [Bool.and_eq_true] at hh
       exact h1 i (by simpa using hi) hh.1
     exact ⟨hr, hnil listed a w hs hI hr⟩
   | succ fuel ih =>
     intro listed a w hs hc hI
     refine ⟨hnil listed a w hs hI, fun i hi => ?_⟩
     unfold Region.ready at hi
     obtain ⟨h1, h2⟩ := List.mem_filter.1 hi
     have hil : i < l.length := by simpa using List.mem_range.1 h1
     simp only [Bool.and_eq_true, Bool.not_eq_true', List.getElem?_toArray, List.getElem?_eq_getElem hil, Option.map_some, Option.getD_some] at h2
     have ho : l[i]? = some l[i] := List.getElem?_eq_getElem hil
     refine list_of (o := l[i]) (by simp) ?_
     have hst := hstep i l[i] listed a w ho hs h2.1 (fun e he hb => by
       have := Array.all_eq_true_iff_forall_mem.1 h2.2 e (by simpa using he)
       rw [hb] at this
       simpa using this) hI
     refine wpList_mono' ?_ hst
     intro a' w' h
     exact ih _ a' w' (by rw [Array.size_setIfInBounds]; exact hs) (by have := falses_lt (listed := listed) hil h2.1; omega) h
 have := key l.toArray.size (Array.replicate l.length false) a w.drew (by simp) (by
   refine Nat.le_trans (List.length_filter_le _ _) ?_
   simp) h0
 simpa using this

theorem back_spec {l : List Oper} (h : backB l = true) {i : Nat} {o : Oper} (ho : l[i]? = some o) : (∀ e, e ∈ o.after.toList → Region.binds .any e = true → e.on < i) ∧ (i + 1 = l.length ∨ ∃ (j : Nat) (o' : Oper), l[j]? = some o' ∧ ∃ e, e ∈ o'.after.toList ∧ Region.binds .any e = true ∧ e.on = i) := by
 have hil := (List.getElem?_eq_some_iff.1 ho).1
 have hb := List.all_eq_true.1 h i (List.mem_range.2 hil)
 rw [ho] at hb
 simp only [Bool.and_eq_true, Bool.or_eq_true, List.all_eq_true, decide_eq_true_eq, List.any_eq_true, List.mem_range] at hb
 refine ⟨fun e he hbe => (hb.1 e he).resolve_left (by simp [hbe]), hb.2.imp id ?_⟩
 rintro ⟨j, hj, hh⟩
 cases hoj : l[j]? with
 | none => rw [hoj] at hh; simp at hh
 | some o' =>
   rw [hoj] at hh
   simp only [List.any_eq_true, Bool.and_eq_true, beq_iff_eq] at hh
   obtain ⟨e, he, h1, h2⟩ := hh
   exact ⟨j, o', hoj, e, he, h1, h2⟩

end Go.Proofs.YtkddkkcfpnndlaaGreatDoor

namespace Go.Proofs.YtkddkkcfpnndlaaGreatDoor
open Go.RowKit

def depB (l : List Oper) (a b : Nat) : Bool := ((l[a]?).map fun o => o.after.toList.any fun e => (Region.binds .any e) && (e.on == b)).getD false
theorem depB_of {l : List Oper} {a b : Nat} (h : depB l a b = true) : ∃ o, l[a]? = some o ∧ ∃ e, e ∈ o.after.toList ∧ Region.binds .any e = true ∧ e.on = b := by
 unfold depB at h
 cases ho : l[a]? with
 | none => rw [ho] at h; cases h
 | some o =>
   rw [ho] at h
   obtain ⟨e, he, hb⟩ := List.any_eq_true.1 h
   simp only [Bool.and_eq_true, beq_iff_eq] at hb
   exact ⟨o, rfl, e, he, hb.1, hb.2⟩
def depT (l : List Oper) : Nat → Nat → Nat → Bool
 | 0, _, _ => false
 | f + 1, a, b => (List.range l.length).any fun c => depB l a c && ((c == b) || depT l f c b)
theorem depT_of {l : List Oper} {p : Nat → Prop} (h : ∀ a b, p a → depB l a b = true → p b) : ∀ (f a b : Nat), depT l f a b = true → p a → p b
 | 0, _, _, hd, _ => by cases hd
 | f + 1, a, b, hd, ha => by
   unfold depT at hd
   obtain ⟨c, _, hc⟩ := List.any_eq_true.1 hd
   simp only [Bool.and_eq_true, Bool.or_eq_true, beq_iff_eq] at hc
   obtain ⟨h1, h2⟩ := hc
   have hpc := h a c ha h1
   rcases h2 with rfl | h2
   · exact hpc
   · exact depT_of h f c b h2 hpc
def freeB (l : List Oper) (j : Nat) : Bool := (List.range l.length).all fun i' => ((l[i']?).map fun o => o.after.toList.all fun e => !(decide (e.ground = .data)) || (e.on != j)).getD true
def deadB (l : List Oper) (dead : Nat → Nat → Bool) : Bool := (List.range l.length).all fun i => (List.range l.length).all fun j => !(dead i j) || ((i == j) || (depT l 6 j i || (!(freeB l j) && (List.range l.length).all fun i' => ((i' == i) || depB l i i') || ((l[i']?).map fun o => o.after.toList.all fun e => !(decide (e.ground = .data)) || (e.on != j)).getD true)))
theorem binds_data {e : Edge} (h : e.ground = .data) : Region.binds .any e = true := by unfold Region.binds; rw [h]
theorem dead_spec {l : List Oper} {dead : Nat → Nat → Bool} (h : deadB l dead = true) {i j : Nat} (hi : i < l.length) (hj : j < l.length) (hd : dead i j = true) : i = j ∨ depT l 6 j i = true ∨ (freeB l j = false ∧ ∀ (i' : Nat) (o' : Oper), l[i']? = some o' → ∀ e, e ∈ o'.after.toList → e.ground = .data → e.on = j → i' = i ∨ depB l i i' = true) := by
 have h1 := List.all_eq_true.1 h i (List.mem_range.2 hi)
 have h2 := List.all_eq_true.1 h1 j (List.mem_range.2 hj)
 rw [hd] at h2
 simp only [Bool.not_true, Bool.false_or, Bool.or_eq_true, Bool.and_eq_true, Bool.not_eq_true', beq_iff_eq] at h2
 rcases h2 with h2 | h2 | h2
 · exact .inl h2
 · exact .inr (.inl h2)
 · refine .inr (.inr ⟨h2.1, fun i' o' ho e he hb hon => ?_⟩)
   have h3 := List.all_eq_true.1 h2.2 i' (List.mem_range.2 (List.getElem?_eq_some_iff.1 ho).1)
   rw [ho] at h3
   simp only [Option.map_some, Option.getD_some, Bool.or_eq_true, beq_iff_eq] at h3
   rcases h3 with (h3 | h3) | h3
   · exact .inl h3
   · exact .inr h3
   · have h4 := List.all_eq_true.1 h3 e he
     rw [decide_eq_true hb, hon] at h4
     simp at h4

theorem fold_own : ∀ (ds : List Nat) (j : Nat) (T : Array Value) (v : Nat → Value), (∀ i d, ds[i]? = some d → v (j + i) = T.getD d undef) → fold v j ds T = T
 | [], _, _, _, _ => rfl
 | d :: ds, j, T, v, h => by
   unfold fold
   have e : T.setIfInBounds d (v j) = T := by
     have h0 := h 0 d rfl
     rw [Nat.add_zero] at h0
     apply Array.ext_getElem?
     intro k
     rw [Array.getElem?_setIfInBounds]
     by_cases e : d = k
     · subst e
       rw [if_pos rfl]
       by_cases hd : d < T.size
       · rw [if_pos hd, h0, Array.getD_eq_getD_getElem?, Array.getElem?_eq_getElem hd, Option.getD_some]
       · rw [if_neg hd, Array.getElem?_eq_none (by omega)]
     · rw [if_neg e]
   rw [e]
   exact fold_own ds (j + 1) T v fun i d' hd => by
     have := h (i + 1) d' (by simpa using hd)
     rwa [show j + (i + 1) = j + 1 + i by omega] at this
theorem wp_region_live {P : Program} {id : Nat} {l : List Oper} {Q : Exit → Act → World → Prop} {w : World} (hm : P.follows .mixedOrders = true) (hpos : 0 < l.length) (hback : backB l = true)
   (ds : List Nat) (hds : l.dropLast.map (·.dst) = ds.map some) (hnd : ds.Nodup) (T : Array Value) (df : List Deferred) (v0 : Nat → Value)
   (PI : Nat → Value → World → Prop) (R : Nat → World → World → Prop) (dead : Nat → Nat → Bool) (hdead : deadB l dead = true) (hmono : ∀ i j y (w w' : World), i < l.length → j < l.length → dead i j = false → R i w w' → PI j y w → PI j y w') (pre : World → Prop) (pd : Nat) (hpre : pre w.drew) (hprem : ∀ (i : Nat) (w w' : World), i ≠ pd → R i w w' → pre w → pre w') (S : World → Prop) (hS : S w.drew)
   (hstep : ∀ (i : Nat) (o : Oper) (v : Nat → Value) (w : World) (K : Act → World → Prop), i + 1 < l.length → l[i]? = some o → S w → (i = pd ∨ depT l 6 pd i = true → pre w) → (∀ e, e ∈ o.after.toList → e.ground = .data → PI e.on (v e.on) w) →
     (∀ x w', S w' → R i w w' → PI i x w' → K (({ tmps := fold v 0 ds T, defers := df } : Act).put o.dst x) w') → wpList P l.toArray (Exit.then K Q) [o] { tmps := fold v 0 ds T, defers := df } w)
   (hlast : ∀ (o : Oper) (v : Nat → Value) (w : World) (K : Act → World → Prop), l[l.length - 1]? = some o → S w → (∀ e, e ∈ o.after.toList → e.ground = .data → PI e.on (v e.on) w) → (∀ j, j + 1 < l.length → freeB l j = true → PI j (v j) w) → (∀ a' w', Q .normal a' w' → K a' w') → wpList P l.toArray (Exit.then K Q) [o] { tmps := fold v 0 ds T, defers := df } w) :
   (Code.region id l.toArray true).wp P Q { tmps := fold v0 0 ds T, defers := df } w := by
 have hdl : ds.length = l.length - 1 := by
   have := congrArg List.length hds
   simp at this; omega
 have hget : ∀ (listed : Array Bool) (i j : Nat), listed.size = l.length → i < l.length → (listed.setIfInBounds i true).getD j false = if j = i then true else listed.getD j false := fun listed i j hs hi => by
   rw [Array.getD_eq_getD_getElem?, Array.getD_eq_getD_getElem?, Array.getElem?_setIfInBounds]
   by_cases e : i = j
   · subst e; rw [if_pos rfl, if_pos rfl, if_pos (by omega)]; rfl
   · rw [if_neg e, if_neg (Ne.symm e)]
 refine wp_region_inv hm hback (fun listed a w => listed.size = l.length ∧ (∀ (j : Nat) (o : Oper), l[j]? = some o → listed.getD j false = true → ∀ e, e ∈ o.after.toList → Region.binds .any e = true → listed.getD e.on false = true) ∧
   ((listed.getD (l.length - 1) false = true ∧ Q .normal a w) ∨ (listed.getD (l.length - 1) false = false ∧ ∃ v, a = { tmps := fold v 0 ds T, defers := df } ∧ S w ∧ (listed.getD pd false = false → pre w) ∧ ∀ i, i + 1 < l.length → listed.getD i false = true → (freeB l i = true ∨ ∃ i' o', l[i']? = some o' ∧ listed.getD i' false = false ∧ ∃ e, e ∈ o'.after.toList ∧ e.ground = .data ∧ e.on = i) → PI i (v i) w))) ?_ ?_ ?_
 · have hf : ∀ j, (Array.replicate l.length false).getD j false = false := fun j => by
     rw [Array.getD_eq_getD_getElem?, Array.getElem?_replicate]
     split <;> rfl
   refine ⟨by simp, (fun j o _ h => by rw [hf] at h; cases h), .inr ⟨hf _, v0, rfl, hS, (fun _ => hpre), (fun i _ h _ => by rw [hf] at h; cases h)⟩⟩
 · rintro i o listed a w ho hs hun hdeps ⟨_, hcl, hinv⟩
   have hil := (List.getElem?_eq_some_iff.1 ho).1
   have hun' : listed.getD i false = false := by
     rw [Array.getD_eq_getD_getElem?] at hun ⊢
     rw [Array.getElem?_eq_getElem (by omega)] at hun ⊢
     exact hun
   have hcl' : ∀ (j : Nat) (o' : Oper), l[j]? = some o' → (listed.setIfInBounds i true).getD j false = true → ∀ e, e ∈ o'.after.toList → Region.binds .any e = true → (listed.setIfInBounds i true).getD e.on false = true := by
     intro j o' hj h e he hb
     rw [hget _ _ _ hs hil] at h ⊢
     split
     · rfl
     · split at h
       · subst j
         rw [ho] at hj; cases hj
         exact hdeps e he hb
       · exact hcl j o' hj h e he hb
   rcases hinv with ⟨h1, _⟩ | ⟨h1, v, rfl, hSw, hPre, hPI⟩
   · -- the last one is done: all are
     exfalso
     have hall : ∀ n k, l.length - 1 - k ≤ n → k < l.length → listed.getD k false = true := by
       intro n
       induction n with
       | zero => intro k hk hkl; obtain rfl : k = l.length - 1 := by omega
                 exact h1
       | succ n ih =>
         intro k hk hkl
         rcases (back_spec hback (List.getElem?_eq_getElem hkl)).2 with e | ⟨j, o', hj, e, he, hb, hon⟩
         · obtain rfl : k = l.length - 1 := by omega
           exact h1
         · have hjk := (back_spec hback hj).1 e he hb
           have hjl := (List.getElem?_eq_some_iff.1 hj).1
           have := ih j (by omega) hjl
           rw [← hon]
           exact hcl j o' hj this e he hb
     rw [hall _ i (Nat.le_refl _) hil] at hun'
     cases hun'
   · by_cases hlst : i + 1 < l.length
     · refine hstep i o v w _ hlst ho hSw (fun hd => ?_) (fun e he hb => ?_) fun x w' hS' hb' hp => ?_
       · refine hPre ?_
         rcases hd with rfl | hd
         · exact hun'
         · cases hp : listed.getD pd false with
           | false => rfl
           | true =>
             have := depT_of (p := fun q => listed.getD q false = true) (fun a b ha hab => by
               obtain ⟨o3, h3, e3, he3, hb3, hon3⟩ := depB_of hab
               have := hcl a o3 h3 ha e3 he3 hb3
               rwa [hon3] at this) 6 pd i hd hp
             rw [hun'] at this; cases this
       · have hon := (back_spec hback ho).1 e he (binds_data hb)
         exact hPI e.on (by omega) (hdeps e he (binds_data hb)) (.inr ⟨i, o, ho, hun', e, he, hb, rfl⟩)
       · refine ⟨by rw [Array.size_setIfInBounds]; exact hs, hcl', .inr ⟨by rw [hget _ _ _ hs hil, if_neg (by omega)]; exact h1, fun k => if k = i then x else v k, ?_, hS', fun hpn => ?_, fun j hj hl hcons => ?_⟩⟩
         · have hd : ∃ d, o.dst = some d ∧ ds[i]? = some d := by
             have h2 : (l.dropLast.map (·.dst))[i]? = some o.dst := by
               rw [List.getElem?_map, List.getElem?_dropLast, if_pos (by omega), ho]; rfl
             rw [hds, List.getElem?_map] at h2
             cases hdi : ds[i]? with
             | none => rw [hdi] at h2; cases h2
             | some d => rw [hdi] at h2; exact ⟨d, by simpa using h2.symm, rfl⟩
           obtain ⟨d, h2, h3⟩ := hd
           rw [h2]
           unfold Act.put
           simp only
           rw [fold_set v ds 0 i d x T hnd h3]
           simp only [Nat.zero_add]
         · rw [hget _ _ _ hs hil] at hpn
           by_cases e : pd = i
           · rw [if_pos e] at hpn; cases hpn
           · rw [if_neg e] at hpn
             exact hprem i _ _ (fun h => e h.symm) hb' (hPre hpn)
         · rw [hget _ _ _ hs hil] at hl
           by_cases e : j = i
           · subst e; simp only [if_true]; exact hp
           · simp only [if_neg e]
             rw [if_neg e] at hl
             have hun3 : ∀ q, depB l i q = true → listed.getD q false = true := fun q hq => by
               obtain ⟨o3, h3, e3, he3, hb3, hon3⟩ := depB_of hq
               rw [ho] at h3; cases h3
               rw [← hon3]
               exact hdeps e3 he3 hb3
             have hold : freeB l j = true ∨ ∃ i' o', l[i']? = some o' ∧ listed.getD i' false = false ∧ i' ≠ i ∧ ∃ e, e ∈ o'.after.toList ∧ e.ground = .data ∧ e.on = j := by
               rcases hcons with hf | ⟨i', o', ho', hun2, hrest⟩
               · exact .inl hf
               · rw [hget _ _ _ hs hil] at hun2
                 by_cases ei : i' = i
                 · rw [if_pos ei] at hun2; cases hun2
                 · rw [if_neg ei] at hun2
                   exact .inr ⟨i', o', ho', hun2, ei, hrest⟩
             refine hmono i j _ _ _ hil (by omega) ?_ hb' (hPI j hj hl (hold.imp (fun h => h) fun ⟨i', o', h1, h2, _, h3⟩ => ⟨i', o', h1, h2, h3⟩))
             cases hdd : dead i j with
             | false => rfl
             | true =>
               exfalso
               rcases dead_spec hdead hil (show j < l.length by omega) hdd with h5 | h5 | ⟨h5, h6⟩
               · exact e h5.symm
               · have := depT_of (p := fun q => listed.getD q false = true) (fun a b ha hab => by
                   obtain ⟨o3, h3, e3, he3, hb3, hon3⟩ := depB_of hab
                   have := hcl a o3 h3 ha e3 he3 hb3
                   rwa [hon3] at this) 6 j i h5 hl
                 rw [hun'] at this; cases this
               · rcases hold with hf | ⟨i', o', ho', hun2, ei, e2, he2, hb2, hon2⟩
                 · rw [h5] at hf; cases hf
                 · rcases h6 i' o' ho' e2 he2 hb2 hon2 with h7 | h7
                   · exact ei h7
                   · rw [hun3 _ h7] at hun2; cases hun2
     · obtain rfl : i = l.length - 1 := by omega
       have hall : ∀ n k, l.length - 1 - k ≤ n → k + 1 < l.length → listed.getD k false = true := by
         intro n
         induction n with
         | zero => intro k hk hkl; omega
         | succ n ih =>
           intro k hk hkl
           rcases (back_spec hback (List.getElem?_eq_getElem (show k < l.length by omega))).2 with e | ⟨j, o', hj, e, he, hb, hon⟩
           · omega
           · have hjk := (back_spec hback hj).1 e he hb
             have hjl := (List.getElem?_eq_some_iff.1 hj).1
             rw [← hon]
             by_cases ej : j = l.length - 1
             · subst ej
               rw [ho] at hj; cases hj
               exact hdeps e he hb
             · exact hcl j o' hj (ih j (by omega) (by omega)) e he hb
       refine hlast o v w _ ho hSw (fun e he hb => ?_) (fun j hj hf => hPI j hj (hall _ j (Nat.le_refl _) hj) (.inl hf)) fun a' w' hq => ?_
       · have hon := (back_spec hback ho).1 e he (binds_data hb)
         exact hPI e.on (by omega) (hdeps e he (binds_data hb)) (.inr ⟨_, o, ho, hun', e, he, hb, rfl⟩)
       · exact ⟨by rw [Array.size_setIfInBounds]; exact hs, hcl', .inl ⟨by rw [hget _ _ _ hs hil, if_pos rfl], hq⟩⟩
 · rintro listed a w hl ⟨hs, _, hinv⟩
   rcases hinv with ⟨_, h⟩ | ⟨h1, _⟩
   · exact h
   · rw [hl _ (by omega)] at h1; cases h1
theorem wp_region_live' {P : Program} {id : Nat} {ops : Array Oper} {Q : Exit → Act → World → Prop} {w : World} {T : Array Value} {df : List Deferred} (hm : P.follows .mixedOrders = true)
   (ds : List Nat) (PI : Nat → Value → World → Prop) (R : Nat → World → World → Prop) (dead : Nat → Nat → Bool) (S : World → Prop) (pre : World → Prop) (pd : Nat) (hpos : 0 < ops.toList.length) (hback : backB ops.toList = true) (hds : ops.toList.dropLast.map (·.dst) = ds.map some) (hnd : ds.Nodup)
   (hdead : deadB ops.toList dead = true) (hmono : ∀ i j y (w w' : World), i < ops.toList.length → j < ops.toList.length → dead i j = false → R i w w' → PI j y w → PI j y w') (hS : S w.drew) (hpre : pre w.drew) (hprem : ∀ (i : Nat) (w w' : World), i ≠ pd → R i w w' → pre w → pre w')
   (hstep : ∀ (i : Nat) (o : Oper) (v : Nat → Value) (w : World) (K : Act → World → Prop), i + 1 < ops.toList.length → ops.toList[i]? = some o → S w → (i = pd ∨ depT ops.toList 6 pd i = true → pre w) → (∀ e, e ∈ o.after.toList → e.ground = .data → PI e.on (v e.on) w) →
     (∀ x w', S w' → R i w w' → PI i x w' → K (({ tmps := fold v 0 ds T, defers := df } : Act).put o.dst x) w') → wpList P ops (Exit.then K Q) [o] { tmps := fold v 0 ds T, defers := df } w)
   (hlast : ∀ (o : Oper) (v : Nat → Value) (w : World) (K : Act → World → Prop), ops.toList[ops.toList.length - 1]? = some o → S w → (∀ e, e ∈ o.after.toList → e.ground = .data → PI e.on (v e.on) w) → (∀ j, j + 1 < ops.toList.length → freeB ops.toList j = true → PI j (v j) w) → (∀ a' w', Q .normal a' w' → K a' w') → wpList P ops (Exit.then K Q) [o] { tmps := fold v 0 ds T, defers := df } w) :
   (Code.region id ops true).wp P Q { tmps := T, defers := df } w := by
 have h := wp_region_live (id := id) (l := ops.toList) (Q := Q) (w := w) hm hpos hback ds hds hnd T df (fun j => T.getD (ds.getD j 0) undef) PI R dead hdead hmono pre pd hpre hprem S hS (by simpa using hstep) (by simpa using hlast)
 rw [fold_own ds 0 T _ (fun i d hd => by simp [List.getD_eq_getElem?_getD, hd])] at h
 simpa using h
end Go.Proofs.YtkddkkcfpnndlaaGreatDoor

namespace Go.Proofs.YtkddkkcfpnndlaaGreatDoor
open Go.RowKit

def depsB (ops : List Oper) (D : Nat → List Nat) : Bool := (List.range ops.length).all fun i => (D i).all fun k =>
 let dir := fun m => match ops[i]? with | some o => o.after.toList.any (fun e => Region.binds .any e && e.on == m) | Option.none => false
 dir k || (D i).any fun m => dir m && (D m).contains k
theorem listed_deps {l : List Oper} {D : Nat → List Nat} {listed : Array Bool} (hback : backB l = true) (hD : depsB l D = true)
   (hcl : ∀ (j : Nat) (o : Oper), l[j]? = some o → listed.getD j false = true → ∀ e, e ∈ o.after.toList → Region.binds .any e = true → listed.getD e.on false = true) :
   ∀ j, j < l.length → listed.getD j false = true → ∀ k, k ∈ D j → listed.getD k false = true := by
 intro j
 induction j using Nat.strongRecOn with
 | ind j ih =>
   intro hj hl k hk
   have ho : l[j]? = some l[j] := List.getElem?_eq_getElem hj
   have h := List.all_eq_true.1 (List.all_eq_true.1 hD j (List.mem_range.2 hj)) k hk
   have dir : ∀ m, (l[j].after.toList.any fun e => Region.binds .any e && e.on == m) = true → listed.getD m false = true ∧ m < j := fun m hm => by
     obtain ⟨e, he, h1⟩ := List.any_eq_true.1 hm
     simp only [Bool.and_eq_true, beq_iff_eq] at h1
     obtain ⟨h1, rfl⟩ := h1
     exact ⟨hcl j _ ho hl e he h1, (back_spec hback ho).1 e he h1⟩
   simp only [ho, Bool.or_eq_true] at h
   rcases h with h | h
   · exact (dir k h).1
   · obtain ⟨m, hm, h2⟩ := List.any_eq_true.1 h
     simp only [Bool.and_eq_true] at h2
     obtain ⟨h3, h4⟩ := dir m h2.1
     exact ih m h4 (by omega) h3 k (by simpa using h2.2)

theorem wp_region_dep {P : Program} {id : Nat} {l : List Oper} {Q : Exit → Act → World → Prop} {w : World} (hm : P.follows .mixedOrders = true) (hpos : 0 < l.length) (hback : backB l = true)
   (ds : List Nat) (hds : l.dropLast.map (·.dst) = ds.map some) (hnd : ds.Nodup) (T : Array Value) (df : List Deferred)
   (D : Nat → List Nat) (hD : depsB l D = true) (PI : Nat → (Nat → Value) → World → Prop) (hcongr : ∀ j (v v' : Nat → Value) (w : World), v j = v' j → (∀ k, k ∈ D j → v k = v' k) → PI j v w → PI j v' w) (hmono : ∀ j v (w w' : World), Below w.heap.size w w' → PI j v w → PI j v w') (S : World → Prop) (hS : S w.drew)
   (hstep : ∀ (i : Nat) (o : Oper) (v : Nat → Value) (w : World) (K : Act → World → Prop), i + 1 < l.length → l[i]? = some o → S w → (∀ e, e ∈ o.after.toList → Region.binds .any e = true → PI e.on v w) →
     (∀ x w', S w' → Below w.heap.size w w' → PI i (fun k => if k = i then x else v k) w' → K (({ tmps := fold v 0 ds T, defers := df } : Act).put o.dst x) w') → wpList P l.toArray (Exit.then K Q) [o] { tmps := fold v 0 ds T, defers := df } w)
   (hlast : ∀ (o : Oper) (v : Nat → Value) (w : World) (K : Act → World → Prop), l[l.length - 1]? = some o → S w → (∀ i, i + 1 < l.length → PI i v w) → (∀ a' w', Q .normal a' w' → K a' w') → wpList P l.toArray (Exit.then K Q) [o] { tmps := fold v 0 ds T, defers := df } w) :
   (Code.region id l.toArray true).wp P Q { tmps := fold (fun _ => undef) 0 ds T, defers := df } w := by
 have hdl : ds.length = l.length - 1 := by
   have := congrArg List.length hds
   simp at this; omega
 have hget : ∀ (listed : Array Bool) (i j : Nat), listed.size = l.length → i < l.length → (listed.setIfInBounds i true).getD j false = if j = i then true else listed.getD j false := fun listed i j hs hi => by
   rw [Array.getD_eq_getD_getElem?, Array.getD_eq_getD_getElem?, Array.getElem?_setIfInBounds]
   by_cases e : i = j
   · subst e; rw [if_pos rfl, if_pos rfl, if_pos (by omega)]; rfl
   · rw [if_neg e, if_neg (Ne.symm e)]
 refine wp_region_inv hm hback (fun listed a w => listed.size = l.length ∧ (∀ (j : Nat) (o : Oper), l[j]? = some o → listed.getD j false = true → ∀ e, e ∈ o.after.toList → Region.binds .any e = true → listed.getD e.on false = true) ∧
   ((listed.getD (l.length - 1) false = true ∧ Q .normal a w) ∨ (listed.getD (l.length - 1) false = false ∧ ∃ v, a = { tmps := fold v 0 ds T, defers := df } ∧ S w ∧ ∀ i, i + 1 < l.length → listed.getD i false = true → PI i v w))) ?_ ?_ ?_
 · have hf : ∀ j, (Array.replicate l.length false).getD j false = false := fun j => by
     rw [Array.getD_eq_getD_getElem?, Array.getElem?_replicate]
     split <;> rfl
   refine ⟨by simp, (fun j o _ h => by rw [hf] at h; cases h), .inr ⟨hf _, fun _ => undef, rfl, hS, (fun i _ h => by rw [hf] at h; cases h)⟩⟩
 · rintro i o listed a w ho hs hun hdeps ⟨_, hcl, hinv⟩
   have hil := (List.getElem?_eq_some_iff.1 ho).1
   have hun' : listed.getD i false = false := by
     rw [Array.getD_eq_getD_getElem?] at hun ⊢
     rw [Array.getElem?_eq_getElem (by omega)] at hun ⊢
     exact hun
   have hcl' : ∀ (j : Nat) (o' : Oper), l[j]? = some o' → (listed.setIfInBounds i true).getD j false = true → ∀ e, e ∈ o'.after.toList → Region.binds .any e = true → (listed.setIfInBounds i true).getD e.on false = true := by
     intro j o' hj h e he hb
     rw [hget _ _ _ hs hil] at h ⊢
     split
     · rfl
     · split at h
       · subst j
         rw [ho] at hj; cases hj
         exact hdeps e he hb
       · exact hcl j o' hj h e he hb
   rcases hinv with ⟨h1, _⟩ | ⟨h1, v, rfl, hSw, hPI⟩
   · -- the last one is done: all are
     exfalso
     have hall : ∀ n k, l.length - 1 - k ≤ n → k < l.length → listed.getD k false = true := by
       intro n
       induction n with
       | zero => intro k hk hkl; obtain rfl : k = l.length - 1 := by omega
                 exact h1
       | succ n ih =>
         intro k hk hkl
         rcases (back_spec hback (List.getElem?_eq_getElem hkl)).2 with e | ⟨j, o', hj, e, he, hb, hon⟩
         · obtain rfl : k = l.length - 1 := by omega
           exact h1
         · have hjk := (back_spec hback hj).1 e he hb
           have hjl := (List.getElem?_eq_some_iff.1 hj).1
           have := ih j (by omega) hjl
           rw [← hon]
           exact hcl j o' hj this e he hb
     rw [hall _ i (Nat.le_refl _) hil] at hun'
     cases hun'
   · by_cases hlst : i + 1 < l.length
     · refine hstep i o v w _ hlst ho hSw (fun e he hb => ?_) fun x w' hS' hb' hp => ?_
       · have hon := (back_spec hback ho).1 e he hb
         exact hPI e.on (by omega) (hdeps e he hb)
       · refine ⟨by rw [Array.size_setIfInBounds]; exact hs, hcl', .inr ⟨by rw [hget _ _ _ hs hil, if_neg (by omega)]; exact h1, fun k => if k = i then x else v k, ?_, hS', fun j hj hl => ?_⟩⟩
         · have hd : ∃ d, o.dst = some d ∧ ds[i]? = some d := by
             have h2 : (l.dropLast.map (·.dst))[i]? = some o.dst := by
               rw [List.getElem?_map, List.getElem?_dropLast, if_pos (by omega), ho]; rfl
             rw [hds, List.getElem?_map] at h2
             cases hdi : ds[i]? with
             | none => rw [hdi] at h2; cases h2
             | some d => rw [hdi] at h2; exact ⟨d, by simpa using h2.symm, rfl⟩
           obtain ⟨d, h2, h3⟩ := hd
           rw [h2]
           unfold Act.put
           simp only
           rw [fold_set v ds 0 i d x T hnd h3]
           simp only [Nat.zero_add]
         · rw [hget _ _ _ hs hil] at hl
           by_cases e : j = i
           · subst e; exact hp
           · rw [if_neg e] at hl
             refine hcongr j v _ w' (by rw [if_neg e]) (fun k hk => ?_) (hmono _ _ _ _ hb' (hPI j hj hl))
             have hlk := listed_deps hback hD hcl j (by omega) hl k hk
             rw [if_neg (fun e' => by rw [e', hun'] at hlk; cases hlk)]
     · obtain rfl : i = l.length - 1 := by omega
       have hall : ∀ n k, l.length - 1 - k ≤ n → k + 1 < l.length → listed.getD k false = true := by
         intro n
         induction n with
         | zero => intro k hk hkl; omega
         | succ n ih =>
           intro k hk hkl
           rcases (back_spec hback (List.getElem?_eq_getElem (show k < l.length by omega))).2 with e | ⟨j, o', hj, e, he, hb, hon⟩
           · omega
           · have hjk := (back_spec hback hj).1 e he hb
             have hjl := (List.getElem?_eq_some_iff.1 hj).1
             rw [← hon]
             by_cases ej : j = l.length - 1
             · subst ej
               rw [ho] at hj; cases hj
               exact hdeps e he hb
             · exact hcl j o' hj (ih j (by omega) (by omega)) e he hb
       refine hlast o v w _ ho hSw (fun k hk => hPI k hk (hall _ k (Nat.le_refl _) hk)) fun a' w' hq => ?_
       exact ⟨by rw [Array.size_setIfInBounds]; exact hs, hcl', .inl ⟨by rw [hget _ _ _ hs hil, if_pos rfl], hq⟩⟩
 · rintro listed a w hl ⟨hs, _, hinv⟩
   rcases hinv with ⟨_, h⟩ | ⟨h1, _⟩
   · exact h
   · rw [hl _ (by omega)] at h1; cases h1
theorem wp_region_dep' {P : Program} {id : Nat} {ops : Array Oper} {Q : Exit → Act → World → Prop} {w : World} {T : Array Value} {df : List Deferred} (hm : P.follows .mixedOrders = true)
   (ds : List Nat) (D : Nat → List Nat) (PI : Nat → (Nat → Value) → World → Prop) (S : World → Prop) (hpos : 0 < ops.toList.length) (hback : backB ops.toList = true) (hds : ops.toList.dropLast.map (·.dst) = ds.map some) (hnd : ds.Nodup) (hT : fold (fun _ => undef) 0 ds T = T)
   (hD : depsB ops.toList D = true) (hcongr : ∀ j (v v' : Nat → Value) (w : World), v j = v' j → (∀ k, k ∈ D j → v k = v' k) → PI j v w → PI j v' w) (hmono : ∀ j v (w w' : World), Below w.heap.size w w' → PI j v w → PI j v w') (hS : S w.drew)
   (hstep : ∀ (i : Nat) (o : Oper) (v : Nat → Value) (w : World) (K : Act → World → Prop), i + 1 < ops.toList.length → ops.toList[i]? = some o → S w → (∀ e, e ∈ o.after.toList → Region.binds .any e = true → PI e.on v w) →
     (∀ x w', S w' → Below w.heap.size w w' → PI i (fun k => if k = i then x else v k) w' → K (({ tmps := fold v 0 ds T, defers := df } : Act).put o.dst x) w') → wpList P ops (Exit.then K Q) [o] { tmps := fold v 0 ds T, defers := df } w)
   (hlast : ∀ (o : Oper) (v : Nat → Value) (w : World) (K : Act → World → Prop), ops.toList[ops.toList.length - 1]? = some o → S w → (∀ i, i + 1 < ops.toList.length → PI i v w) → (∀ a' w', Q .normal a' w' → K a' w') → wpList P ops (Exit.then K Q) [o] { tmps := fold v 0 ds T, defers := df } w) :
   (Code.region id ops true).wp P Q { tmps := T, defers := df } w := by
 have h := wp_region_dep (id := id) (l := ops.toList) (Q := Q) (w := w) hm hpos hback ds hds hnd T df D hD PI hcongr hmono S hS (by simpa using hstep) (by simpa using hlast)
 rw [hT] at h
 simpa using h
end Go.Proofs.YtkddkkcfpnndlaaGreatDoor

namespace Go.Proofs.YtkddkkcfpnndlaaGreatDoor
open Go.RowKit

theorem fold_size (v : Nat → Value) : ∀ (ds : List Nat) (j : Nat) (T : Array Value), (fold v j ds T).size = T.size
 | [], _, _ => rfl
 | d :: ds, j, T => by unfold fold; rw [fold_size v ds]; simp
end Go.Proofs.YtkddkkcfpnndlaaGreatDoor

namespace Go.Proofs.YtkddkkcfpnndlaaGreatDoor
open Go.RowKit

def needE (e : Edge) : Bool := decide (e.ground = .data) || decide (e.ground = .guard)
theorem need_binds {e : Edge} (h : needE e = true) : Region.binds .any e = true := by
 unfold needE at h
 simp only [Bool.or_eq_true, decide_eq_true_eq] at h
 unfold Region.binds
 rcases h with h | h <;> rw [h]
def upB (l : List Oper) (pd : Nat) : Bool := (List.range pd).all fun i => (List.range (pd + 1)).any fun j => decide (i < j) && depB l j i
theorem up_done {l : List Oper} {pd : Nat} (h : upB l pd = true) {p : Nat → Prop} (hc : ∀ a b, p a → depB l a b = true → p b) (hp : ∀ b, depB l pd b = true → p b) : ∀ (n i : Nat), pd - i ≤ n → i < pd → p i
 | 0, i, hn, hi => by omega
 | n + 1, i, hn, hi => by
   have h1 := List.all_eq_true.1 h i (List.mem_range.2 hi)
   obtain ⟨j, hj, h2⟩ := List.any_eq_true.1 h1
   simp only [Bool.and_eq_true, decide_eq_true_eq] at h2
   have hj' := List.mem_range.1 hj
   by_cases e : j = pd
   · subst e; exact hp i h2.2
   · exact hc j i (up_done h hc hp n j (by omega) (by omega)) h2.2
def deadC (l : List Oper) (pd : Nat) (dead : Nat → Bool) : Bool := (List.range l.length).all fun j => !(dead j) || (List.range l.length).all fun i => decide (i ≤ pd) || ((l[i]?).map fun o => o.after.toList.all fun e => !(needE e) || (e.on != j)).getD true
theorem deadC_spec {l : List Oper} {pd : Nat} {dead : Nat → Bool} (h : deadC l pd dead = true) {j i : Nat} {o : Oper} (hj : j < l.length) (hd : dead j = true) (ho : l[i]? = some o) {e : Edge} (he : e ∈ o.after.toList) (hn : needE e = true) (hon : e.on = j) : i ≤ pd := by
 have h1 := List.all_eq_true.1 h j (List.mem_range.2 hj)
 rw [hd] at h1
 simp only [Bool.not_true, Bool.false_or] at h1
 have h2 := List.all_eq_true.1 h1 i (List.mem_range.2 (List.getElem?_eq_some_iff.1 ho).1)
 rw [ho] at h2
 simp only [Option.map_some, Option.getD_some, Bool.or_eq_true, decide_eq_true_eq] at h2
 rcases h2 with h2 | h2
 · exact h2
 · have h3 := List.all_eq_true.1 h2 e he
   rw [hn, hon] at h3
   simp at h3

theorem wp_region_live3 {P : Program} {id : Nat} {l : List Oper} {Q : Exit → Act → World → Prop} {w : World} (hm : P.follows .mixedOrders = true) (hpos : 0 < l.length) (hback : backB l = true)
   (T : Array Value) (ds : List Nat) (hds : l.dropLast.map (fun o => o.dst.getD T.size) = ds) (hnd : ds.Nodup) (df : List Deferred) (v0 : Nat → Value)
   (PI : Nat → Value → World → Prop) (RP : World → World → Prop) (pd : Nat) (hpd : pd + 1 < l.length) (hup : upB l pd = true) (dead : Nat → Bool) (hdead : deadC l pd dead = true)
   (hmono : ∀ j y (w w' : World), Below w.heap.size w w' → PI j y w → PI j y w') (hmono2 : ∀ j y (w w' : World), dead j = false → j ≠ pd → RP w w' → PI j y w → PI j y w') (pre : World → Prop) (hpre : pre w.drew) (hprem : ∀ (w w' : World), Below w.heap.size w w' → pre w → pre w') (S : World → Prop) (hS : S w.drew)
   (hstep : ∀ (i : Nat) (o : Oper) (v : Nat → Value) (w : World) (K : Act → World → Prop), i + 1 < l.length → l[i]? = some o → S w → (i ≤ pd → pre w) → (∀ e, e ∈ o.after.toList → needE e = true → PI e.on (v e.on) w) →
     (∀ x w', S w' → (i ≠ pd → Below w.heap.size w w') → (i = pd → RP w w') → PI i x w' → K (({ tmps := fold v 0 ds T, defers := df } : Act).put o.dst x) w') → wpList P l.toArray (Exit.then K Q) [o] { tmps := fold v 0 ds T, defers := df } w)
   (hlast : ∀ (o : Oper) (v : Nat → Value) (w : World) (K : Act → World → Prop), l[l.length - 1]? = some o → S w → (∀ e, e ∈ o.after.toList → needE e = true → PI e.on (v e.on) w) → (∀ a' w', Q .normal a' w' → K a' w') → wpList P l.toArray (Exit.then K Q) [o] { tmps := fold v 0 ds T, defers := df } w) :
   (Code.region id l.toArray true).wp P Q { tmps := fold v0 0 ds T, defers := df } w := by
 have hget : ∀ (listed : Array Bool) (i j : Nat), listed.size = l.length → i < l.length → (listed.setIfInBounds i true).getD j false = if j = i then true else listed.getD j false := fun listed i j hs hi => by
   rw [Array.getD_eq_getD_getElem?, Array.getD_eq_getD_getElem?, Array.getElem?_setIfInBounds]
   by_cases e : i = j
   · subst e; rw [if_pos rfl, if_pos rfl, if_pos (by omega)]; rfl
   · rw [if_neg e, if_neg (Ne.symm e)]
 refine wp_region_inv hm hback (fun listed a w => listed.size = l.length ∧ (∀ (j : Nat) (o : Oper), l[j]? = some o → listed.getD j false = true → ∀ e, e ∈ o.after.toList → Region.binds .any e = true → listed.getD e.on false = true) ∧
   ((listed.getD (l.length - 1) false = true ∧ Q .normal a w) ∨ (listed.getD (l.length - 1) false = false ∧ ∃ v, a = { tmps := fold v 0 ds T, defers := df } ∧ S w ∧ (listed.getD pd false = false → pre w) ∧ ∀ i, i + 1 < l.length → listed.getD i false = true → (∃ i' o', l[i']? = some o' ∧ listed.getD i' false = false ∧ ∃ e, e ∈ o'.after.toList ∧ needE e = true ∧ e.on = i) → PI i (v i) w))) ?_ ?_ ?_
 · have hf : ∀ j, (Array.replicate l.length false).getD j false = false := fun j => by
     rw [Array.getD_eq_getD_getElem?, Array.getElem?_replicate]
     split <;> rfl
   refine ⟨by simp, (fun j o _ h => by rw [hf] at h; cases h), .inr ⟨hf _, v0, rfl, hS, (fun _ => hpre), (fun i _ h _ => by rw [hf] at h; cases h)⟩⟩
 · rintro i o listed a w ho hs hun hdeps ⟨_, hcl, hinv⟩
   have hil := (List.getElem?_eq_some_iff.1 ho).1
   have hun' : listed.getD i false = false := by
     rw [Array.getD_eq_getD_getElem?] at hun ⊢
     rw [Array.getElem?_eq_getElem (by omega)] at hun ⊢
     exact hun
   have hcl' : ∀ (j : Nat) (o' : Oper), l[j]? = some o' → (listed.setIfInBounds i true).getD j false = true → ∀ e, e ∈ o'.after.toList → Region.binds .any e = true → (listed.setIfInBounds i true).getD e.on false = true := by
     intro j o' hj h e he hb
     rw [hget _ _ _ hs hil] at h ⊢
     split
     · rfl
     · split at h
       · subst j
         rw [ho] at hj; cases hj
         exact hdeps e he hb
       · exact hcl j o' hj h e he hb
   have hclo : ∀ a b, listed.getD a false = true → depB l a b = true → listed.getD b false = true := fun a b ha hab => by
     obtain ⟨o3, h3, e3, he3, hb3, hon3⟩ := depB_of hab
     have := hcl a o3 h3 ha e3 he3 hb3
     rwa [hon3] at this
   rcases hinv with ⟨h1, _⟩ | ⟨h1, v, rfl, hSw, hPre, hPI⟩
   · -- the last one is done: all are
     exfalso
     have hall : ∀ n k, l.length - 1 - k ≤ n → k < l.length → listed.getD k false = true := by
       intro n
       induction n with
       | zero => intro k hk hkl; obtain rfl : k = l.length - 1 := by omega
                 exact h1
       | succ n ih =>
         intro k hk hkl
         rcases (back_spec hback (List.getElem?_eq_getElem hkl)).2 with e | ⟨j, o', hj, e, he, hb, hon⟩
         · obtain rfl : k = l.length - 1 := by omega
           exact h1
         · have hjk := (back_spec hback hj).1 e he hb
           have hjl := (List.getElem?_eq_some_iff.1 hj).1
           have := ih j (by omega) hjl
           rw [← hon]
           exact hcl j o' hj this e he hb
     rw [hall _ i (Nat.le_refl _) hil] at hun'
     cases hun'
   · by_cases hlst : i + 1 < l.length
     · refine hstep i o v w _ hlst ho hSw (fun hd => ?_) (fun e he hb => ?_) fun x w' hS' hb' hr' hp => ?_
       · refine hPre ?_
         cases hp : listed.getD pd false with
         | false => rfl
         | true =>
           exfalso
           by_cases e : i = pd
           · subst e; rw [hun'] at hp; cases hp
           · have := up_done hup (p := fun q => listed.getD q false = true) hclo (fun b hb => hclo pd b hp hb) _ i (Nat.le_refl _) (by omega)
             rw [hun'] at this; cases this
       · have hon := (back_spec hback ho).1 e he (need_binds hb)
         exact hPI e.on (by omega) (hdeps e he (need_binds hb)) ⟨i, o, ho, hun', e, he, hb, rfl⟩
       · refine ⟨by rw [Array.size_setIfInBounds]; exact hs, hcl', .inr ⟨by rw [hget _ _ _ hs hil, if_neg (by omega)]; exact h1, fun k => if k = i then x else v k, ?_, hS', fun hpn => ?_, fun j hj hl hcons => ?_⟩⟩
         · have h3 : ds[i]? = some (o.dst.getD T.size) := by
             rw [← hds, List.getElem?_map, List.getElem?_dropLast, if_pos (by omega), ho]; rfl
           have h4 := fold_set v ds 0 i _ x T hnd h3
           cases hd : o.dst with
           | some d =>
             rw [hd] at h4
             unfold Act.put
             simp only
             rw [show (some d).getD T.size = d from rfl] at h4
             rw [h4]
             simp only [Nat.zero_add]
           | none =>
             rw [hd, show (Option.none : Option Nat).getD T.size = T.size from rfl, Array.setIfInBounds_eq_of_size_le (by rw [fold_size]; exact Nat.le_refl _)] at h4
             unfold Act.put
             simp only
             rw [h4]
             simp only [Nat.zero_add]
         · rw [hget _ _ _ hs hil] at hpn
           by_cases e : pd = i
           · rw [if_pos e] at hpn; cases hpn
           · rw [if_neg e] at hpn
             exact hprem _ _ (hb' (fun h => e h.symm)) (hPre hpn)
         · rw [hget _ _ _ hs hil] at hl
           by_cases e : j = i
           · subst e; simp only [if_true]; exact hp
           · simp only [if_neg e]
             rw [if_neg e] at hl
             obtain ⟨i', o', ho', hun2, e2, he2, hn2, hon2⟩ := hcons
             rw [hget _ _ _ hs hil] at hun2
             by_cases ei : i' = i
             · rw [if_pos ei] at hun2; cases hun2
             rw [if_neg ei] at hun2
             have hPj := hPI j hj hl ⟨i', o', ho', hun2, e2, he2, hn2, hon2⟩
             by_cases ep : i = pd
             · refine hmono2 j _ _ _ ?_ (by omega) (hr' ep) hPj
               cases hdd : dead j with
               | false => rfl
               | true =>
                 exfalso
                 have hle := deadC_spec hdead (by omega) hdd ho' he2 hn2 hon2
                 have hlt : i' < pd := by omega
                 have := up_done hup (p := fun q => listed.getD q false = true) hclo (fun b hb => by
                   subst ep
                   obtain ⟨o3, h3, e3, he3, hb3, hon3⟩ := depB_of hb
                   rw [ho] at h3; cases h3
                   rw [← hon3]
                   exact hdeps e3 he3 hb3) _ i' (Nat.le_refl _) hlt
                 rw [hun2] at this; cases this
             · exact hmono j _ _ _ (hb' ep) hPj
     · obtain rfl : i = l.length - 1 := by omega
       refine hlast o v w _ ho hSw (fun e he hb => ?_) fun a' w' hq => ?_
       · have hon := (back_spec hback ho).1 e he (need_binds hb)
         exact hPI e.on (by omega) (hdeps e he (need_binds hb)) ⟨_, o, ho, hun', e, he, hb, rfl⟩
       · exact ⟨by rw [Array.size_setIfInBounds]; exact hs, hcl', .inl ⟨by rw [hget _ _ _ hs hil, if_pos rfl], hq⟩⟩
 · rintro listed a w hl ⟨hs, _, hinv⟩
   rcases hinv with ⟨_, h⟩ | ⟨h1, _⟩
   · exact h
   · rw [hl _ (by omega)] at h1; cases h1
theorem wp_region_live3' {P : Program} {id : Nat} {ops : Array Oper} {Q : Exit → Act → World → Prop} {w : World} {T : Array Value} {df : List Deferred} (hm : P.follows .mixedOrders = true)
   (ds : List Nat) (PI : Nat → Value → World → Prop) (RP : World → World → Prop) (pd : Nat) (dead : Nat → Bool) (pre : World → Prop) (S : World → Prop) (hpos : 0 < ops.toList.length) (hback : backB ops.toList = true) (hds : ops.toList.dropLast.map (fun o => o.dst.getD T.size) = ds) (hnd : ds.Nodup)
   (hpd : pd + 1 < ops.toList.length) (hup : upB ops.toList pd = true) (hdead : deadC ops.toList pd dead = true)
   (hmono : ∀ j y (w w' : World), Below w.heap.size w w' → PI j y w → PI j y w') (hmono2 : ∀ j y (w w' : World), dead j = false → j ≠ pd → RP w w' → PI j y w → PI j y w') (hpre : pre w.drew) (hprem : ∀ (w w' : World), Below w.heap.size w w' → pre w → pre w') (hS : S w.drew)
   (hstep : ∀ (i : Nat) (o : Oper) (v : Nat → Value) (w : World) (K : Act → World → Prop), i + 1 < ops.toList.length → ops.toList[i]? = some o → S w → (i ≤ pd → pre w) → (∀ e, e ∈ o.after.toList → needE e = true → PI e.on (v e.on) w) →
     (∀ x w', S w' → (i ≠ pd → Below w.heap.size w w') → (i = pd → RP w w') → PI i x w' → K (({ tmps := fold v 0 ds T, defers := df } : Act).put o.dst x) w') → wpList P ops (Exit.then K Q) [o] { tmps := fold v 0 ds T, defers := df } w)
   (hlast : ∀ (o : Oper) (v : Nat → Value) (w : World) (K : Act → World → Prop), ops.toList[ops.toList.length - 1]? = some o → S w → (∀ e, e ∈ o.after.toList → needE e = true → PI e.on (v e.on) w) → (∀ a' w', Q .normal a' w' → K a' w') → wpList P ops (Exit.then K Q) [o] { tmps := fold v 0 ds T, defers := df } w) :
   (Code.region id ops true).wp P Q { tmps := T, defers := df } w := by
 have h := wp_region_live3 (id := id) (l := ops.toList) (Q := Q) (w := w) hm hpos hback T ds hds hnd df (fun j => T.getD (ds.getD j 0) undef) PI RP pd hpd hup dead hdead hmono hmono2 pre hpre hprem S hS (by simpa using hstep) (by simpa using hlast)
 rw [fold_own ds 0 T _ (fun i d hd => by simp [List.getD_eq_getElem?_getD, hd])] at h
 simpa using h
end Go.Proofs.YtkddkkcfpnndlaaGreatDoor
