/- A region that draws its order, operation by operation, where what is said of an operation may name the values of those that it waits for. Walks: salesroomlaw01.TwinMarket. Walks: salesroomlaw01.TwinOutcome. Walks: salesroomlaw01.TwinOutcome. -/
import Derived.Test.YtbnjeegicbffeaaGreatG08
import Derived.Test.YtbnjeegicbffeaaGreatG42
import Derived.Test.YtbnjeegicbffeaaGreatG36
/- A region that draws its order, operation by operation, where what is said of an operation may name the values of those that it waits for. -/
namespace Go.Proofs.YtbnjeegicbffeaaGreat
open Go.RowKit

/-- what D names is waited for, at once or through another one that D names -/
def depsB (ops : List Oper) (D : Nat → List Nat) : Bool := (List.range ops.length).all fun i => (D i).all fun k =>
  let dir := fun m => match ops[i]? with | some o => o.after.toList.any (fun e => Region.binds .any e && e.on == m) | Option.none => false
  dir k || (D i).any fun m => dir m && (D m).contains k
theorem listed_deps {l : List Oper} {D : Nat → List Nat} {listed : Array Bool} (hback : backB l = true) (hD : depsB l D = true)
    (hcl : ∀ (j : Nat) (o : Oper), l[j]? = some o → listed.getD j false = true → ∀ e, e ∈ o.after.toList → Region.binds .any e = true → listed.getD e.on false = true) :
    ∀ j, j < l.length → listed.getD j false = true → ∀ k, k ∈ D j → listed.getD k false = true := by
  intro j
  induction j using Nat.strongRecOn with
  | ind j ih =>
    intro hj hl k hk
    have ho : l[j]? = some l[j] := List.getElem?_eq_getElem hj
    have h := List.all_eq_true.1 (List.all_eq_true.1 hD j (List.mem_range.2 hj)) k hk
    have dir : ∀ m, (l[j].after.toList.any fun e => Region.binds .any e && e.on == m) = true → listed.getD m false = true ∧ m < j := fun m hm => by
      obtain ⟨e, he, h1⟩ := List.any_eq_true.1 hm
      simp only [Bool.and_eq_true, beq_iff_eq] at h1
      obtain ⟨h1, rfl⟩ := h1
      exact ⟨hcl j _ ho hl e he h1, (back_spec hback ho).1 e he h1⟩
    simp only [ho, Bool.or_eq_true] at h
    rcases h with h | h
    · exact (dir k h).1
    · obtain ⟨m, hm, h2⟩ := List.any_eq_true.1 h
      simp only [Bool.and_eq_true] at h2
      obtain ⟨h3, h4⟩ := dir m h2.1
      exact ih m h4 (by omega) h3 k (by simpa using h2.2)

/-- EACH OPERATION by itself: PI j says what operation j has yielded, of its value and of the world, and abides whatever leaves what was there as it was; the last operation waits for all others. -/
theorem wp_region_dep {P : Program} {id : Nat} {l : List Oper} {Q : Exit → Act → World → Prop} {w : World} (hm : P.follows .mixedOrders = true) (hpos : 0 < l.length) (hback : backB l = true)
    (ds : List Nat) (hds : l.dropLast.map (·.dst) = ds.map some) (hnd : ds.Nodup) (T : Array Value) (df : List Deferred)
    (D : Nat → List Nat) (hD : depsB l D = true) (PI : Nat → (Nat → Value) → World → Prop) (hcongr : ∀ j (v v' : Nat → Value) (w : World), v j = v' j → (∀ k, k ∈ D j → v k = v' k) → PI j v w → PI j v' w) (hmono : ∀ j v (w w' : World), Below w.heap.size w w' → PI j v w → PI j v w') (S : World → Prop) (hS : S w.drew)
    (hstep : ∀ (i : Nat) (o : Oper) (v : Nat → Value) (w : World) (K : Act → World → Prop), i + 1 < l.length → l[i]? = some o → S w → (∀ e, e ∈ o.after.toList → Region.binds .any e = true → PI e.on v w) →
      (∀ x w', S w' → Below w.heap.size w w' → PI i (fun k => if k = i then x else v k) w' → K (({ tmps := fold v 0 ds T, defers := df } : Act).put o.dst x) w') → wpList P l.toArray (Exit.then K Q) [o] { tmps := fold v 0 ds T, defers := df } w)
    (hlast : ∀ (o : Oper) (v : Nat → Value) (w : World) (K : Act → World → Prop), l[l.length - 1]? = some o → S w → (∀ i, i + 1 < l.length → PI i v w) → (∀ a' w', Q .normal a' w' → K a' w') → wpList P l.toArray (Exit.then K Q) [o] { tmps := fold v 0 ds T, defers := df } w) :
    (Code.region id l.toArray true).wp P Q { tmps := fold (fun _ => undef) 0 ds T, defers := df } w := by
  have hdl : ds.length = l.length - 1 := by
    have := congrArg List.length hds
    simp at this; omega
  have hget : ∀ (listed : Array Bool) (i j : Nat), listed.size = l.length → i < l.length → (listed.setIfInBounds i true).getD j false = if j = i then true else listed.getD j false := fun listed i j hs hi => by
    rw [Array.getD_eq_getD_getElem?, Array.getD_eq_getD_getElem?, Array.getElem?_setIfInBounds]
    by_cases e : i = j
    · subst e; rw [if_pos rfl, if_pos rfl, if_pos (by omega)]; rfl
    · rw [if_neg e, if_neg (Ne.symm e)]
  refine wp_region_inv hm hback (fun listed a w => listed.size = l.length ∧ (∀ (j : Nat) (o : Oper), l[j]? = some o → listed.getD j false = true → ∀ e, e ∈ o.after.toList → Region.binds .any e = true → listed.getD e.on false = true) ∧
    ((listed.getD (l.length - 1) false = true ∧ Q .normal a w) ∨ (listed.getD (l.length - 1) false = false ∧ ∃ v, a = { tmps := fold v 0 ds T, defers := df } ∧ S w ∧ ∀ i, i + 1 < l.length → listed.getD i false = true → PI i v w))) ?_ ?_ ?_
  · have hf : ∀ j, (Array.replicate l.length false).getD j false = false := fun j => by
      rw [Array.getD_eq_getD_getElem?, Array.getElem?_replicate]
      split <;> rfl
    refine ⟨by simp, (fun j o _ h => by rw [hf] at h; cases h), .inr ⟨hf _, fun _ => undef, rfl, hS, (fun i _ h => by rw [hf] at h; cases h)⟩⟩
  · rintro i o listed a w ho hs hun hdeps ⟨_, hcl, hinv⟩
    have hil := (List.getElem?_eq_some_iff.1 ho).1
    have hun' : listed.getD i false = false := by
      rw [Array.getD_eq_getD_getElem?] at hun ⊢
      rw [Array.getElem?_eq_getElem (by omega)] at hun ⊢
      exact hun
    have hcl' : ∀ (j : Nat) (o' : Oper), l[j]? = some o' → (listed.setIfInBounds i true).getD j false = true → ∀ e, e ∈ o'.after.toList → Region.binds .any e = true → (listed.setIfInBounds i true).getD e.on false = true := by
      intro j o' hj h e he hb
      rw [hget _ _ _ hs hil] at h ⊢
      split
      · rfl
      · split at h
        · subst j
          rw [ho] at hj; cases hj
          exact hdeps e he hb
        · exact hcl j o' hj h e he hb
    rcases hinv with ⟨h1, _⟩ | ⟨h1, v, rfl, hSw, hPI⟩
    · -- the last one is done: all are
      exfalso
      have hall : ∀ n k, l.length - 1 - k ≤ n → k < l.length → listed.getD k false = true := by
        intro n
        induction n with
        | zero => intro k hk hkl; obtain rfl : k = l.length - 1 := by omega
                  exact h1
        | succ n ih =>
          intro k hk hkl
          rcases (back_spec hback (List.getElem?_eq_getElem hkl)).2 with e | ⟨j, o', hj, e, he, hb, hon⟩
          · obtain rfl : k = l.length - 1 := by omega
            exact h1
          · have hjk := (back_spec hback hj).1 e he hb
            have hjl := (List.getElem?_eq_some_iff.1 hj).1
            have := ih j (by omega) hjl
            rw [← hon]
            exact hcl j o' hj this e he hb
      rw [hall _ i (Nat.le_refl _) hil] at hun'
      cases hun'
    · by_cases hlst : i + 1 < l.length
      · refine hstep i o v w _ hlst ho hSw (fun e he hb => ?_) fun x w' hS' hb' hp => ?_
        · have hon := (back_spec hback ho).1 e he hb
          exact hPI e.on (by omega) (hdeps e he hb)
        · refine ⟨by rw [Array.size_setIfInBounds]; exact hs, hcl', .inr ⟨by rw [hget _ _ _ hs hil, if_neg (by omega)]; exact h1, fun k => if k = i then x else v k, ?_, hS', fun j hj hl => ?_⟩⟩
          · have hd : ∃ d, o.dst = some d ∧ ds[i]? = some d := by
              have h2 : (l.dropLast.map (·.dst))[i]? = some o.dst := by
                rw [List.getElem?_map, List.getElem?_dropLast, if_pos (by omega), ho]; rfl
              rw [hds, List.getElem?_map] at h2
              cases hdi : ds[i]? with
              | none => rw [hdi] at h2; cases h2
              | some d => rw [hdi] at h2; exact ⟨d, by simpa using h2.symm, rfl⟩
            obtain ⟨d, h2, h3⟩ := hd
            rw [h2]
            unfold Act.put
            simp only
            rw [fold_set v ds 0 i d x T hnd h3]
            simp only [Nat.zero_add]
          · rw [hget _ _ _ hs hil] at hl
            by_cases e : j = i
            · subst e; exact hp
            · rw [if_neg e] at hl
              refine hcongr j v _ w' (by rw [if_neg e]) (fun k hk => ?_) (hmono _ _ _ _ hb' (hPI j hj hl))
              have hlk := listed_deps hback hD hcl j (by omega) hl k hk
              rw [if_neg (fun e' => by rw [e', hun'] at hlk; cases hlk)]
      · obtain rfl : i = l.length - 1 := by omega
        have hall : ∀ n k, l.length - 1 - k ≤ n → k + 1 < l.length → listed.getD k false = true := by
          intro n
          induction n with
          | zero => intro k hk hkl; omega
          | succ n ih =>
            intro k hk hkl
            rcases (back_spec hback (List.getElem?_eq_getElem (show k < l.length by omega))).2 with e | ⟨j, o', hj, e, he, hb, hon⟩
            · omega
            · have hjk := (back_spec hback hj).1 e he hb
              have hjl := (List.getElem?_eq_some_iff.1 hj).1
              rw [← hon]
              by_cases ej : j = l.length - 1
              · subst ej
                rw [ho] at hj; cases hj
                exact hdeps e he hb
              · exact hcl j o' hj (ih j (by omega) (by omega)) e he hb
        refine hlast o v w _ ho hSw (fun k hk => hPI k hk (hall _ k (Nat.le_refl _) hk)) fun a' w' hq => ?_
        exact ⟨by rw [Array.size_setIfInBounds]; exact hs, hcl', .inl ⟨by rw [hget _ _ _ hs hil, if_pos rfl], hq⟩⟩
  · rintro listed a w hl ⟨hs, _, hinv⟩
    rcases hinv with ⟨_, h⟩ | ⟨h1, _⟩
    · exact h
    · rw [hl _ (by omega)] at h1; cases h1
theorem wp_region_dep' {P : Program} {id : Nat} {ops : Array Oper} {Q : Exit → Act → World → Prop} {w : World} {T : Array Value} {df : List Deferred} (hm : P.follows .mixedOrders = true)
    (ds : List Nat) (D : Nat → List Nat) (PI : Nat → (Nat → Value) → World → Prop) (S : World → Prop) (hpos : 0 < ops.toList.length) (hback : backB ops.toList = true) (hds : ops.toList.dropLast.map (·.dst) = ds.map some) (hnd : ds.Nodup) (hT : fold (fun _ => undef) 0 ds T = T)
    (hD : depsB ops.toList D = true) (hcongr : ∀ j (v v' : Nat → Value) (w : World), v j = v' j → (∀ k, k ∈ D j → v k = v' k) → PI j v w → PI j v' w) (hmono : ∀ j v (w w' : World), Below w.heap.size w w' → PI j v w → PI j v w') (hS : S w.drew)
    (hstep : ∀ (i : Nat) (o : Oper) (v : Nat → Value) (w : World) (K : Act → World → Prop), i + 1 < ops.toList.length → ops.toList[i]? = some o → S w → (∀ e, e ∈ o.after.toList → Region.binds .any e = true → PI e.on v w) →
      (∀ x w', S w' → Below w.heap.size w w' → PI i (fun k => if k = i then x else v k) w' → K (({ tmps := fold v 0 ds T, defers := df } : Act).put o.dst x) w') → wpList P ops (Exit.then K Q) [o] { tmps := fold v 0 ds T, defers := df } w)
    (hlast : ∀ (o : Oper) (v : Nat → Value) (w : World) (K : Act → World → Prop), ops.toList[ops.toList.length - 1]? = some o → S w → (∀ i, i + 1 < ops.toList.length → PI i v w) → (∀ a' w', Q .normal a' w' → K a' w') → wpList P ops (Exit.then K Q) [o] { tmps := fold v 0 ds T, defers := df } w) :
    (Code.region id ops true).wp P Q { tmps := T, defers := df } w := by
  have h := wp_region_dep (id := id) (l := ops.toList) (Q := Q) (w := w) hm hpos hback ds hds hnd T df D hD PI hcongr hmono S hS (by simpa using hstep) (by simpa using hlast)
  rw [hT] at h
  simpa using h
end Go.Proofs.YtbnjeegicbffeaaGreat

/- Walks: salesroomlaw01.TwinMarket. -/
namespace Go.Proofs.YtbnjeegicbffeaaGreat
open Go.RowKit Sale

/-- what TwinMarket tells -/
def TwinSays (w : World) (rn bn on : Nat) (m : Mkt) (e : Ending) (w' : World) : Prop :=
  ∃ (g1 c1 B cB g3 c3 s1 s2 : Nat) (vals : List Value) (gs : List Nat), e = .returned (.agg #[.slice (some ⟨g1, 0, none⟩) rn c1, .slice (some ⟨B, 0, none⟩) bn cB, .slice (some ⟨g3, 0, none⟩) on c3]) ∧ rn ≤ c1 ∧ bn ≤ cB ∧ on ≤ c3 ∧
    TwinMkt w' w.heap.size s1 s2 g1 B g3 vals gs m ∧ Below w.heap.size w w'

def tm0 (w : World) (ra ba oa : Option Addr) (rn rc bn bc on oc : Nat) : World := (mw w ra ba oa rn rc bn bc on oc).alloc (.cells #[.slice none 0 0, .slice none 0 0, .slice none 0 0] 28)
theorem tm0_at (w : World) (ra ba oa : Option Addr) (rn rc bn bc on oc : Nat) : VRow (tm0 w ra ba oa rn rc bn bc on oc) w.heap.size 28 [.slice ra rn rc, .slice ba bn bc, .slice oa on oc] ∧
    VRow (tm0 w ra ba oa rn rc bn bc on oc) (w.heap.size + 1) 28 [.slice none 0 0, .slice none 0 0, .slice none 0 0] ∧ Below w.heap.size w (tm0 w ra ba oa rn rc bn bc on oc) ∧ (tm0 w ra ba oa rn rc bn bc on oc).heap.size = w.heap.size + 2 := by
  have h1 := VRow.new w 28 [.slice ra rn rc, .slice ba bn bc, .slice oa on oc]
  have h2 := VRow.new (mw w ra ba oa rn rc bn bc on oc) 28 [.slice none 0 0, .slice none 0 0, .slice none 0 0]
  rw [show (mw w ra ba oa rn rc bn bc on oc).heap.size = w.heap.size + 1 by simp [mw]] at h2
  exact ⟨h1.alloc _, h2, ((Below.refl _ _).alloc (Nat.le_refl _) _).alloc (by simp) _, by simp [tm0, mw]⟩

theorem tm_results {h : Nat} {v0 v1 v2 : Value} {tmps : Array Value} (t2 : tmps[2]?.getD undef = .pointer (some ⟨h, 0, none⟩)) (W : World) (hO : VRow W h 28 [v0, v1, v2]) :
    (results Tryz.f29 tmps).run Tryz.prog W = .ok (.agg #[v0, v1, v2]) W := by
  have c0 := hO.cell (k := 0) rfl
  have c1 := hO.cell (k := 1) rfl
  have c2 := hO.cell (k := 2) rfl
  simp [results, Tryz.results29, go_sem, t2, c0, c1, c2]

theorem step3 {w w' : World} (hb : Below w.heap.size w w') {b : Nat} {v0 v1 v2 : Value} (h : w.cell? ⟨b, 0, none⟩ = some v0 ∧ w.cell? ⟨b, 1, none⟩ = some v1 ∧ w.cell? ⟨b, 2, none⟩ = some v2) :
    w'.cell? ⟨b, 0, none⟩ = some v0 ∧ w'.cell? ⟨b, 1, none⟩ = some v1 ∧ w'.cell? ⟨b, 2, none⟩ = some v2 := ⟨cell_step hb h.1, cell_step hb h.2.1, cell_step hb h.2.2⟩

/-- what each operation of the literal yields -/
def TPW (H h : Nat) (ra ba oa : Option Addr) (rn rc bn bc on oc : Nat) (m : Mkt) (i : Nat) (v : Nat → Value) (w : World) : Prop := match i with
  | 0 => v 0 = .pointer (some ⟨h, 0, none⟩)
  | 1 => v 1 = .slice ra rn rc
  | 2 => ∃ g1 c1, v 2 = .slice (some ⟨g1, 0, none⟩) rn c1 ∧ rn ≤ c1 ∧ TabI w g1 m.res ∧ H ≤ g1
  | 3 => v 3 = .pointer (some ⟨h, 1, none⟩)
  | 4 => v 4 = .slice ba bn bc
  | 5 => ∃ g1 c1 B cB s1 vals gs, (v 2 = .slice (some ⟨g1, 0, none⟩) rn c1 ∧ rn ≤ c1 ∧ TabI w g1 m.res ∧ H ≤ g1 ∧ g1 < s1) ∧ v 5 = .slice (some ⟨B, 0, none⟩) bn cB ∧ bn ≤ cB ∧ Tab w B 23 vals ∧ vals.length = m.bids.length ∧ s1 ≤ B ∧ TwinsOf w s1 B vals gs m.bids
  | 6 => v 6 = .pointer (some ⟨h, 2, none⟩)
  | 7 => v 7 = .slice oa on oc
  | 8 => ∃ g1 c1 B cB g3 c3 s1 s2 vals gs, v 2 = .slice (some ⟨g1, 0, none⟩) rn c1 ∧ v 5 = .slice (some ⟨B, 0, none⟩) bn cB ∧ v 8 = .slice (some ⟨g3, 0, none⟩) on c3 ∧ rn ≤ c1 ∧ bn ≤ cB ∧ on ≤ c3 ∧ TwinMkt w H s1 s2 g1 B g3 vals gs m
  | 9 => ∃ g1 c1 B cB g3 c3 s1 s2 vals gs, v 9 = .agg #[.slice (some ⟨g1, 0, none⟩) rn c1, .slice (some ⟨B, 0, none⟩) bn cB, .slice (some ⟨g3, 0, none⟩) on c3] ∧ rn ≤ c1 ∧ bn ≤ cB ∧ on ≤ c3 ∧ TwinMkt w H s1 s2 g1 B g3 vals gs m
  | _ => True
def TPD (i : Nat) : List Nat := match i with
  | 5 => [2]
  | 8 => [2, 5]
  | _ => []
theorem TPW_congr {H h : Nat} {ra ba oa : Option Addr} {rn rc bn bc on oc : Nat} {m : Mkt} : ∀ j (v v' : Nat → Value) (w : World), v j = v' j → (∀ k, k ∈ TPD j → v k = v' k) → TPW H h ra ba oa rn rc bn bc on oc m j v w → TPW H h ra ba oa rn rc bn bc on oc m j v' w
  | 0, v, v', w, e, _, p => (e ▸ p : v' 0 = _)
  | 1, v, v', w, e, _, p => (e ▸ p : v' 1 = _)
  | 2, v, v', w, e, _, p => by obtain ⟨g1, c1, p1, p2⟩ := p; exact ⟨g1, c1, e ▸ p1, p2⟩
  | 3, v, v', w, e, _, p => (e ▸ p : v' 3 = _)
  | 4, v, v', w, e, _, p => (e ▸ p : v' 4 = _)
  | 5, v, v', w, e, d, p => by
    have d2 := d 2 (by simp [TPD])
    obtain ⟨g1, c1, B, cB, s1, vals, gs, ⟨p1, q⟩, p2, r⟩ := p
    exact ⟨g1, c1, B, cB, s1, vals, gs, ⟨d2 ▸ p1, q⟩, e ▸ p2, r⟩
  | 6, v, v', w, e, _, p => (e ▸ p : v' 6 = _)
  | 7, v, v', w, e, _, p => (e ▸ p : v' 7 = _)
  | 8, v, v', w, e, d, p => by
    have d2 := d 2 (by simp [TPD])
    have d5 := d 5 (by simp [TPD])
    obtain ⟨g1, c1, B, cB, g3, c3, s1, s2, vals, gs, p1, p2, p3, r⟩ := p
    exact ⟨g1, c1, B, cB, g3, c3, s1, s2, vals, gs, d2 ▸ p1, d5 ▸ p2, e ▸ p3, r⟩
  | 9, v, v', w, e, _, p => by
    obtain ⟨g1, c1, B, cB, g3, c3, s1, s2, vals, gs, p1, r⟩ := p
    exact ⟨g1, c1, B, cB, g3, c3, s1, s2, vals, gs, e ▸ p1, r⟩
  | (_ + 10), _, _, _, _, _, _ => trivial
theorem TPW_mono {H h : Nat} {ra ba oa : Option Addr} {rn rc bn bc on oc : Nat} {m : Mkt} : ∀ j (v : Nat → Value) (w w' : World), Below w.heap.size w w' → TPW H h ra ba oa rn rc bn bc on oc m j v w → TPW H h ra ba oa rn rc bn bc on oc m j v w'
  | 0, _, _, _, _, p => p
  | 1, _, _, _, _, p => p
  | 2, _, _, _, hb, p => by obtain ⟨g1, c1, p1, p2, p3, p4⟩ := p; exact ⟨g1, c1, p1, p2, Tab.below p3 hb (Tab.lt p3), p4⟩
  | 3, _, _, _, _, p => p
  | 4, _, _, _, _, p => p
  | 5, _, _, _, hb, p => by
    obtain ⟨g1, c1, B, cB, s1, vals, gs, ⟨p1, q1, q2, q3⟩, p2, r1, r2, r3, r4, r5⟩ := p
    exact ⟨g1, c1, B, cB, s1, vals, gs, ⟨p1, q1, Tab.below q2 hb (Tab.lt q2), q3⟩, p2, r1, r2.below hb r2.lt, r3, r4, r5.below hb (Nat.le_refl _)⟩
  | 6, _, _, _, _, p => p
  | 7, _, _, _, _, p => p
  | 8, _, _, _, hb, p => by
    obtain ⟨g1, c1, B, cB, g3, c3, s1, s2, vals, gs, p1, p2, p3, r1, r2, r3, r4⟩ := p
    exact ⟨g1, c1, B, cB, g3, c3, s1, s2, vals, gs, p1, p2, p3, r1, r2, r3, r4.below hb (Nat.le_refl _)⟩
  | 9, _, _, _, hb, p => by
    obtain ⟨g1, c1, B, cB, g3, c3, s1, s2, vals, gs, p1, r1, r2, r3, r4⟩ := p
    exact ⟨g1, c1, B, cB, g3, c3, s1, s2, vals, gs, p1, r1, r2, r3, r4.below hb (Nat.le_refl _)⟩
  | (_ + 10), _, _, _, _, _ => trivial

set_option maxRecDepth 100000 in
set_option maxHeartbeats 4000000 in
theorem twinMarket_any (ra ba oa : Option Addr) (rn rc bn bc on oc : Nat) (m : Mkt) (w : World) (hm : MktAt w ra ba oa rn rc bn bc on oc m) (h1 : rn ≤ 100000) (h2 : bn ≤ 100000) (h3 : on ≤ 100000) (hx : ∀ xs, xs ∈ m.bids → xs.length ≤ 100000) :
    Calls Tryz.prog 29 #[.agg #[.slice ra rn rc, .slice ba bn bc, .slice oa on oc]] w (TwinSays w rn bn on m) := by
  obtain ⟨hv1, hv2, hb0, hz0⟩ := tm0_at w ra ba oa rn rc bn bc on oc
  obtain ⟨W0, hW0⟩ : ∃ W0, W0 = tm0 w ra ba oa rn rc bn bc on oc := ⟨_, rfl⟩
  rw [← hW0] at hv1 hv2 hb0 hz0
  have k0 := hv1.cell (k := 0) rfl
  have k1 := hv1.cell (k := 1) rfl
  have k2 := hv1.cell (k := 2) rfl
  have HM := Lib.hid (hm.below hb0 (Nat.le_refl _))
  have HX := Lib.hid hx
  have HL := Lib.hid (And.intro hm.res.len hm.bids.len)
  have HV := Lib.hid (And.intro hv2 (And.intro hb0 hz0))
  clear hv1 hv2 hb0 hm hx hz0
  go_enter Tryz.func29, Tryz.ntmps29
  go_upto_region 1 with fail
  rw [show (w.alloc (.cells #[.slice ra rn rc, .slice ba bn bc, .slice oa on oc] 28)).alloc (.cells #[.slice none 0 0, .slice none 0 0, .slice none 0 0] 28) = W0 from hW0.symm]
  clear hW0
  go_cut [12] (fun s12 wx => ∃ g1 c1 B cB g3 c3 s1 s2 vals gs, VRow wx (w.heap.size + 1) 28 [.slice (some ⟨g1, 0, none⟩) rn c1, .slice (some ⟨B, 0, none⟩) bn cB, .slice (some ⟨g3, 0, none⟩) on c3] ∧ rn ≤ c1 ∧ bn ≤ cB ∧ on ≤ c3 ∧ TwinMkt wx W0.heap.size s1 s2 g1 B g3 vals gs m ∧ Below w.heap.size w wx)
  case first =>
    refine wp_region_dep' (by kernel_rfl) [3, 4, 5, 6, 7, 8, 9, 10, 11, 12] TPD (TPW W0.heap.size w.heap.size ra ba oa rn rc bn bc on oc m) (fun w' => Below W0.heap.size W0 w') (by simp) (by kernel_rfl) (by simp) (by decide) (by simp [fold]) (by kernel_rfl) TPW_congr TPW_mono (Below.refl _ _).drew ?hstep ?hlast
    case hlast =>
      intro o v wx K ho hB hd hK
      simp only [List.length_cons, List.length_nil, Nat.reduceAdd, Nat.reduceSub, List.getElem?_cons_zero, List.getElem?_cons_succ, Option.some.injEq] at ho
      subst ho
      simp only [fold, Nat.zero_add, Nat.reduceAdd, List.setIfInBounds_toArray, List.set_cons_zero, List.set_cons_succ]
      obtain ⟨g1, c1, B, cB, g3, c3, s1, s2, vals, gs, d9, r1, r2, r3, r4⟩ : TPW W0.heap.size w.heap.size ra ba oa rn rc bn bc on oc m 9 v wx := hd 9 (by simp)
      rw [d9]
      have hv := HV.out.1.below hB HV.out.1.lt
      have c0 := hv.cell (k := 0) rfl
      have c1' := hv.cell (k := 1) rfl
      have c2 := hv.cell (k := 2) rfl
      have f0 := hv.frozen 0
      have f1 := hv.frozen 1
      have f2 := hv.frozen 2
      have HVV := Lib.hid hv; clear hv
      have HR4 := Lib.hid r4; clear r4
      have HBB := Lib.hid hB; clear hB
      clear hd
      go_wp2_with fail
      go_meet
      have hz := HV.out.2.2
      have hl1 := HR4.out.b1
      have hl2 := HR4.out.l1
      have hl3 := HR4.out.bB
      have hl4 := HR4.out.lB
      have hl5 := HR4.out.l3
      have far : ∀ (W : World) (k : Nat) (u : Value), TwinMkt W W0.heap.size s1 s2 g1 B g3 vals gs m → TwinMkt (W.setCell ⟨w.heap.size + 1, k, none⟩ u) W0.heap.size s1 s2 g1 B g3 vals gs m := fun W k u h =>
        ⟨Tab.other h.res (by simp; omega) _, h.tab.other (by simp; omega) _, h.vlen, h.rows.other (fun hm => by have := (h.rows.at' _ hm).1; simp at this; omega) _, Tab.other h.ord (by simp; omega) _, h.b1, h.l1, h.bB, h.lB, h.lg, h.l3⟩
      refine ⟨g1, c1, B, cB, g3, c3, s1, s2, vals, gs, ((HVV.out.set 0 _).set 1 _).set 2 _, r1, r2, r3, far _ _ _ (far _ _ _ (far _ _ _ HR4.out)), ?_⟩
      exact (((HV.out.2.1.trans (HBB.out.mono HV.out.2.1.size)).setCell (by simp) _).setCell (by simp) _).setCell (by simp) _
    case hstep =>
      intro i o v wx K hi ho hB hd hK
      simp only [List.length_cons, List.length_nil] at hi
      simp only [fold, Nat.zero_add, Nat.reduceAdd, List.setIfInBounds_toArray, List.set_cons_zero, List.set_cons_succ]
      rcases (by omega : i = 0 ∨ i = 1 ∨ i = 2 ∨ i = 3 ∨ i = 4 ∨ i = 5 ∨ i = 6 ∨ i = 7 ∨ i = 8 ∨ i = 9) with rfl | rfl | rfl | rfl | rfl | rfl | rfl | rfl | rfl | rfl
      all_goals
        simp only [List.getElem?_cons_zero, List.getElem?_cons_succ, Option.some.injEq] at ho
        subst ho
        simp only [fold, Nat.zero_add, Nat.reduceAdd, Act.put, List.setIfInBounds_toArray, List.set_cons_zero, List.set_cons_succ] at hK
      · clear hd
        go_wp2_with fail
        exact hK _ _ hB (Below.refl _ _) rfl
      · have d0 : v 0 = .pointer (some ⟨w.heap.size, 0, none⟩) := hd ⟨0, .data⟩ (by simp) rfl
        have hcc := cell_up hB k0
        rw [d0] at hK ⊢
        clear hd
        go_wp2_with fail
        exact hK _ _ hB (Below.refl _ _) rfl
      · have d1 : v 1 = .slice ra rn rc := hd ⟨1, .data⟩ (by simp) rfl
        rw [d1] at hK ⊢
        clear hd
        go_wp2_with fail
        refine (twinInts_any ra rn rc m.res _ (HM.out.res.below hB (Nat.le_refl _)) h1).mono ?_
        rintro e w' ⟨g1, c1, rfl, hc1, ht1, hg1, hb1⟩
        go_wp2_with fail
        exact hK _ _ (below_on hb1 hB) hb1 ⟨g1, c1, rfl, hc1, ht1, Nat.le_trans hB.size hg1⟩
      · clear hd
        go_wp2_with fail
        exact hK _ _ hB (Below.refl _ _) rfl
      · have d3 : v 3 = .pointer (some ⟨w.heap.size, 1, none⟩) := hd ⟨3, .data⟩ (by simp) rfl
        have hcc := cell_up hB k1
        rw [d3] at hK ⊢
        clear hd
        go_wp2_with fail
        exact hK _ _ hB (Below.refl _ _) rfl
      · have d4 : v 4 = .slice ba bn bc := hd ⟨4, .data⟩ (by simp) rfl
        obtain ⟨g1, c1, d2, hc1, ht1, hg1⟩ : TPW W0.heap.size w.heap.size ra ba oa rn rc bn bc on oc m 2 v wx := hd ⟨2, .chain⟩ (by simp) rfl
        have D2 := Lib.hid d2; clear d2
        rw [d4] at hK ⊢
        clear hd
        go_wp2_with fail
        refine (twinLists_any ba bn bc m.bids _ (HM.out.bids.below hB (Nat.le_refl _)) h2 HX.out).mono ?_
        rintro e w' ⟨B, cB, vals, gs, rfl, hcB, htB, hvl, hBB, hTw, hb2⟩
        go_wp2_with fail
        exact hK _ _ (below_on hb2 hB) hb2 ⟨g1, c1, B, cB, wx.heap.size, vals, gs, ⟨D2.out, hc1, Tab.below ht1 hb2 (Tab.lt ht1), hg1, Tab.lt ht1⟩, rfl, hcB, htB, hvl.trans HL.out.2.symm, hBB, hTw⟩
      · clear hd
        go_wp2_with fail
        exact hK _ _ hB (Below.refl _ _) rfl
      · have d6 : v 6 = .pointer (some ⟨w.heap.size, 2, none⟩) := hd ⟨6, .data⟩ (by simp) rfl
        have hcc := cell_up hB k2
        rw [d6] at hK ⊢
        clear hd
        go_wp2_with fail
        exact hK _ _ hB (Below.refl _ _) rfl
      · have d7 : v 7 = .slice oa on oc := hd ⟨7, .data⟩ (by simp) rfl
        obtain ⟨g1, c1, B, cB, s1, vals, gs, ⟨d2, hc1, ht1, hg1, hl1⟩, d5, hcB, htB, hvl, hBB, hTw⟩ : TPW W0.heap.size w.heap.size ra ba oa rn rc bn bc on oc m 5 v wx := hd ⟨5, .chain⟩ (by simp) rfl
        have D2 := Lib.hid d2; clear d2
        have D5 := Lib.hid d5; clear d5
        rw [d7] at hK ⊢
        clear hd
        go_wp2_with fail
        refine (twinInts_any oa on oc m.ord _ (HM.out.ord.below hB (Nat.le_refl _)) h3).mono ?_
        rintro e w' ⟨g3, c3, rfl, hc3, ht3, hg3, hb3⟩
        go_wp2_with fail
        exact hK _ _ (below_on hb3 hB) hb3 ⟨g1, c1, B, cB, g3, c3, s1, wx.heap.size, vals, gs, D2.out, D5.out, rfl, hc1, hcB, hc3, ⟨Tab.below ht1 hb3 (Tab.lt ht1), htB.below hb3 htB.lt, hvl, hTw.below hb3 (Nat.le_refl _), ht3, hg1, hl1, hBB, htB.lt, fun g hg => (hTw.at' g hg).2.2, hg3⟩⟩
      · obtain ⟨g1, c1, B, cB, g3, c3, s1, s2, vals, gs, d2, d5, d8, r⟩ : TPW W0.heap.size w.heap.size ra ba oa rn rc bn bc on oc m 8 v wx := hd ⟨8, .data⟩ (by simp) rfl
        rw [d2, d5, d8] at hK ⊢
        clear hd
        go_wp2_with fail
        exact hK _ _ hB (Below.refl _ _) ⟨g1, c1, B, cB, g3, c3, s1, s2, vals, gs, rfl, r⟩
  case rest =>
    obtain ⟨g1, c1, B, cB, g3, c3, s1, s2, vals, gs, hv, r1, r2, r3, r4, hb⟩ := hcut
    have HR := Lib.hid (And.intro hv (And.intro r4 hb)); clear hv r4 hb k0 k1 k2
    go_wp2_with fail
    exact bodyPost_ret (tm_results rfl _ HR.out.1) rfl ⟨g1, c1, B, cB, g3, c3, s1, s2, vals, gs, rfl, r1, r2, r3, { HR.out.2.1 with b1 := by have := HR.out.2.1.b1; have := HV.out.2.2; omega }, HR.out.2.2⟩
end Go.Proofs.YtbnjeegicbffeaaGreat

/- Walks: salesroomlaw01.TwinOutcome. -/
namespace Go.Proofs.YtbnjeegicbffeaaGreat
open Go.RowKit Sale

/-- an outcome's twin: two regions of new memory, one behind the other -/
structure TwinOut (w : World) (base g1 g2 : Nat) (o : Outc) : Prop where
  has : TabI w g1 o.has
  prices : TabI w g2 o.prices
  b1 : base ≤ g1
  l : g1 < g2
theorem TwinOut.below {w w' : World} {base g1 g2 B' : Nat} {o : Outc} (h : TwinOut w base g1 g2 o) (hb : Below B' w w') (hB : w.heap.size ≤ B') : TwinOut w' base g1 g2 o :=
  ⟨Tab.below h.has hb (by have := Tab.lt h.has; omega), Tab.below h.prices hb (by have := Tab.lt h.prices; omega), h.b1, h.l⟩
theorem TwinOut.step {w w' : World} {base g1 g2 : Nat} {o : Outc} (h : TwinOut w base g1 g2 o) (hb : Below w.heap.size w w') : TwinOut w' base g1 g2 o := h.below hb (Nat.le_refl _)
theorem TwinOut.poke {w : World} {base g1 g2 : Nat} {o : Outc} (h : TwinOut w base g1 g2 o) (k : Nat) (v : Int) : TwinOut (w.setCell ⟨g2, k, none⟩ (.int .i64 v)) base g1 g2 ⟨o.has, o.prices.set k v⟩ :=
  ⟨Tab.other h.has (by have := h.l; simp; omega) _, TabI.set h.prices k v, h.b1, h.l⟩
theorem TwinOut.out {w : World} {base g1 g2 hn c1 pn c2 : Nat} {o : Outc} (h : TwinOut w base g1 g2 o) (h1 : o.has.length = hn) (h2 : o.prices.length = pn) (hc1 : hn ≤ c1) (hc2 : pn ≤ c2) (hl1 : hn ≤ 100000) (hl2 : pn ≤ 100000)
    (hb1 : ∀ x, x ∈ o.has → -9223372036854775808 ≤ x ∧ x ≤ 9223372036854775807) (hb2 : ∀ x, x ∈ o.prices → -9223372036854775808 ≤ x ∧ x ≤ 9223372036854775807) : OutAt w (some ⟨g1, 0, none⟩) (some ⟨g2, 0, none⟩) hn c1 pn c2 o := by
  have a := TabI.ints h.has (c := c1) (by omega) (by omega) hb1
  have b := TabI.ints h.prices (c := c2) (by omega) (by omega) hb2
  rw [h1] at a
  rw [h2] at b
  exact ⟨a, b⟩
def TwinOSays (w : World) (hn pn : Nat) (o : Outc) (e : Ending) (w' : World) : Prop :=
  ∃ (g1 c1 g2 c2 : Nat), e = .returned (.agg #[.slice (some ⟨g1, 0, none⟩) hn c1, .slice (some ⟨g2, 0, none⟩) pn c2]) ∧ hn ≤ c1 ∧ pn ≤ c2 ∧ TwinOut w' w.heap.size g1 g2 o ∧ Below w.heap.size w w'

theorem to_results {h : Nat} {v0 v1 : Value} {tmps : Array Value} (t2 : tmps[2]?.getD undef = .pointer (some ⟨h, 0, none⟩)) (W : World) (hO : VRow W h 30 [v0, v1]) :
    (results Tryz.f28 tmps).run Tryz.prog W = .ok (.agg #[v0, v1]) W := by
  have c0 := hO.cell (k := 0) rfl
  have c1 := hO.cell (k := 1) rfl
  simp [results, Tryz.results28, go_sem, t2, c0, c1]

def to0 (w : World) (ha pa : Option Addr) (hn hc pn pc : Nat) : World := (w.alloc (.cells #[.slice ha hn hc, .slice pa pn pc] 30)).alloc (.cells #[.slice none 0 0, .slice none 0 0] 30)
theorem to0_at (w : World) (ha pa : Option Addr) (hn hc pn pc : Nat) : VRow (to0 w ha pa hn hc pn pc) w.heap.size 30 [.slice ha hn hc, .slice pa pn pc] ∧
    VRow (to0 w ha pa hn hc pn pc) (w.heap.size + 1) 30 [.slice none 0 0, .slice none 0 0] ∧ Below w.heap.size w (to0 w ha pa hn hc pn pc) ∧ (to0 w ha pa hn hc pn pc).heap.size = w.heap.size + 2 := by
  have h1 := VRow.new w 30 [.slice ha hn hc, .slice pa pn pc]
  have h2 := VRow.new (w.alloc (.cells #[.slice ha hn hc, .slice pa pn pc] 30)) 30 [.slice none 0 0, .slice none 0 0]
  rw [show (w.alloc (.cells #[.slice ha hn hc, .slice pa pn pc] 30)).heap.size = w.heap.size + 1 by simp] at h2
  exact ⟨h1.alloc _, h2, ((Below.refl _ _).alloc (Nat.le_refl _) _).alloc (by simp) _, by simp [to0]⟩
end Go.Proofs.YtbnjeegicbffeaaGreat

/- Walks: salesroomlaw01.TwinOutcome. -/
namespace Go.Proofs.YtbnjeegicbffeaaGreat
open Go.RowKit Sale

/-- what each operation of the literal yields -/
def TOW (H h : Nat) (ha pa : Option Addr) (hn hc pn pc : Nat) (o : Outc) (i : Nat) (v : Nat → Value) (w : World) : Prop := match i with
  | 0 => v 0 = .pointer (some ⟨h, 0, none⟩)
  | 1 => v 1 = .slice ha hn hc
  | 2 => ∃ g1 c1, v 2 = .slice (some ⟨g1, 0, none⟩) hn c1 ∧ hn ≤ c1 ∧ TabI w g1 o.has ∧ H ≤ g1
  | 3 => v 3 = .pointer (some ⟨h, 1, none⟩)
  | 4 => v 4 = .slice pa pn pc
  | 5 => ∃ g1 c1 g2 c2, v 2 = .slice (some ⟨g1, 0, none⟩) hn c1 ∧ v 5 = .slice (some ⟨g2, 0, none⟩) pn c2 ∧ hn ≤ c1 ∧ pn ≤ c2 ∧ TwinOut w H g1 g2 o
  | 6 => ∃ g1 c1 g2 c2, v 6 = .agg #[.slice (some ⟨g1, 0, none⟩) hn c1, .slice (some ⟨g2, 0, none⟩) pn c2] ∧ hn ≤ c1 ∧ pn ≤ c2 ∧ TwinOut w H g1 g2 o
  | _ => True
def TOD (i : Nat) : List Nat := match i with
  | 5 => [2]
  | _ => []
theorem TOW_congr {H h : Nat} {ha pa : Option Addr} {hn hc pn pc : Nat} {o : Outc} : ∀ j (v v' : Nat → Value) (w : World), v j = v' j → (∀ k, k ∈ TOD j → v k = v' k) → TOW H h ha pa hn hc pn pc o j v w → TOW H h ha pa hn hc pn pc o j v' w
  | 0, v, v', w, e, _, p => (e ▸ p : v' 0 = _)
  | 1, v, v', w, e, _, p => (e ▸ p : v' 1 = _)
  | 2, v, v', w, e, _, p => by obtain ⟨g1, c1, p1, p2⟩ := p; exact ⟨g1, c1, e ▸ p1, p2⟩
  | 3, v, v', w, e, _, p => (e ▸ p : v' 3 = _)
  | 4, v, v', w, e, _, p => (e ▸ p : v' 4 = _)
  | 5, v, v', w, e, d, p => by
    have d2 := d 2 (by simp [TOD])
    obtain ⟨g1, c1, g2, c2, p1, p2, r⟩ := p
    exact ⟨g1, c1, g2, c2, d2 ▸ p1, e ▸ p2, r⟩
  | 6, v, v', w, e, _, p => by
    obtain ⟨g1, c1, g2, c2, p1, r⟩ := p
    exact ⟨g1, c1, g2, c2, e ▸ p1, r⟩
  | (_ + 7), _, _, _, _, _, _ => trivial
theorem TOW_mono {H h : Nat} {ha pa : Option Addr} {hn hc pn pc : Nat} {o : Outc} : ∀ j (v : Nat → Value) (w w' : World), Below w.heap.size w w' → TOW H h ha pa hn hc pn pc o j v w → TOW H h ha pa hn hc pn pc o j v w'
  | 0, _, _, _, _, p => p
  | 1, _, _, _, _, p => p
  | 2, _, _, _, hb, p => by obtain ⟨g1, c1, p1, p2, p3, p4⟩ := p; exact ⟨g1, c1, p1, p2, Tab.below p3 hb (Tab.lt p3), p4⟩
  | 3, _, _, _, _, p => p
  | 4, _, _, _, _, p => p
  | 5, _, _, _, hb, p => by
    obtain ⟨g1, c1, g2, c2, p1, p2, r1, r2, r3⟩ := p
    exact ⟨g1, c1, g2, c2, p1, p2, r1, r2, r3.below hb (Nat.le_refl _)⟩
  | 6, _, _, _, hb, p => by
    obtain ⟨g1, c1, g2, c2, p1, r1, r2, r3⟩ := p
    exact ⟨g1, c1, g2, c2, p1, r1, r2, r3.below hb (Nat.le_refl _)⟩
  | (_ + 7), _, _, _, _, _ => trivial

set_option maxRecDepth 100000 in
set_option maxHeartbeats 4000000 in
theorem twinOutcome_any (ha pa : Option Addr) (hn hc pn pc : Nat) (o : Outc) (w : World) (ho : OutAt w ha pa hn hc pn pc o) (h1 : hn ≤ 100000) (h2 : pn ≤ 100000) :
    Calls Tryz.prog 28 #[.agg #[.slice ha hn hc, .slice pa pn pc]] w (TwinOSays w hn pn o) := by
  obtain ⟨hv1, hv2, hb0, hz0⟩ := to0_at w ha pa hn hc pn pc
  obtain ⟨W0, hW0⟩ : ∃ W0, W0 = to0 w ha pa hn hc pn pc := ⟨_, rfl⟩
  rw [← hW0] at hv1 hv2 hb0 hz0
  have k0 := hv1.cell (k := 0) rfl
  have k1 := hv1.cell (k := 1) rfl
  have HM := Lib.hid (ho.below hb0 (Nat.le_refl _))
  have HV := Lib.hid (And.intro hv2 (And.intro hb0 hz0))
  clear hv1 hv2 hb0 ho hz0
  go_enter Tryz.func28, Tryz.ntmps28
  go_upto_region 1 with fail
  rw [show (w.alloc (.cells #[.slice ha hn hc, .slice pa pn pc] 30)).alloc (.cells #[.slice none 0 0, .slice none 0 0] 30) = W0 from hW0.symm]
  clear hW0
  go_cut [9] (fun s9 wx => ∃ g1 c1 g2 c2, VRow wx (w.heap.size + 1) 30 [.slice (some ⟨g1, 0, none⟩) hn c1, .slice (some ⟨g2, 0, none⟩) pn c2] ∧ hn ≤ c1 ∧ pn ≤ c2 ∧ TwinOut wx W0.heap.size g1 g2 o ∧ Below w.heap.size w wx)
  case first =>
    refine wp_region_dep' (by kernel_rfl) [3, 4, 5, 6, 7, 8, 9] TOD (TOW W0.heap.size w.heap.size ha pa hn hc pn pc o) (fun w' => Below W0.heap.size W0 w') (by simp) (by kernel_rfl) (by simp) (by decide) (by simp [fold]) (by kernel_rfl) TOW_congr TOW_mono (Below.refl _ _).drew ?hstep ?hlast
    case hlast =>
      intro o' v wx K ho hB hd hK
      simp only [List.length_cons, List.length_nil, Nat.reduceAdd, Nat.reduceSub, List.getElem?_cons_zero, List.getElem?_cons_succ, Option.some.injEq] at ho
      subst ho
      simp only [fold, Nat.zero_add, Nat.reduceAdd, List.setIfInBounds_toArray, List.set_cons_zero, List.set_cons_succ]
      obtain ⟨g1, c1, g2, c2, d6, r1, r2, r4⟩ : TOW W0.heap.size w.heap.size ha pa hn hc pn pc o 6 v wx := hd 6 (by simp)
      rw [d6]
      have hv := HV.out.1.below hB HV.out.1.lt
      have c0 := hv.cell (k := 0) rfl
      have c1' := hv.cell (k := 1) rfl
      have f0 := hv.frozen 0
      have f1 := hv.frozen 1
      have HVV := Lib.hid hv; clear hv
      have HR4 := Lib.hid r4; clear r4
      have HBB := Lib.hid hB; clear hB
      clear hd
      go_wp2_with fail
      go_meet
      have hz := HV.out.2.2
      have hl1 := HR4.out.b1
      have hl2 := HR4.out.l
      have far : ∀ (W : World) (k : Nat) (u : Value), TwinOut W W0.heap.size g1 g2 o → TwinOut (W.setCell ⟨w.heap.size + 1, k, none⟩ u) W0.heap.size g1 g2 o := fun W k u h =>
        ⟨Tab.other h.has (by simp; omega) _, Tab.other h.prices (by simp; omega) _, h.b1, h.l⟩
      refine ⟨g1, c1, g2, c2, (HVV.out.set 0 _).set 1 _, r1, r2, far _ _ _ (far _ _ _ HR4.out), ?_⟩
      exact ((HV.out.2.1.trans (HBB.out.mono HV.out.2.1.size)).setCell (by simp) _).setCell (by simp) _
    case hstep =>
      intro i o' v wx K hi ho hB hd hK
      simp only [List.length_cons, List.length_nil] at hi
      simp only [fold, Nat.zero_add, Nat.reduceAdd, List.setIfInBounds_toArray, List.set_cons_zero, List.set_cons_succ]
      rcases (by omega : i = 0 ∨ i = 1 ∨ i = 2 ∨ i = 3 ∨ i = 4 ∨ i = 5 ∨ i = 6) with rfl | rfl | rfl | rfl | rfl | rfl | rfl
      all_goals
        simp only [List.getElem?_cons_zero, List.getElem?_cons_succ, Option.some.injEq] at ho
        subst ho
        simp only [fold, Nat.zero_add, Nat.reduceAdd, Act.put, List.setIfInBounds_toArray, List.set_cons_zero, List.set_cons_succ] at hK
      · clear hd
        go_wp2_with fail
        exact hK _ _ hB (Below.refl _ _) rfl
      · have d0 : v 0 = .pointer (some ⟨w.heap.size, 0, none⟩) := hd ⟨0, .data⟩ (by simp) rfl
        have hcc := cell_up hB k0
        rw [d0] at hK ⊢
        clear hd
        go_wp2_with fail
        exact hK _ _ hB (Below.refl _ _) rfl
      · have d1 : v 1 = .slice ha hn hc := hd ⟨1, .data⟩ (by simp) rfl
        rw [d1] at hK ⊢
        clear hd
        go_wp2_with fail
        refine (twinInts_any ha hn hc o.has _ (HM.out.has.below hB (Nat.le_refl _)) h1).mono ?_
        rintro e w' ⟨g1, c1, rfl, hc1, ht1, hg1, hb1⟩
        go_wp2_with fail
        exact hK _ _ (below_on hb1 hB) hb1 ⟨g1, c1, rfl, hc1, ht1, Nat.le_trans hB.size hg1⟩
      · clear hd
        go_wp2_with fail
        exact hK _ _ hB (Below.refl _ _) rfl
      · have d3 : v 3 = .pointer (some ⟨w.heap.size, 1, none⟩) := hd ⟨3, .data⟩ (by simp) rfl
        have hcc := cell_up hB k1
        rw [d3] at hK ⊢
        clear hd
        go_wp2_with fail
        exact hK _ _ hB (Below.refl _ _) rfl
      · have d4 : v 4 = .slice pa pn pc := hd ⟨4, .data⟩ (by simp) rfl
        obtain ⟨g1, c1, d2, hc1, ht1, hg1⟩ : TOW W0.heap.size w.heap.size ha pa hn hc pn pc o 2 v wx := hd ⟨2, .chain⟩ (by simp) rfl
        have D2 := Lib.hid d2; clear d2
        rw [d4] at hK ⊢
        clear hd
        go_wp2_with fail
        refine (twinInts_any pa pn pc o.prices _ (HM.out.prices.below hB (Nat.le_refl _)) h2).mono ?_
        rintro e w' ⟨g2, c2, rfl, hc2, ht2, hg2, hb2⟩
        go_wp2_with fail
        have hl1 := Tab.lt ht1
        exact hK _ _ (below_on hb2 hB) hb2 ⟨g1, c1, g2, c2, D2.out, rfl, hc1, hc2, ⟨Tab.below ht1 hb2 hl1, ht2, hg1, by omega⟩⟩
      · obtain ⟨g1, c1, g2, c2, d2, d5, r⟩ : TOW W0.heap.size w.heap.size ha pa hn hc pn pc o 5 v wx := hd ⟨5, .data⟩ (by simp) rfl
        rw [d2, d5] at hK ⊢
        clear hd
        go_wp2_with fail
        exact hK _ _ hB (Below.refl _ _) ⟨g1, c1, g2, c2, rfl, r⟩
  case rest =>
    obtain ⟨g1, c1, g2, c2, hv, r1, r2, r4, hb⟩ := hcut
    have HR := Lib.hid (And.intro hv (And.intro r4 hb)); clear hv r4 hb k0 k1
    go_wp2_with fail
    exact bodyPost_ret (to_results rfl _ HR.out.1) rfl ⟨g1, c1, g2, c2, rfl, r1, r2, { HR.out.2.1 with b1 := by have := HR.out.2.1.b1; have := HV.out.2.2; omega }, HR.out.2.2⟩
end Go.Proofs.YtbnjeegicbffeaaGreat
