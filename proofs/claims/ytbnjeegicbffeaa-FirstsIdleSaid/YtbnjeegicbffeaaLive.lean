/- A region that draws its order, operation by operation, where an operation may spoil what nothing needs behind it (an 'append' that writes in place). -/
import Derived.Test.YtbnjeegicbffeaaEach
namespace Go.Proofs.Ytbnjeegicbffeaa
open Go.RowKit

/-- one operation waits for another -/
def depB (l : List Oper) (a b : Nat) : Bool := ((l[a]?).map fun o => o.after.toList.any fun e => (Region.binds .any e) && (e.on == b)).getD false
theorem depB_of {l : List Oper} {a b : Nat} (h : depB l a b = true) : ∃ o, l[a]? = some o ∧ ∃ e, e ∈ o.after.toList ∧ Region.binds .any e = true ∧ e.on = b := by
  unfold depB at h
  cases ho : l[a]? with
  | none => rw [ho] at h; cases h
  | some o =>
    rw [ho] at h
    obtain ⟨e, he, hb⟩ := List.any_eq_true.1 h
    simp only [Bool.and_eq_true, beq_iff_eq] at hb
    exact ⟨o, rfl, e, he, hb.1, hb.2⟩
/-- one operation waits for another, through others too -/
def depT (l : List Oper) : Nat → Nat → Nat → Bool
  | 0, _, _ => false
  | f + 1, a, b => (List.range l.length).any fun c => depB l a c && ((c == b) || depT l f c b)
theorem depT_of {l : List Oper} {p : Nat → Prop} (h : ∀ a b, p a → depB l a b = true → p b) : ∀ (f a b : Nat), depT l f a b = true → p a → p b
  | 0, _, _, hd, _ => by cases hd
  | f + 1, a, b, hd, ha => by
    unfold depT at hd
    obtain ⟨c, _, hc⟩ := List.any_eq_true.1 hd
    simp only [Bool.and_eq_true, Bool.or_eq_true, beq_iff_eq] at hc
    obtain ⟨h1, h2⟩ := hc
    have hpc := h a c ha h1
    rcases h2 with rfl | h2
    · exact hpc
    · exact depT_of h f c b h2 hpc
/-- nothing needs what j yielded: it is kept to the end -/
def freeB (l : List Oper) (j : Nat) : Bool := (List.range l.length).all fun i' => ((l[i']?).map fun o => o.after.toList.all fun e => !(decide (e.ground = .data)) || (e.on != j)).getD true
/-- what 'dead' names (behind i nobody needs what j yielded): it is i itself, or not done yet, or all that need it are done -/
def deadB (l : List Oper) (dead : Nat → Nat → Bool) : Bool := (List.range l.length).all fun i => (List.range l.length).all fun j => !(dead i j) || ((i == j) || (depT l 6 j i || (!(freeB l j) && (List.range l.length).all fun i' => ((i' == i) || depB l i i') || ((l[i']?).map fun o => o.after.toList.all fun e => !(decide (e.ground = .data)) || (e.on != j)).getD true)))
theorem binds_data {e : Edge} (h : e.ground = .data) : Region.binds .any e = true := by unfold Region.binds; rw [h]
theorem dead_spec {l : List Oper} {dead : Nat → Nat → Bool} (h : deadB l dead = true) {i j : Nat} (hi : i < l.length) (hj : j < l.length) (hd : dead i j = true) : i = j ∨ depT l 6 j i = true ∨ (freeB l j = false ∧ ∀ (i' : Nat) (o' : Oper), l[i']? = some o' → ∀ e, e ∈ o'.after.toList → e.ground = .data → e.on = j → i' = i ∨ depB l i i' = true) := by
  have h1 := List.all_eq_true.1 h i (List.mem_range.2 hi)
  have h2 := List.all_eq_true.1 h1 j (List.mem_range.2 hj)
  rw [hd] at h2
  simp only [Bool.not_true, Bool.false_or, Bool.or_eq_true, Bool.and_eq_true, Bool.not_eq_true', beq_iff_eq] at h2
  rcases h2 with h2 | h2 | h2
  · exact .inl h2
  · exact .inr (.inl h2)
  · refine .inr (.inr ⟨h2.1, fun i' o' ho e he hb hon => ?_⟩)
    have h3 := List.all_eq_true.1 h2.2 i' (List.mem_range.2 (List.getElem?_eq_some_iff.1 ho).1)
    rw [ho] at h3
    simp only [Option.map_some, Option.getD_some, Bool.or_eq_true, beq_iff_eq] at h3
    rcases h3 with (h3 | h3) | h3
    · exact .inl h3
    · exact .inr h3
    · have h4 := List.all_eq_true.1 h3 e he
      rw [decide_eq_true hb, hon] at h4
      simp at h4

theorem fold_own : ∀ (ds : List Nat) (j : Nat) (T : Array Value) (v : Nat → Value), (∀ i d, ds[i]? = some d → v (j + i) = T.getD d undef) → fold v j ds T = T
  | [], _, _, _, _ => rfl
  | d :: ds, j, T, v, h => by
    unfold fold
    have e : T.setIfInBounds d (v j) = T := by
      have h0 := h 0 d rfl
      rw [Nat.add_zero] at h0
      apply Array.ext_getElem?
      intro k
      rw [Array.getElem?_setIfInBounds]
      by_cases e : d = k
      · subst e
        rw [if_pos rfl]
        by_cases hd : d < T.size
        · rw [if_pos hd, h0, Array.getD_eq_getD_getElem?, Array.getElem?_eq_getElem hd, Option.getD_some]
        · rw [if_neg hd, Array.getElem?_eq_none (by omega)]
      · rw [if_neg e]
    rw [e]
    exact fold_own ds (j + 1) T v fun i d' hd => by
      have := h (i + 1) d' (by simpa using hd)
      rwa [show j + (i + 1) = j + 1 + i by omega] at this
theorem wp_region_live {P : Program} {id : Nat} {l : List Oper} {Q : Exit → Act → World → Prop} {w : World} (hm : P.follows .mixedOrders = true) (hpos : 0 < l.length) (hback : backB l = true)
    (ds : List Nat) (hds : l.dropLast.map (·.dst) = ds.map some) (hnd : ds.Nodup) (T : Array Value) (df : List Deferred) (v0 : Nat → Value)
    (PI : Nat → Value → World → Prop) (R : Nat → World → World → Prop) (dead : Nat → Nat → Bool) (hdead : deadB l dead = true) (hmono : ∀ i j y (w w' : World), i < l.length → j < l.length → dead i j = false → R i w w' → PI j y w → PI j y w') (pre : World → Prop) (pd : Nat) (hpre : pre w.drew) (hprem : ∀ (i : Nat) (w w' : World), i ≠ pd → R i w w' → pre w → pre w') (S : World → Prop) (hS : S w.drew)
    (hstep : ∀ (i : Nat) (o : Oper) (v : Nat → Value) (w : World) (K : Act → World → Prop), i + 1 < l.length → l[i]? = some o → S w → (i = pd ∨ depT l 6 pd i = true → pre w) → (∀ e, e ∈ o.after.toList → e.ground = .data → PI e.on (v e.on) w) →
      (∀ x w', S w' → R i w w' → PI i x w' → K (({ tmps := fold v 0 ds T, defers := df } : Act).put o.dst x) w') → wpList P l.toArray (Exit.then K Q) [o] { tmps := fold v 0 ds T, defers := df } w)
    (hlast : ∀ (o : Oper) (v : Nat → Value) (w : World) (K : Act → World → Prop), l[l.length - 1]? = some o → S w → (∀ e, e ∈ o.after.toList → e.ground = .data → PI e.on (v e.on) w) → (∀ j, j + 1 < l.length → freeB l j = true → PI j (v j) w) → (∀ a' w', Q .normal a' w' → K a' w') → wpList P l.toArray (Exit.then K Q) [o] { tmps := fold v 0 ds T, defers := df } w) :
    (Code.region id l.toArray true).wp P Q { tmps := fold v0 0 ds T, defers := df } w := by
  have hdl : ds.length = l.length - 1 := by
    have := congrArg List.length hds
    simp at this; omega
  have hget : ∀ (listed : Array Bool) (i j : Nat), listed.size = l.length → i < l.length → (listed.setIfInBounds i true).getD j false = if j = i then true else listed.getD j false := fun listed i j hs hi => by
    rw [Array.getD_eq_getD_getElem?, Array.getD_eq_getD_getElem?, Array.getElem?_setIfInBounds]
    by_cases e : i = j
    · subst e; rw [if_pos rfl, if_pos rfl, if_pos (by omega)]; rfl
    · rw [if_neg e, if_neg (Ne.symm e)]
  refine wp_region_inv hm hback (fun listed a w => listed.size = l.length ∧ (∀ (j : Nat) (o : Oper), l[j]? = some o → listed.getD j false = true → ∀ e, e ∈ o.after.toList → Region.binds .any e = true → listed.getD e.on false = true) ∧
    ((listed.getD (l.length - 1) false = true ∧ Q .normal a w) ∨ (listed.getD (l.length - 1) false = false ∧ ∃ v, a = { tmps := fold v 0 ds T, defers := df } ∧ S w ∧ (listed.getD pd false = false → pre w) ∧ ∀ i, i + 1 < l.length → listed.getD i false = true → (freeB l i = true ∨ ∃ i' o', l[i']? = some o' ∧ listed.getD i' false = false ∧ ∃ e, e ∈ o'.after.toList ∧ e.ground = .data ∧ e.on = i) → PI i (v i) w))) ?_ ?_ ?_
  · have hf : ∀ j, (Array.replicate l.length false).getD j false = false := fun j => by
      rw [Array.getD_eq_getD_getElem?, Array.getElem?_replicate]
      split <;> rfl
    refine ⟨by simp, (fun j o _ h => by rw [hf] at h; cases h), .inr ⟨hf _, v0, rfl, hS, (fun _ => hpre), (fun i _ h _ => by rw [hf] at h; cases h)⟩⟩
  · rintro i o listed a w ho hs hun hdeps ⟨_, hcl, hinv⟩
    have hil := (List.getElem?_eq_some_iff.1 ho).1
    have hun' : listed.getD i false = false := by
      rw [Array.getD_eq_getD_getElem?] at hun ⊢
      rw [Array.getElem?_eq_getElem (by omega)] at hun ⊢
      exact hun
    have hcl' : ∀ (j : Nat) (o' : Oper), l[j]? = some o' → (listed.setIfInBounds i true).getD j false = true → ∀ e, e ∈ o'.after.toList → Region.binds .any e = true → (listed.setIfInBounds i true).getD e.on false = true := by
      intro j o' hj h e he hb
      rw [hget _ _ _ hs hil] at h ⊢
      split
      · rfl
      · split at h
        · subst j
          rw [ho] at hj; cases hj
          exact hdeps e he hb
        · exact hcl j o' hj h e he hb
    rcases hinv with ⟨h1, _⟩ | ⟨h1, v, rfl, hSw, hPre, hPI⟩
    · -- the last one is done: all are
      exfalso
      have hall : ∀ n k, l.length - 1 - k ≤ n → k < l.length → listed.getD k false = true := by
        intro n
        induction n with
        | zero => intro k hk hkl; obtain rfl : k = l.length - 1 := by omega
                  exact h1
        | succ n ih =>
          intro k hk hkl
          rcases (back_spec hback (List.getElem?_eq_getElem hkl)).2 with e | ⟨j, o', hj, e, he, hb, hon⟩
          · obtain rfl : k = l.length - 1 := by omega
            exact h1
          · have hjk := (back_spec hback hj).1 e he hb
            have hjl := (List.getElem?_eq_some_iff.1 hj).1
            have := ih j (by omega) hjl
            rw [← hon]
            exact hcl j o' hj this e he hb
      rw [hall _ i (Nat.le_refl _) hil] at hun'
      cases hun'
    · by_cases hlst : i + 1 < l.length
      · refine hstep i o v w _ hlst ho hSw (fun hd => ?_) (fun e he hb => ?_) fun x w' hS' hb' hp => ?_
        · refine hPre ?_
          rcases hd with rfl | hd
          · exact hun'
          · cases hp : listed.getD pd false with
            | false => rfl
            | true =>
              have := depT_of (p := fun q => listed.getD q false = true) (fun a b ha hab => by
                obtain ⟨o3, h3, e3, he3, hb3, hon3⟩ := depB_of hab
                have := hcl a o3 h3 ha e3 he3 hb3
                rwa [hon3] at this) 6 pd i hd hp
              rw [hun'] at this; cases this
        · have hon := (back_spec hback ho).1 e he (binds_data hb)
          exact hPI e.on (by omega) (hdeps e he (binds_data hb)) (.inr ⟨i, o, ho, hun', e, he, hb, rfl⟩)
        · refine ⟨by rw [Array.size_setIfInBounds]; exact hs, hcl', .inr ⟨by rw [hget _ _ _ hs hil, if_neg (by omega)]; exact h1, fun k => if k = i then x else v k, ?_, hS', fun hpn => ?_, fun j hj hl hcons => ?_⟩⟩
          · have hd : ∃ d, o.dst = some d ∧ ds[i]? = some d := by
              have h2 : (l.dropLast.map (·.dst))[i]? = some o.dst := by
                rw [List.getElem?_map, List.getElem?_dropLast, if_pos (by omega), ho]; rfl
              rw [hds, List.getElem?_map] at h2
              cases hdi : ds[i]? with
              | none => rw [hdi] at h2; cases h2
              | some d => rw [hdi] at h2; exact ⟨d, by simpa using h2.symm, rfl⟩
            obtain ⟨d, h2, h3⟩ := hd
            rw [h2]
            unfold Act.put
            simp only
            rw [fold_set v ds 0 i d x T hnd h3]
            simp only [Nat.zero_add]
          · rw [hget _ _ _ hs hil] at hpn
            by_cases e : pd = i
            · rw [if_pos e] at hpn; cases hpn
            · rw [if_neg e] at hpn
              exact hprem i _ _ (fun h => e h.symm) hb' (hPre hpn)
          · rw [hget _ _ _ hs hil] at hl
            by_cases e : j = i
            · subst e; simp only [if_true]; exact hp
            · simp only [if_neg e]
              rw [if_neg e] at hl
              have hun3 : ∀ q, depB l i q = true → listed.getD q false = true := fun q hq => by
                obtain ⟨o3, h3, e3, he3, hb3, hon3⟩ := depB_of hq
                rw [ho] at h3; cases h3
                rw [← hon3]
                exact hdeps e3 he3 hb3
              have hold : freeB l j = true ∨ ∃ i' o', l[i']? = some o' ∧ listed.getD i' false = false ∧ i' ≠ i ∧ ∃ e, e ∈ o'.after.toList ∧ e.ground = .data ∧ e.on = j := by
                rcases hcons with hf | ⟨i', o', ho', hun2, hrest⟩
                · exact .inl hf
                · rw [hget _ _ _ hs hil] at hun2
                  by_cases ei : i' = i
                  · rw [if_pos ei] at hun2; cases hun2
                  · rw [if_neg ei] at hun2
                    exact .inr ⟨i', o', ho', hun2, ei, hrest⟩
              refine hmono i j _ _ _ hil (by omega) ?_ hb' (hPI j hj hl (hold.imp (fun h => h) fun ⟨i', o', h1, h2, _, h3⟩ => ⟨i', o', h1, h2, h3⟩))
              cases hdd : dead i j with
              | false => rfl
              | true =>
                exfalso
                rcases dead_spec hdead hil (show j < l.length by omega) hdd with h5 | h5 | ⟨h5, h6⟩
                · exact e h5.symm
                · have := depT_of (p := fun q => listed.getD q false = true) (fun a b ha hab => by
                    obtain ⟨o3, h3, e3, he3, hb3, hon3⟩ := depB_of hab
                    have := hcl a o3 h3 ha e3 he3 hb3
                    rwa [hon3] at this) 6 j i h5 hl
                  rw [hun'] at this; cases this
                · rcases hold with hf | ⟨i', o', ho', hun2, ei, e2, he2, hb2, hon2⟩
                  · rw [h5] at hf; cases hf
                  · rcases h6 i' o' ho' e2 he2 hb2 hon2 with h7 | h7
                    · exact ei h7
                    · rw [hun3 _ h7] at hun2; cases hun2
      · obtain rfl : i = l.length - 1 := by omega
        have hall : ∀ n k, l.length - 1 - k ≤ n → k + 1 < l.length → listed.getD k false = true := by
          intro n
          induction n with
          | zero => intro k hk hkl; omega
          | succ n ih =>
            intro k hk hkl
            rcases (back_spec hback (List.getElem?_eq_getElem (show k < l.length by omega))).2 with e | ⟨j, o', hj, e, he, hb, hon⟩
            · omega
            · have hjk := (back_spec hback hj).1 e he hb
              have hjl := (List.getElem?_eq_some_iff.1 hj).1
              rw [← hon]
              by_cases ej : j = l.length - 1
              · subst ej
                rw [ho] at hj; cases hj
                exact hdeps e he hb
              · exact hcl j o' hj (ih j (by omega) (by omega)) e he hb
        refine hlast o v w _ ho hSw (fun e he hb => ?_) (fun j hj hf => hPI j hj (hall _ j (Nat.le_refl _) hj) (.inl hf)) fun a' w' hq => ?_
        · have hon := (back_spec hback ho).1 e he (binds_data hb)
          exact hPI e.on (by omega) (hdeps e he (binds_data hb)) (.inr ⟨_, o, ho, hun', e, he, hb, rfl⟩)
        · exact ⟨by rw [Array.size_setIfInBounds]; exact hs, hcl', .inl ⟨by rw [hget _ _ _ hs hil, if_pos rfl], hq⟩⟩
  · rintro listed a w hl ⟨hs, _, hinv⟩
    rcases hinv with ⟨_, h⟩ | ⟨h1, _⟩
    · exact h
    · rw [hl _ (by omega)] at h1; cases h1
theorem wp_region_live' {P : Program} {id : Nat} {ops : Array Oper} {Q : Exit → Act → World → Prop} {w : World} {T : Array Value} {df : List Deferred} (hm : P.follows .mixedOrders = true)
    (ds : List Nat) (PI : Nat → Value → World → Prop) (R : Nat → World → World → Prop) (dead : Nat → Nat → Bool) (S : World → Prop) (pre : World → Prop) (pd : Nat) (hpos : 0 < ops.toList.length) (hback : backB ops.toList = true) (hds : ops.toList.dropLast.map (·.dst) = ds.map some) (hnd : ds.Nodup)
    (hdead : deadB ops.toList dead = true) (hmono : ∀ i j y (w w' : World), i < ops.toList.length → j < ops.toList.length → dead i j = false → R i w w' → PI j y w → PI j y w') (hS : S w.drew) (hpre : pre w.drew) (hprem : ∀ (i : Nat) (w w' : World), i ≠ pd → R i w w' → pre w → pre w')
    (hstep : ∀ (i : Nat) (o : Oper) (v : Nat → Value) (w : World) (K : Act → World → Prop), i + 1 < ops.toList.length → ops.toList[i]? = some o → S w → (i = pd ∨ depT ops.toList 6 pd i = true → pre w) → (∀ e, e ∈ o.after.toList → e.ground = .data → PI e.on (v e.on) w) →
      (∀ x w', S w' → R i w w' → PI i x w' → K (({ tmps := fold v 0 ds T, defers := df } : Act).put o.dst x) w') → wpList P ops (Exit.then K Q) [o] { tmps := fold v 0 ds T, defers := df } w)
    (hlast : ∀ (o : Oper) (v : Nat → Value) (w : World) (K : Act → World → Prop), ops.toList[ops.toList.length - 1]? = some o → S w → (∀ e, e ∈ o.after.toList → e.ground = .data → PI e.on (v e.on) w) → (∀ j, j + 1 < ops.toList.length → freeB ops.toList j = true → PI j (v j) w) → (∀ a' w', Q .normal a' w' → K a' w') → wpList P ops (Exit.then K Q) [o] { tmps := fold v 0 ds T, defers := df } w) :
    (Code.region id ops true).wp P Q { tmps := T, defers := df } w := by
  have h := wp_region_live (id := id) (l := ops.toList) (Q := Q) (w := w) hm hpos hback ds hds hnd T df (fun j => T.getD (ds.getD j 0) undef) PI R dead hdead hmono pre pd hpre hprem S hS (by simpa using hstep) (by simpa using hlast)
  rw [fold_own ds 0 T _ (fun i d hd => by simp [List.getD_eq_getElem?_getD, hd])] at h
  simpa using h
end Go.Proofs.Ytbnjeegicbffeaa
