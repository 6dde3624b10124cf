/- Walks: views.Mine, its bid in memory of its own. Walks: the reference's views. Walks: the reference's views: what a bidder sees of an outcome. -/
import Derived.Test.YtkddkkcfpnndlaaGreatDoorVq37
import Derived.Test.YtkddkkcfpnndlaaGreatDoorVq39
import Derived.Test.YtkddkkcfpnndlaaGreatDoorVq18
import Derived.Test.YtkddkkcfpnndlaaGreatDoorVq17
namespace Go.Proofs.YtkddkkcfpnndlaaGreatDoor
open Go.RowKit Sale

theorem Lot.raise {T : TypeId} {w : World} {lo lo' n c : Nat} {a : Option Addr} (h : Lot T w lo a n c) (hl : ∀ b o, a = some ⟨b, o, none⟩ → lo' ≤ b) : Lot T w lo' a n c := by
  rcases h with h | ⟨b, o, cur, e, hb, r⟩
  · exact .inl h
  · exact .inr ⟨b, o, cur, e, hl b o e, r⟩
theorem cloneL_any (a : Option Addr) (n c : Nat) (xs : List Int) (w : World) (h : Ints w a n c xs) (hsz : n < 17592186044000) :
    Calls Tryz.prog 111 #[.slice a n c] w fun e w' => ∃ a c, e = .returned (.slice a n c) ∧ n ≤ c ∧ Ints w' a n c xs ∧ Lot 3 w' w.heap.size a n c ∧ (∀ b o, a = some ⟨b, o, none⟩ → w.heap.size ≤ b ∧ b < w'.heap.size) ∧ Below w.heap.size w w' := by
  refine (clone_any a n c xs w h hsz).mono ?_
  rintro e w' ⟨v, rfl, ho, hb⟩
  obtain ⟨a2, c2, rfl, hi⟩ := ho.ints (by rw [h.len]; exact h.big) h.bd
  rw [h.len] at hi ho ⊢
  refine ⟨a2, c2, rfl, hi.cap, hi, Lot.own ho, fun b o e => ?_, hb⟩
  subst e
  exact World.ownsRow.lt ho b rfl
def GMinF (R : Nat) (seq : Int) (rn : Nat) (bid : List Int) (k : Nat) (r : Rep) (W : World) : Prop :=
  (k = 0 ∧ r = rep0) ∨ (k = 1 ∧ r = { rep0 with seq := seq }) ∨ (k = 2 ∧ ∃ a : Option Addr, r = { rep0 with seq := seq, has := true, ba := a, bn := rn, bc := rn } ∧ Ints W a rn rn bid ∧ Lot 3 W (R + 1) a rn rn ∧ ∀ b o, a = some ⟨b, o, none⟩ → R < b)
theorem GMinF.stay {R : Nat} {seq : Int} {rn : Nat} {bid : List Int} {k : Nat} {r : Rep} {W W' : World} (h : GMinF R seq rn bid k r W) (hs : Stay R W W') : GMinF R seq rn bid k r W' := by
  rcases h with h | h | ⟨hk, a, hr, hi, hlot, hb⟩
  · exact .inl h
  · exact .inr (.inl h)
  · exact .inr (.inr ⟨hk, a, hr, hi.stay hs (fun _ b o e => by have := hb b o e; omega), hlot.fr (S := fun b => b = R) ⟨hs.1, fun b hb' hn => hs.2 b hb' hn⟩ (fun b o e h => by have := hb b o e; omega), hb⟩)

set_option maxRecDepth 100000 in
set_option maxHeartbeats 2000000 in
theorem setSeqF_ok {w : World} {B : Nat} {seq : Int} {st : Bool} {ra : Option Addr} {rn rc : Nat} {bid : List Int} (h : RecAt w B seq st ra rn rc bid) :
    PutsOk w 109 #[.pointer (some ⟨B, 0, none⟩)] (GMinF w.heap.size seq rn bid 0) (GMinF w.heap.size seq rn bid 1) := by
  refine ⟨enters_of Tryz.func109 (by kernel_rfl) rfl, fun W r hb hv hr => ?_⟩
  obtain rfl : r = rep0 := by
    rcases hr with ⟨_, h⟩ | ⟨h, _⟩ | ⟨h, _⟩
    · exact h
    · cases h
    · cases h
  show Calls Tryz.prog 109 #[.pointer (some ⟨w.heap.size, 0, none⟩), .pointer (some ⟨B, 0, none⟩)] W _
  have k0 := (h.row.step hb).cell (k := 0) rfl
  have q4 := hv.cell (k := 1) rfl
  have q5 := hv.frozen 1
  have HV := Lib.hid (And.intro hv hb)
  clear h hv hr
  have hbs := hb.size
  clear hb
  go_enter Tryz.func109, Tryz.ntmps109
  go_wp2_with fail
  refine bodyPost_end (results_none rfl _ _ _) rfl ?_
  refine ⟨rfl, { rep0 with seq := seq }, ?_, .inr (.inl ⟨rfl, rfl⟩), (Below.refl w.heap.size W).setCell (p := ⟨w.heap.size, 1, none⟩) (by simp) _⟩
  exact HV.out.1.set 1 (.int .u32 seq)

set_option maxRecDepth 100000 in
set_option maxHeartbeats 2000000 in
theorem setBidF_ok {w : World} {B : Nat} {seq : Int} {st : Bool} {ra : Option Addr} {rn rc : Nat} {bid : List Int} (h : RecAt w B seq st ra rn rc bid) (hn : rn < 17592186044000) :
    PutsOk w 110 #[.pointer (some ⟨B, 0, none⟩)] (GMinF w.heap.size seq rn bid 1) (GMinF w.heap.size seq rn bid 2) := by
  refine ⟨enters_of Tryz.func110 (by kernel_rfl) rfl, fun W r hb hv hr => ?_⟩
  obtain rfl : r = { rep0 with seq := seq } := by
    rcases hr with ⟨h, _⟩ | ⟨_, h⟩ | ⟨h, _⟩
    · cases h
    · exact h
    · cases h
  show Calls Tryz.prog 110 #[.pointer (some ⟨w.heap.size, 0, none⟩), .pointer (some ⟨B, 0, none⟩)] W _
  have hrW := h.step hb
  have k2 := hrW.row.cell (k := 2) rfl
  have HCL := Lib.hid (cloneL_any ra rn rc bid W hrW.bid hn)
  have HV := Lib.hid (And.intro hv hb)
  have hRl := hv.lt
  clear h hv hr hrW
  have hbs := hb.size
  clear hb
  go_enter Tryz.func110, Tryz.ntmps110
  go_wp2_with fail
  refine HCL.out.mono ?_
  rintro e w1 ⟨a1, c1, rfl, hc1, hi1, hlo1, hf1, hb1⟩
  have HLO := Lib.hid hlo1; clear hlo1
  have hv1 := HV.out.1.step hb1
  have HC1 := Lib.hid (And.intro hi1 (And.intro hf1 (And.intro hb1 hv1)))
  clear hi1 hf1 HCL k2
  go_wp2_with fail
  refine (clip_any a1 rn c1 w1 hc1).mono ?_
  rintro e w2 ⟨rfl, rfl⟩
  have q0 := hv1.cell (k := 5) rfl
  have q1 := hv1.frozen 5
  have q2 := hv1.cell (k := 6) rfl
  have q3 := hv1.frozen 6
  have hv2 := hv1.set 5 (.bool true)
  have q4 := hv2.cell (k := 6) rfl
  have q5 := hv2.frozen 6
  clear hv1 hv2 hb1
  go_wp2_with fail
  refine bodyPost_end (results_none rfl _ _ _) rfl ?_
  have hfar : ∀ b o, a1 = some ⟨b, o, none⟩ → w.heap.size < b := fun b o e => by have := HC1.out.2.1 b o e; omega
  refine ⟨rfl, { rep0 with seq := seq, has := true, ba := a1, bn := rn, bc := rn }, (HC1.out.2.2.2.set 5 (.bool true)).set 6 (.slice a1 rn rn), .inr (.inr ⟨rfl, a1, rfl, ?_, ?_, hfar⟩), ?_⟩
  · exact ((HC1.out.1.toClip.far (fun _ b o e => by have := hfar b o e; simp; omega) _).far (fun _ b o e => by have := hfar b o e; simp; omega) _)
  · have hl := HLO.out.clip.raise (lo' := w.heap.size + 1) (fun b o e => hfar b o e)
    exact (hl.fr (S := fun b => b = w.heap.size) (Fr.set (S := fun b => b = w.heap.size) _ ⟨w.heap.size, 5, none⟩ rfl (.bool true)) (fun b o e h => by have := hfar b o e; omega)).fr (S := fun b => b = w.heap.size) (Fr.set (S := fun b => b = w.heap.size) _ ⟨w.heap.size, 6, none⟩ rfl _) (fun b o e h => by have := hfar b o e; omega)
  · exact (((HC1.out.2.2.1.mono hbs).setCell (by simp) _).setCell (by simp) _)
def MineSayF (w : World) (seq : Int) (st : Bool) (rn : Nat) (bid : List Int) (e : Ending) (w' : World) : Prop :=
  ∃ a : Option Addr, e = .returned (.agg (mineRep seq st a rn).cells.toArray) ∧ (st = true → Ints w' a rn rn bid ∧ Lot 3 w' w.heap.size a rn rn) ∧ Below w.heap.size w w'

set_option maxRecDepth 100000 in
set_option maxHeartbeats 2000000 in
theorem mineF_no (seq : Int) (ra : Option Addr) (rn rc : Nat) (bid : List Int) (w : World) (h : Ints w ra rn rc bid) :
    Calls Tryz.prog 35 #[.agg #[.int .u32 seq, .bool false, .slice ra rn rc]] w (MineSayF w seq false rn bid) := by
  obtain ⟨hA, hz⟩ := mn0_at w seq false ra rn rc bid h
  obtain ⟨W3, hW3⟩ : ∃ W3, W3 = mn0 w seq false ra rn rc := ⟨_, rfl⟩
  rw [← hW3] at hA hz
  have hR := reply_any [(109, #[.pointer (some ⟨w.heap.size, 0, none⟩)])] (w.heap.size + 1 + 1) 0 1 1 W3 (GMinF W3.heap.size seq rn bid) rfl (by omega)
    (fun k s hk => by
      cases k with
      | zero => obtain rfl : _ = s := by simpa using hk
                exact hA.lst.cell (k := 0) rfl
      | succ k => simp at hk)
    (fun k s hk => by
      cases k with
      | zero => obtain rfl : _ = s := by simpa using hk
                exact setSeqF_ok hA.rec'
      | succ k => simp at hk)
    (fun _ => .inl ⟨rfl, rfl⟩) (fun _ _ _ _ _ hs h => h.stay hs)
  have k1 := hA.rec'.row.cell (k := 1) rfl
  have HR := Lib.hid hR
  have HA := Lib.hid hA; clear hR hA h hz
  go_enter Tryz.func35, Tryz.ntmps35
  go_wp2_with fail
  rw [show ((w.alloc (.cells #[.int .u32 seq, .bool false, .slice ra rn rc] 68)).alloc (.cells #[.int .i64 0, .int .u32 0, .int .u64 0, .int .u8 0, .int .u64 0, .bool false, .slice none 0 0, .int .i64 0, .int .i64 0, .slice none 0 0] 79)).alloc (.cells #[.func (.func 109) #[] #[.pointer (some ⟨w.heap.size, 0, none⟩)]] 134) = W3 from hW3.symm]
  clear hW3
  refine HR.out.mono ?_
  rintro e w6 ⟨r, rfl, hr, hb6⟩
  obtain rfl : r = { rep0 with seq := seq } := by
    rcases hr with ⟨h, _⟩ | ⟨_, h⟩ | ⟨h, _⟩
    · cases h
    · exact h
    · cases h
  have hA6 := HA.out.step hb6
  clear k1 HR
  have c0 := hA6.out.cell (k := 0) rfl
  have f0 := hA6.out.frozen 0
  have c1 := hA6.out.cell (k := 1) rfl
  have f1 := hA6.out.frozen 1
  have c2 := hA6.out.cell (k := 2) rfl
  have f2 := hA6.out.frozen 2
  have c3 := hA6.out.cell (k := 3) rfl
  have f3 := hA6.out.frozen 3
  have c4 := hA6.out.cell (k := 4) rfl
  have f4 := hA6.out.frozen 4
  have c5 := hA6.out.cell (k := 5) rfl
  have f5 := hA6.out.frozen 5
  have c6 := hA6.out.cell (k := 6) rfl
  have f6 := hA6.out.frozen 6
  have c7 := hA6.out.cell (k := 7) rfl
  have f7 := hA6.out.frozen 7
  have c8 := hA6.out.cell (k := 8) rfl
  have f8 := hA6.out.frozen 8
  have c9 := hA6.out.cell (k := 9) rfl
  have f9 := hA6.out.frozen 9
  have H6 := Lib.hid (And.intro hA6.out hA6.below); clear hA6 hb6 hr
  rw [show ({ rep0 with seq := seq } : Rep).cells.toArray = #[.int .i64 0, .int .u32 seq, .int .u64 0, .int .u8 0, .int .u64 0, .bool false, .slice none 0 0, .int .i64 (-1), .int .i64 0, .slice none 0 0] from rfl]
  go_wp2_with fail
  have hv := ((((((((((H6.out.1.set 0 (.int .i64 0)).set 1 (.int .u32 seq)).set 2 (.int .u64 0)).set 3 (.int .u8 0)).set 4 (.int .u64 0)).set 5 (.bool false)).set 6 (.slice none 0 0)).set 7 (.int .i64 (-1))).set 8 (.int .i64 0)).set 9 (.slice none 0 0))
  refine bodyPost_ret (mine_results { rep0 with seq := seq } rfl _ hv) rfl ⟨none, rfl, (fun h => by cases h), ?_⟩
  exact ((((((((((H6.out.2.setCell (by simp) _).setCell (by simp) _).setCell (by simp) _).setCell (by simp) _).setCell (by simp) _).setCell (by simp) _).setCell (by simp) _).setCell (by simp) _).setCell (by simp) _).setCell (by simp) _)

set_option maxRecDepth 100000 in
set_option maxHeartbeats 2000000 in
theorem mineF_yes (seq : Int) (ra : Option Addr) (rn rc : Nat) (bid : List Int) (w : World) (h : Ints w ra rn rc bid) (hn : rn < 17592186044000) :
    Calls Tryz.prog 35 #[.agg #[.int .u32 seq, .bool true, .slice ra rn rc]] w (MineSayF w seq true rn bid) := by
  have HI := Lib.hid h
  obtain ⟨hA, hz⟩ := mn0_at w seq true ra rn rc bid h
  obtain ⟨W3, hW3⟩ : ∃ W3, W3 = mn0 w seq true ra rn rc := ⟨_, rfl⟩
  rw [← hW3] at hA hz
  have hal : Below W3.heap.size W3 (W3.alloc (.cells #[.func (.func 110) #[] #[.pointer (some ⟨w.heap.size, 0, none⟩)]] 134)) := (Below.refl _ _).alloc (Nat.le_refl _) _
  have hA4 := hA.step hal
  have hown : (W3.alloc (.cells #[.func (.func 110) #[] #[.pointer (some ⟨w.heap.size, 0, none⟩)]] 134)).ownsRow (w.heap.size + 1 + 1) 134 1 (.slice (some ⟨w.heap.size + 1 + 1, 0, none⟩) 1 1) 1 [.func (.func 109) #[] #[.pointer (some ⟨w.heap.size, 0, none⟩)]] :=
    ⟨rfl, .inr ⟨w.heap.size + 1 + 1, 1, #[.func (.func 109) #[] #[.pointer (some ⟨w.heap.size, 0, none⟩)]], rfl, Nat.le_refl _, hA4.lst, Nat.le_refl _, by unfold maxLen; omega, rfl, rfl⟩⟩
  have hcf : (W3.alloc (.cells #[.func (.func 110) #[] #[.pointer (some ⟨w.heap.size, 0, none⟩)]] 134)).cell? ⟨w.heap.size + 1 + 1 + 1, 0, none⟩ = some (.func (.func 110) #[] #[.pointer (some ⟨w.heap.size, 0, none⟩)]) := by
    have h := VRow.new W3 134 [.func (.func 110) #[] #[.pointer (some ⟨w.heap.size, 0, none⟩)]]
    rw [hz] at h
    exact h.cell (k := 0) rfl
  have k1 := hA.rec'.row.cell (k := 1) rfl
  have HA := Lib.hid hA4
  have HO := Lib.hid hown
  have HC := Lib.hid hcf
  have HZ := Lib.hid (And.intro hz hal.size)
  clear hA h hz hA4 hown hcf hal
  go_enter Tryz.func35, Tryz.ntmps35
  go_wp2_with (at_builtin; refine appSet _ rfl _ _ rfl (w.heap.size + 1 + 1) _ 1 [.func (.func 109) #[] #[.pointer (some ⟨w.heap.size, 0, none⟩)]] rfl ?own (w.heap.size + 1 + 1 + 1) 0 1 (.func 110) #[] #[.pointer (some ⟨w.heap.size, 0, none⟩)] rfl ?cell (by omega) ?base ?rest)
  case own => subst hW3; exact HO.out
  case cell => subst hW3; exact HC.out
  case base => subst hW3; simp
  case rest =>
    intro g cap w5 hown5 hb5
    have hb5' : Below (w.heap.size + 1 + 1) (W3.alloc (.cells #[.func (.func 110) #[] #[.pointer (some ⟨w.heap.size, 0, none⟩)]] 134)) w5 := by subst hW3; exact hb5
    clear hb5 hW3 k1
    have hz3 := HZ.out.1
    have hbw := HA.out.below.trans (hb5'.mono (by omega))
    have hrec : RecAt w5 w.heap.size seq true ra rn rc bid := ⟨VRow.below HA.out.rec'.row hb5' (by omega), HI.out.below hbw (Nat.le_refl _)⟩
    have hout : VRow w5 (w.heap.size + 1) 79 rep00.cells := VRow.below HA.out.out hb5' (by omega)
    have hR := reply_any [(109, #[.pointer (some ⟨w.heap.size, 0, none⟩)]), (110, #[.pointer (some ⟨w.heap.size, 0, none⟩)])] g 0 2 cap w5 (GMinF w5.heap.size seq rn bid) rfl (by omega)
      (fun k s hk => by
        match k, hk with
        | 0, hk => obtain rfl : _ = s := by simpa using hk
                   exact ownsSet_cell hown5 (k := 0) rfl
        | 1, hk => obtain rfl : _ = s := by simpa using hk
                   exact ownsSet_cell hown5 (k := 1) rfl
        | k + 2, hk => simp at hk)
      (fun k s hk => by
        match k, hk with
        | 0, hk => obtain rfl : _ = s := by simpa using hk
                   exact setSeqF_ok hrec
        | 1, hk => obtain rfl : _ = s := by simpa using hk
                   exact setBidF_ok hrec hn
        | k + 2, hk => simp at hk)
      (fun _ => .inl ⟨rfl, rfl⟩) (fun _ _ _ _ _ hs h => h.stay hs)
    have HR := Lib.hid hR
    have H5 := Lib.hid (And.intro hout hbw); clear hR hrec hout hbw hown5 hb5' hz3
    go_wp2_with fail
    refine HR.out.mono ?_
    rintro e w6 ⟨r, rfl, hr, hb6⟩
    obtain ⟨a, rfl, hi, hlt, hfa⟩ : ∃ a : Option Addr, r = { rep0 with seq := seq, has := true, ba := a, bn := rn, bc := rn } ∧ Ints w6 a rn rn bid ∧ Lot 3 w6 (w5.heap.size + 1) a rn rn ∧ ∀ b o, a = some ⟨b, o, none⟩ → w5.heap.size < b := by
      rcases hr with ⟨h, _⟩ | ⟨h, _⟩ | ⟨_, h⟩
      · cases h
      · cases h
      · exact h
    clear hr HR
    have hlt5 := H5.out.1.lt
    have hA6 := H5.out.1.step hb6
    have c0 := hA6.cell (k := 0) rfl
    have f0 := hA6.frozen 0
    have c1 := hA6.cell (k := 1) rfl
    have f1 := hA6.frozen 1
    have c2 := hA6.cell (k := 2) rfl
    have f2 := hA6.frozen 2
    have c3 := hA6.cell (k := 3) rfl
    have f3 := hA6.frozen 3
    have c4 := hA6.cell (k := 4) rfl
    have f4 := hA6.frozen 4
    have c5 := hA6.cell (k := 5) rfl
    have f5 := hA6.frozen 5
    have c6 := hA6.cell (k := 6) rfl
    have f6 := hA6.frozen 6
    have c7 := hA6.cell (k := 7) rfl
    have f7 := hA6.frozen 7
    have c8 := hA6.cell (k := 8) rfl
    have f8 := hA6.frozen 8
    have c9 := hA6.cell (k := 9) rfl
    have f9 := hA6.frozen 9
    have hbw := H5.out.2.trans (hb6.mono H5.out.2.size)
    have hfa' : ∀ b o, a = some ⟨b, o, none⟩ → b ≠ w.heap.size + 1 := fun b o e => by have := hfa b o e; omega
    have hfb : ∀ b o, a = some ⟨b, o, none⟩ → w.heap.size ≤ b := fun b o e => by have := hfa b o e; omega
    have H6 := Lib.hid (And.intro hA6 (And.intro hbw (And.intro hi (And.intro hfa' hfb)))); have HLT := Lib.hid (And.intro hlt H5.out.2.size); clear hA6 hb6 hbw hi hfa hfa' hfb hlt5 hlt
    rw [show ({ rep0 with seq := seq, has := true, ba := a, bn := rn, bc := rn } : Rep).cells.toArray = #[.int .i64 0, .int .u32 seq, .int .u64 0, .int .u8 0, .int .u64 0, .bool true, .slice a rn rn, .int .i64 (-1), .int .i64 0, .slice none 0 0] from rfl]
    go_wp2_with fail
    have hv := ((((((((((H6.out.1.set 0 (.int .i64 0)).set 1 (.int .u32 seq)).set 2 (.int .u64 0)).set 3 (.int .u8 0)).set 4 (.int .u64 0)).set 5 (.bool true)).set 6 (.slice a rn rn)).set 7 (.int .i64 (-1))).set 8 (.int .i64 0)).set 9 (.slice none 0 0))
    have far : ∀ (W : World) (k : Nat) (u : Value), Ints W a rn rn bid → Ints (W.setCell ⟨w.heap.size + 1, k, none⟩ u) a rn rn bid := fun W k u h => h.far (fun _ b o e => H6.out.2.2.2.1 b o e) u
    refine bodyPost_ret (mine_results { rep0 with seq := seq, has := true, ba := a, bn := rn, bc := rn } rfl _ hv) rfl ⟨a, rfl, (fun _ => ⟨?_, ?_⟩), ?_⟩
    · exact far _ _ _ (far _ _ _ (far _ _ _ (far _ _ _ (far _ _ _ (far _ _ _ (far _ _ _ (far _ _ _ (far _ _ _ (far _ _ _ H6.out.2.2.1)))))))))
    · have farL : ∀ (W : World) (k : Nat) (u : Value), Lot 3 W (w5.heap.size + 1) a rn rn → Lot 3 (W.setCell ⟨w.heap.size + 1, k, none⟩ u) (w5.heap.size + 1) a rn rn := fun W k u h => h.fr (S := fun b => b = w.heap.size + 1) (Fr.set (S := fun b => b = w.heap.size + 1) _ ⟨w.heap.size + 1, k, none⟩ rfl u) (fun b o e => H6.out.2.2.2.1 b o e)
      exact (farL _ _ _ (farL _ _ _ (farL _ _ _ (farL _ _ _ (farL _ _ _ (farL _ _ _ (farL _ _ _ (farL _ _ _ (farL _ _ _ (farL _ _ _ HLT.out.1)))))))))).lower (by have := HLT.out.2; omega)
    · exact ((((((((((H6.out.2.1.setCell (by simp) _).setCell (by simp) _).setCell (by simp) _).setCell (by simp) _).setCell (by simp) _).setCell (by simp) _).setCell (by simp) _).setCell (by simp) _).setCell (by simp) _).setCell (by simp) _)
end Go.Proofs.YtkddkkcfpnndlaaGreatDoor

namespace Go.Proofs.YtkddkkcfpnndlaaGreatDoor
open Go.RowKit Sale

set_option maxRecDepth 100000 in
set_option maxHeartbeats 1000000 in
theorem status24_any (p now : Int) (w : World) : Calls Tryz.prog 44 #[.int .u8 p, .int .u64 now] w fun e w' => e = .returned (.agg (statRep p now).cells.toArray) ∧ Below w.heap.size w w' := by
  go_enter Tryz.func44, Tryz.ntmps44
  go_wp2_with fail
  refine bodyPost_ret (v := .agg (statRep p now).cells.toArray) (by simp [results, Tryz.results44, go_sem, Rep.cells, statRep, rep0]) rfl ⟨rfl, (Below.refl _ _).alloc (Nat.le_refl _) _⟩
set_option maxRecDepth 100000 in
set_option maxHeartbeats 1000000 in
theorem mine24_no (seq : Int) (ra : Option Addr) (rn rc : Nat) (w : World) : Calls Tryz.prog 42 #[.agg #[.int .u32 seq, .bool false, .slice ra rn rc]] w fun e w' => e = .returned (.agg (mineRep seq false none rn).cells.toArray) ∧ Below w.heap.size w w' := by
  go_enter Tryz.func42, Tryz.ntmps42
  go_wp2_with fail
  refine bodyPost_ret (v := .agg (mineRep seq false none rn).cells.toArray) (by simp [results, Tryz.results42, go_sem, Rep.cells, mineRep, rep0]) rfl ⟨rfl, (((Below.refl _ _).alloc (Nat.le_refl _) _).alloc (by simp) _).alloc (by simp; omega) _⟩

theorem mine24_results {h : Nat} {tmps : Array Value} (r : Rep) (t2 : tmps[2]?.getD undef = .pointer (some ⟨h, 0, none⟩)) (W : World) (hO : VRow W h 79 r.cells) :
    (results Tryz.f42 tmps).run Tryz.prog W = .ok (.agg r.cells.toArray) W := by
  have c0 := hO.cell (k := 0) rfl
  have c1 := hO.cell (k := 1) rfl
  have c2 := hO.cell (k := 2) rfl
  have c3 := hO.cell (k := 3) rfl
  have c4 := hO.cell (k := 4) rfl
  have c5 := hO.cell (k := 5) rfl
  have c6 := hO.cell (k := 6) rfl
  have c7 := hO.cell (k := 7) rfl
  have c8 := hO.cell (k := 8) rfl
  have c9 := hO.cell (k := 9) rfl
  simp [results, Tryz.results42, go_sem, t2, c0, c1, c2, c3, c4, c5, c6, c7, c8, c9, Rep.cells]

/-- the reply with a bid -/
def mineR (seq : Int) (a : Option Addr) (rn c : Nat) : Rep := { rep0 with seq := seq, has := true, ba := a, bn := rn, bc := c }
set_option maxRecDepth 100000 in
set_option maxHeartbeats 2000000 in
theorem mine24_yes (seq : Int) (ra : Option Addr) (rn rc : Nat) (bid : List Int) (w : World) (h : Ints w ra rn rc bid) (hn : rn < 17592186044000) :
    Calls Tryz.prog 42 #[.agg #[.int .u32 seq, .bool true, .slice ra rn rc]] w fun e w' => ∃ a c, e = .returned (.agg (mineR seq a rn c).cells.toArray) ∧ Ints w' a rn c bid ∧ Below w.heap.size w w' := by
  have HI := Lib.hid h; clear h
  obtain ⟨w1, hw1⟩ : ∃ w1, w1 = ((w.alloc (.cells #[.int .u32 seq, .bool true, .slice ra rn rc] 68)).alloc (.cells #[.int .i64 0, .int .u32 0, .int .u64 0, .int .u8 0, .int .u64 0, .bool false, .slice none 0 0, .int .i64 0, .int .i64 0, .slice none 0 0] 79)).alloc (.cells #[.int .i64 0, .int .u32 seq, .int .u64 0, .int .u8 0, .int .u64 0, .bool true, .slice none 0 0, .int .i64 (-1), .int .i64 0, .slice none 0 0] 79) := ⟨_, rfl⟩
  have hb1 : Below w.heap.size w w1 := by rw [hw1]; exact (((Below.refl _ _).alloc (Nat.le_refl _) _).alloc (by simp) _).alloc (by simp; omega) _
  have hz1 : w1.heap.size = w.heap.size + 1 + 1 + 1 := by rw [hw1]; simp
  have v2 : VRow w1 (w.heap.size + 1) 79 rep00.cells := by
    rw [hw1]
    have h := (VRow.new (w.alloc (.cells #[.int .u32 seq, .bool true, .slice ra rn rc] 68)) 79 rep00.cells)
    rw [show (w.alloc (.cells #[.int .u32 seq, .bool true, .slice ra rn rc] 68)).heap.size = w.heap.size + 1 by simp] at h
    exact h.alloc _
  have v3 : VRow w1 (w.heap.size + 1 + 1) 79 (mineR seq none 0 0).cells := by
    rw [hw1]
    have h := VRow.new ((w.alloc (.cells #[.int .u32 seq, .bool true, .slice ra rn rc] 68)).alloc (.cells #[.int .i64 0, .int .u32 0, .int .u64 0, .int .u8 0, .int .u64 0, .bool false, .slice none 0 0, .int .i64 0, .int .i64 0, .slice none 0 0] 79)) 79 (mineR seq none 0 0).cells
    rw [show ((w.alloc (.cells #[.int .u32 seq, .bool true, .slice ra rn rc] 68)).alloc (.cells #[.int .i64 0, .int .u32 0, .int .u64 0, .int .u8 0, .int .u64 0, .bool false, .slice none 0 0, .int .i64 0, .int .i64 0, .slice none 0 0] 79)).heap.size = w.heap.size + 1 + 1 by simp] at h
    exact h
  have HB1 := Lib.hid hb1; clear hb1
  have HV2 := Lib.hid v2; clear v2
  have HV3 := Lib.hid v3; clear v3
  have HW1 := Lib.hid hw1.symm; clear hw1
  have HZ1 := Lib.hid hz1; clear hz1
  go_enter Tryz.func42, Tryz.ntmps42
  go_wp2_with (at_builtin; rw [HW1.out]; refine appAny _ rfl _ _ rfl w1.heap.size _ [] rfl (Own.nil _ _) ra rn rc bid rfl (HI.out.below HB1.out (Nat.le_refl _)) (by simp; omega) (Nat.le_refl _) ?_)
  intro v5 w5 hown5 _ hb5 _
  obtain ⟨a5, c5, rfl, hi5⟩ := Own.ints (xs := bid) hown5 (by rw [HI.out.len]; omega) HI.out.bd
  have hlot := Lot.own (xs := bid) hown5
  rw [HI.out.len] at hi5 hlot ⊢
  have hz1 := HZ1.out
  have v2 := HV2.out.step hb5
  have v3 := HV3.out.step hb5
  have k6 := v3.cell (k := 6) rfl
  have g6 := v3.frozen 6
  have v3' : VRow (w5.setCell ⟨w.heap.size + 1 + 1, 6, none⟩ (.slice a5 rn c5)) (w.heap.size + 1 + 1) 79 (mineR seq a5 rn c5).cells := v3.set 6 _
  have v2' : VRow (w5.setCell ⟨w.heap.size + 1 + 1, 6, none⟩ (.slice a5 rn c5)) (w.heap.size + 1) 79 rep00.cells := by
    unfold VRow
    rw [heap_setCell_other _ _ _ _ (by simp)]
    exact v2
  have hfa : ∀ b o, a5 = some ⟨b, o, none⟩ → w.heap.size + 1 + 1 < b ∨ rn = 0 := fun b o e => by
    rcases hlot with h | ⟨b', o', cur, e', hb', _⟩
    · exact .inr h.1
    · rw [e] at e'; cases e'; left; omega
  have HFA := Lib.hid hfa; clear hfa hlot
  have d0 := v3'.cell (k := 0) rfl
  have d1 := v3'.cell (k := 1) rfl
  have d2 := v3'.cell (k := 2) rfl
  have d3 := v3'.cell (k := 3) rfl
  have d4 := v3'.cell (k := 4) rfl
  have d5 := v3'.cell (k := 5) rfl
  have d6 := v3'.cell (k := 6) rfl
  have d7 := v3'.cell (k := 7) rfl
  have d8 := v3'.cell (k := 8) rfl
  have d9 := v3'.cell (k := 9) rfl
  have c0 := v2'.cell (k := 0) rfl
  have f0 := v2'.frozen 0
  have c1 := v2'.cell (k := 1) rfl
  have f1 := v2'.frozen 1
  have c2 := v2'.cell (k := 2) rfl
  have f2 := v2'.frozen 2
  have c3 := v2'.cell (k := 3) rfl
  have f3 := v2'.frozen 3
  have c4 := v2'.cell (k := 4) rfl
  have f4 := v2'.frozen 4
  have c5' := v2'.cell (k := 5) rfl
  have f5 := v2'.frozen 5
  have c6 := v2'.cell (k := 6) rfl
  have f6 := v2'.frozen 6
  have c7 := v2'.cell (k := 7) rfl
  have f7 := v2'.frozen 7
  have c8 := v2'.cell (k := 8) rfl
  have f8 := v2'.frozen 8
  have c9 := v2'.cell (k := 9) rfl
  have f9 := v2'.frozen 9
  have H := Lib.hid (And.intro v2' (And.intro hi5 (HB1.out.trans (hb5.mono (by omega))))); clear hz1 v2' v3' v2 v3 hi5 hb5 hown5
  go_wp2_with fail
  have hv := ((((((((((H.out.1.set 0 (.int .i64 0)).set 1 (.int .u32 seq)).set 2 (.int .u64 0)).set 3 (.int .u8 0)).set 4 (.int .u64 0)).set 5 (.bool true)).set 6 (.slice a5 rn c5)).set 7 (.int .i64 (-1))).set 8 (.int .i64 0)).set 9 (.slice none 0 0))
  have far : ∀ (B : Nat) (W : World) (k : Nat) (u : Value), B ≤ w.heap.size + 1 + 1 → Ints W a5 rn c5 bid → Ints (W.setCell ⟨B, k, none⟩ u) a5 rn c5 bid := fun B W k u hB h => h.far (fun hn b o e => by rcases HFA.out b o e with h | h <;> simp <;> omega) u
  have h1 := far _ _ 6 (.slice a5 rn c5) (Nat.le_refl _) H.out.2.1

  refine bodyPost_ret (v := .agg (mineR seq a5 rn c5).cells.toArray) (mine24_results (mineR seq a5 rn c5) rfl _ hv) rfl ⟨a5, c5, rfl, ?_, ?_⟩
  · have h := fun W k u => far (w.heap.size + 1) W k u (by omega)
    exact h _ _ _ (h _ _ _ (h _ _ _ (h _ _ _ (h _ _ _ (h _ _ _ (h _ _ _ (h _ _ _ (h _ _ _ (h _ _ _ h1)))))))))
  · exact (((((((((((H.out.2.2.setCell (by simp; omega) _).setCell (by simp) _).setCell (by simp) _).setCell (by simp) _).setCell (by simp) _).setCell (by simp) _).setCell (by simp) _).setCell (by simp) _).setCell (by simp) _).setCell (by simp) _).setCell (by simp) _)
end Go.Proofs.YtkddkkcfpnndlaaGreatDoor

namespace Go.Proofs.YtkddkkcfpnndlaaGreatDoor
open Go.RowKit Sale

theorem result24_results {h : Nat} {tmps : Array Value} {e : Int} (r : Rep) (t6 : tmps[6]?.getD undef = .pointer (some ⟨h, 0, none⟩)) (t7 : tmps[7]?.getD undef = .int .i64 e) (W : World) (hO : VRow W h 79 r.cells) :
    (results Tryz.f37 tmps).run Tryz.prog W = .ok (.tuple #[.agg r.cells.toArray, .int .i64 e]) W := by
  have c0 := hO.cell (k := 0) rfl
  have c1 := hO.cell (k := 1) rfl
  have c2 := hO.cell (k := 2) rfl
  have c3 := hO.cell (k := 3) rfl
  have c4 := hO.cell (k := 4) rfl
  have c5 := hO.cell (k := 5) rfl
  have c6 := hO.cell (k := 6) rfl
  have c7 := hO.cell (k := 7) rfl
  have c8 := hO.cell (k := 8) rfl
  have c9 := hO.cell (k := 9) rfl
  simp [results, Tryz.results37, go_sem, t6, t7, c0, c1, c2, c3, c4, c5, c6, c7, c8, c9, Rep.cells]

def r24w (w : World) (ra ba oa ha pa : Option Addr) (rn rc bn bc on oc hn hc pn pc : Nat) : World :=
  ((w.alloc (.cells #[.slice ra rn rc, .slice ba bn bc, .slice oa on oc] 57)).alloc (.cells #[.slice ha hn hc, .slice pa pn pc] 70)).alloc (.cells #[.int .i64 0, .int .u32 0, .int .u64 0, .int .u8 0, .int .u64 0, .bool false, .slice none 0 0, .int .i64 0, .int .i64 0, .slice none 0 0] 79)
structure R24 (w : World) (ra ba oa ha pa : Option Addr) (rn rc bn bc on oc hn hc pn pc : Nat) (o : Outc) (W : World) : Prop where
  b1 : VRow W w.heap.size 57 [.slice ra rn rc, .slice ba bn bc, .slice oa on oc]
  b2 : VRow W (w.heap.size + 1) 70 [.slice ha hn hc, .slice pa pn pc]
  b3 : VRow W (w.heap.size + 1 + 1) 79 rep00.cells
  out : OutAt W ha pa hn hc pn pc o
  below : Below w.heap.size w W
theorem R24.step {w : World} {ra ba oa ha pa : Option Addr} {rn rc bn bc on oc hn hc pn pc : Nat} {o : Outc} {W W' : World} (h : R24 w ra ba oa ha pa rn rc bn bc on oc hn hc pn pc o W) (hb : Below W.heap.size W W') : R24 w ra ba oa ha pa rn rc bn bc on oc hn hc pn pc o W' :=
  ⟨h.b1.step hb, h.b2.step hb, h.b3.step hb, h.out.below hb (Nat.le_refl _), h.below.trans (hb.mono h.below.size)⟩
theorem r24_at (w : World) (ra ba oa ha pa : Option Addr) (rn rc bn bc on oc hn hc pn pc : Nat) (o : Outc) (ho : OutAt w ha pa hn hc pn pc o) : R24 w ra ba oa ha pa rn rc bn bc on oc hn hc pn pc o (r24w w ra ba oa ha pa rn rc bn bc on oc hn hc pn pc) := by
  have hb : Below w.heap.size w (r24w w ra ba oa ha pa rn rc bn bc on oc hn hc pn pc) := (((Below.refl _ _).alloc (Nat.le_refl _) _).alloc (by simp) _).alloc (by simp; omega) _
  refine ⟨?_, ?_, ?_, ho.below hb (Nat.le_refl _), hb⟩
  · exact ((VRow.new w _ _).alloc _).alloc _
  · have h := VRow.new (w.alloc (.cells #[.slice ra rn rc, .slice ba bn bc, .slice oa on oc] 57)) 70 [.slice ha hn hc, .slice pa pn pc]
    rw [show (w.alloc (.cells #[.slice ra rn rc, .slice ba bn bc, .slice oa on oc] 57)).heap.size = w.heap.size + 1 by simp] at h
    exact h.alloc _
  · have h := VRow.new ((w.alloc (.cells #[.slice ra rn rc, .slice ba bn bc, .slice oa on oc] 57)).alloc (.cells #[.slice ha hn hc, .slice pa pn pc] 70)) 79 rep00.cells
    rw [show ((w.alloc (.cells #[.slice ra rn rc, .slice ba bn bc, .slice oa on oc] 57)).alloc (.cells #[.slice ha hn hc, .slice pa pn pc] 70)).heap.size = w.heap.size + 1 + 1 by simp] at h
    exact h

/-- what each operation yields -/
def PQ (h : Nat) (hb ho hn hc : Nat) (pa : Option Addr) (pn pc : Nat) (o : Outc) (j : Nat) (x : Int) (i : Nat) (y : Value) (W : World) : Prop := match i with
  | 0 => y = .pointer (some ⟨h + 1, 0, none⟩)
  | 1 => y = .slice (some ⟨hb, ho, none⟩) hn hc
  | 2 => y = .int .i64 j
  | 3 => y = .pointer (some ⟨hb, ho + j, none⟩)
  | 4 => y = .int .i64 x
  | 5 => y = .agg #[.slice (some ⟨hb, ho, none⟩) hn hc, .slice pa pn pc]
  | 6 => y = .int .i64 j
  | 7 => y = .int .i64 (paysV o j)
  | 8 => y = .agg #[.int .i64 0, .int .u32 0, .int .u64 0, .int .u8 0, .int .u64 0, .bool false, .slice none 0 0, .int .i64 x, .int .i64 (paysV o j), .slice none 0 0]
  | 9 => VRow W (h + 1 + 1) 79 [.int .i64 0, .int .u32 0, .int .u64 0, .int .u8 0, .int .u64 0, .bool false, .slice none 0 0, .int .i64 x, .int .i64 (paysV o j), .slice none 0 0]
  | _ => True
def deadQ (i j : Nat) : Bool := i == 9 && j == 9
theorem PQ_mono {h hb ho hn hc : Nat} {pa : Option Addr} {pn pc : Nat} {o : Outc} {k : Nat} {x : Int} (i : Nat) : ∀ (j : Nat) (y : Value) (w w' : World), deadQ i j = false → (i ≠ 9 → Below w.heap.size w w') → PQ h hb ho hn hc pa pn pc o k x j y w → PQ h hb ho hn hc pa pn pc o k x j y w'
  | 0, _, _, _, _, _, h => h
  | 1, _, _, _, _, _, h => h
  | 2, _, _, _, _, _, h => h
  | 3, _, _, _, _, _, h => h
  | 4, _, _, _, _, _, h => h
  | 5, _, _, _, _, _, h => h
  | 6, _, _, _, _, _, h => h
  | 7, _, _, _, _, _, h => h
  | 8, _, _, _, _, _, h => h
  | 9, _, _, _, hd, hb, h => VRow.step h (hb fun e => by subst e; simp [deadQ] at hd)
  | _ + 10, _, _, _, _, _, _ => trivial

set_option maxRecDepth 100000 in
set_option maxHeartbeats 4000000 in
theorem result24_any (ra ba oa ha pa : Option Addr) (rn rc bn bc on oc hn hc pn pc : Nat) (m : Mkt) (o : Outc) (i : Int) (w : World) (hm : MktAt w ra ba oa rn rc bn bc on oc m) (ho : OutAt w ha pa hn hc pn pc o) :
    Calls Tryz.prog 37 #[.agg #[.slice ra rn rc, .slice ba bn bc, .slice oa on oc], .agg #[.slice ha hn hc, .slice pa pn pc], .int .i64 i] w fun e w' =>
      e = .returned (.tuple #[.agg (if seesB m o i then resRep o i else rep00).cells.toArray, .int .i64 (if seesB m o i then 0 else 1)]) ∧ Below w.heap.size w w' := by
  have hA := r24_at w ra ba oa ha pa rn rc bn bc on oc hn hc pn pc o ho
  have hbl := hm.bids.len
  have hhl := ho.has.len
  obtain ⟨W0, hW0⟩ : ∃ W0, W0 = r24w w ra ba oa ha pa rn rc bn bc on oc hn hc pn pc := ⟨_, rfl⟩
  rw [← hW0] at hA
  have k1 := hA.b1.cell (k := 1) rfl
  have k2 := hA.b2.cell (k := 0) rfl
  have HA := Lib.hid hA
  have HW := Lib.hid (show ((w.alloc (.cells #[.slice ra rn rc, .slice ba bn bc, .slice oa on oc] 57)).alloc (.cells #[.slice ha hn hc, .slice pa pn pc] 70)).alloc (.cells #[.int .i64 0, .int .u32 0, .int .u64 0, .int .u8 0, .int .u64 0, .bool false, .slice none 0 0, .int .i64 0, .int .i64 0, .slice none 0 0] 79) = W0 from hW0.symm)
  clear hm ho hA hW0
  by_cases h : seesB m o i = true
  case neg =>
    have h' : seesB m o i = false := by simpa using h
    rw [h', if_neg (by decide), if_neg (by decide)]
    clear h k1 k2
    unfold seesB at h'
    rw [decide_eq_false_iff_not, hbl, hhl] at h'
    by_cases h1 : i < 0
    · have e1 : decide (i < 0) = true := by simpa using h1
      clear hbl hhl h' h1
      go_enter Tryz.func37, Tryz.ntmps37
      go_wp2_with fail
      refine bodyPost_ret (v := .tuple #[.agg rep00.cells.toArray, .int .i64 1]) (by simp [results, Tryz.results37, go_sem, Rep.cells, rep00]) rfl ⟨rfl, (((Below.refl _ _).alloc (Nat.le_refl _) _).alloc (by simp) _).alloc (by simp; omega) _⟩
    have e1 : decide (i < 0) = false := by simpa using h1
    by_cases h2 : (bn : Int) ≤ i
    · have e2 : decide ((bn : Int) ≤ i) = true := by simpa using h2
      clear hbl hhl h' h1 h2
      go_enter Tryz.func37, Tryz.ntmps37
      go_wp2_with fail
      refine bodyPost_ret (v := .tuple #[.agg rep00.cells.toArray, .int .i64 1]) (by simp [results, Tryz.results37, go_sem, Rep.cells, rep00]) rfl ⟨rfl, (((Below.refl _ _).alloc (Nat.le_refl _) _).alloc (by simp) _).alloc (by simp; omega) _⟩
    have e2 : decide ((bn : Int) ≤ i) = false := by simpa using h2
    have e3 : decide ((hn : Int) ≤ i) = true := by simp; omega
    clear hbl hhl h' h1 h2
    go_enter Tryz.func37, Tryz.ntmps37
    go_wp2_with fail
    refine bodyPost_ret (v := .tuple #[.agg rep00.cells.toArray, .int .i64 1]) (by simp [results, Tryz.results37, go_sem, Rep.cells, rep00]) rfl ⟨rfl, (((Below.refl _ _).alloc (Nat.le_refl _) _).alloc (by simp) _).alloc (by simp; omega) _⟩
  rw [h]
  unfold seesB at h
  rw [decide_eq_true_eq, hbl, hhl] at h
  obtain ⟨h0, h1, h2⟩ := h
  obtain ⟨j, rfl⟩ := Int.eq_ofNat_of_zero_le h0
  have d0 : decide ((j : Int) < 0) = false := by simp
  have d1 : decide ((bn : Int) ≤ (j : Int)) = false := by simp; omega
  have d2 : decide ((hn : Int) ≤ (j : Int)) = false := by simp; omega
  have d3 : decide (bn ≤ j) = false := by simp; omega
  have d4 : decide (hn ≤ j) = false := by simp; omega
  obtain ⟨x, hx, _⟩ := HA.out.out.has.get (show j < hn by omega)
  obtain ⟨hb', ho', rfl⟩ := HA.out.out.has.addr (by omega)
  have cxx := HA.out.out.has.cell hb' ho' rfl j x hx
  have k3 := HA.out.b2.cell (k := 1) rfl
  have hg : o.has.getD j (-1) = x := getD_at hx
  have HG := Lib.hid hg; clear hg hx h0 h1
  clear hbl hhl
  have HP := Lib.hid (fun W (hW : Below W0.heap.size W0 W) => pays15_any (some ⟨hb', ho', none⟩) pa hn hc pn pc o (j : Int) W (HA.out.out.below hW (Nat.le_refl _)))
  have i1 : (j : Int) < (hn : Int) := h2
  clear h2 k3
  have HX := Lib.hid (show ∀ W : World, Below W0.heap.size W0 W → W.cell? ⟨hb', ho' + j, none⟩ = some (.int .i64 x) from fun W hW => cell_step hW cxx)
  go_enter Tryz.func37, Tryz.ntmps37
  go_wp2_with fail
  rw [HW.out]
  clear k1 d0 d1 d2 d3 d4
  refine wp_region_live2' (by kernel_rfl) [25, 26, 27, 28, 29, 30, 31, 32, 33, 34] (PQ w.heap.size hb' ho' hn hc pa pn pc o j x) (fun i wa wb => i ≠ 9 → Below wa.heap.size wa wb) deadQ (fun W => Below w.heap.size w W) (fun W => R24 w ra ba oa (some ⟨hb', ho', none⟩) pa rn rc bn bc on oc hn hc pn pc o W ∧ Below W0.heap.size W0 W) 9 (by simp) (by kernel_rfl) (by simp) (by decide) (by kernel_rfl) ?hmono HA.out.below.drew ⟨HA.out.step (Below.refl _ _).drew, (Below.refl _ _).drew⟩ ?hprem ?hstep ?hlast
  case hmono => exact fun i j y wa wb _ _ hd hR h => PQ_mono i j y wa wb hd hR h
  case hprem => exact fun i wa wb hi hR h => ⟨h.1.step (hR hi), h.2.trans ((hR hi).mono h.2.size)⟩
  case hlast =>
    intro op v w5 K ho hS hd hfree hK
    simp only [List.length_cons, List.length_nil, Nat.reduceAdd, Nat.reduceSub, List.getElem?_cons_zero, List.getElem?_cons_succ, Option.some.injEq] at ho
    subst ho
    have h9 : PQ w.heap.size hb' ho' hn hc pa pn pc o j x 9 (v 9) w5 := hfree 9 (by simp) (by kernel_rfl)
    have H9 := Lib.hid h9
    have HS := Lib.hid hS
    clear h9 hS hd hfree
    simp only [fold, Nat.zero_add, Nat.reduceAdd, List.setIfInBounds_toArray, List.set_cons_zero, List.set_cons_succ, List.set_nil]
    go_wp2_with fail
    refine bodyPost_ret (result24_results (resRep o (j : Int)) rfl rfl _ ?_) rfl ⟨rfl, HS.out⟩
    have h9 := H9.out
    rw [← HG.out] at h9
    exact h9
  case hstep =>
    intro i op v w5 K hi ho hS hpre hd hK
    simp only [List.length_cons, List.length_nil] at hi
    simp only [fold, Nat.zero_add, Nat.reduceAdd, List.setIfInBounds_toArray, List.set_cons_zero, List.set_cons_succ, List.set_nil]
    rcases (by omega : i = 0 ∨ i = 1 ∨ i = 2 ∨ i = 3 ∨ i = 4 ∨ i = 5 ∨ i = 6 ∨ i = 7 ∨ i = 8 ∨ i = 9) with rfl | rfl | rfl | rfl | rfl | rfl | rfl | rfl | rfl | rfl
    all_goals
      simp only [List.getElem?_cons_zero, List.getElem?_cons_succ, Option.some.injEq] at ho
      subst ho
      simp only [fold, Nat.zero_add, Nat.reduceAdd, Act.put, List.setIfInBounds_toArray, List.set_cons_zero, List.set_cons_succ, List.set_nil] at hK
    · clear hd hpre
      go_wp2_with fail
      exact hK _ _ hS (fun _ => Below.refl _ _) rfl
    · have d0 : v 0 = .pointer (some ⟨w.heap.size + 1, 0, none⟩) := hd ⟨0, .data⟩ (by simp) rfl
      obtain ⟨hA, -⟩ := hpre (.inr (by kernel_rfl))
      have c := hA.b2.cell (k := 0) rfl
      rw [d0] at hK ⊢
      clear hd hpre hA
      go_wp2_with fail
      exact hK _ _ hS (fun _ => Below.refl _ _) rfl
    · clear hd hpre
      go_wp2_with fail
      exact hK _ _ hS (fun _ => Below.refl _ _) rfl
    · have d1 : v 1 = .slice (some ⟨hb', ho', none⟩) hn hc := hd ⟨1, .data⟩ (by simp) rfl
      have d2 : v 2 = .int .i64 j := hd ⟨2, .data⟩ (by simp) rfl
      rw [d1, d2] at hK ⊢
      clear hd hpre
      go_wp2_with fail
      exact hK _ _ hS (fun _ => Below.refl _ _) rfl
    · have d3 : v 3 = .pointer (some ⟨hb', ho' + j, none⟩) := hd ⟨3, .data⟩ (by simp) rfl
      have c := HX.out w5 (hpre (.inr (by kernel_rfl))).2
      rw [d3] at hK ⊢
      clear hd hpre
      go_wp2_with fail
      exact hK _ _ hS (fun _ => Below.refl _ _) rfl
    · obtain ⟨hA, -⟩ := hpre (.inr (by kernel_rfl))
      have c := hA.b2.cell (k := 0) rfl
      have c' := hA.b2.cell (k := 1) rfl
      clear hd hpre hA
      go_wp2_with fail
      exact hK _ _ hS (fun _ => Below.refl _ _) rfl
    · clear hd hpre
      go_wp2_with fail
      exact hK _ _ hS (fun _ => Below.refl _ _) rfl
    · have d5 : v 5 = .agg #[.slice (some ⟨hb', ho', none⟩) hn hc, .slice pa pn pc] := hd ⟨5, .data⟩ (by simp) rfl
      have d6 : v 6 = .int .i64 j := hd ⟨6, .data⟩ (by simp) rfl
      have hp := HP.out w5 (hpre (.inr (by kernel_rfl))).2
      have HPP := Lib.hid hp; clear hp
      rw [d5, d6] at hK ⊢
      clear hd hpre
      go_wp2_with fail
      refine HPP.out.mono ?_
      rintro e w6 ⟨rfl, hb6⟩
      go_wp2_with fail
      exact hK _ _ (hS.trans (hb6.mono hS.size)) (fun _ => hb6) rfl
    · have d4 : v 4 = .int .i64 x := hd ⟨4, .data⟩ (by simp) rfl
      have d7 : v 7 = .int .i64 (paysV o j) := hd ⟨7, .data⟩ (by simp) rfl
      rw [d4, d7] at hK ⊢
      clear hd hpre
      go_wp2_with fail
      exact hK _ _ hS (fun _ => Below.refl _ _) rfl
    · have d8 : v 8 = .agg #[.int .i64 0, .int .u32 0, .int .u64 0, .int .u8 0, .int .u64 0, .bool false, .slice none 0 0, .int .i64 x, .int .i64 (paysV o j), .slice none 0 0] := hd ⟨8, .data⟩ (by simp) rfl
      obtain ⟨hA, -⟩ := hpre (.inl rfl)
      have h3 := hA.b3
      have c0 := h3.cell (k := 0) rfl
      have c1 := h3.cell (k := 1) rfl
      have c2 := h3.cell (k := 2) rfl
      have c3 := h3.cell (k := 3) rfl
      have c4 := h3.cell (k := 4) rfl
      have c5 := h3.cell (k := 5) rfl
      have c6 := h3.cell (k := 6) rfl
      have c7 := h3.cell (k := 7) rfl
      have c8 := h3.cell (k := 8) rfl
      have c9 := h3.cell (k := 9) rfl
      have f0 := h3.frozen 0
      have f1 := h3.frozen 1
      have f2 := h3.frozen 2
      have f3 := h3.frozen 3
      have f4 := h3.frozen 4
      have f5 := h3.frozen 5
      have f6 := h3.frozen 6
      have f7 := h3.frozen 7
      have f8 := h3.frozen 8
      have f9 := h3.frozen 9
      have hv := ((((((((((h3.set 0 (.int .i64 0)).set 1 (.int .u32 0)).set 2 (.int .u64 0)).set 3 (.int .u8 0)).set 4 (.int .u64 0)).set 5 (.bool false)).set 6 (.slice none 0 0)).set 7 (.int .i64 x)).set 8 (.int .i64 (paysV o j))).set 9 (.slice none 0 0))
      have HV := Lib.hid hv
      rw [d8] at hK ⊢
      clear hd hpre hA h3 hv
      go_wp2_with fail
      exact hK undef _ ((((((((((hS.setCell (by simp; omega) _).setCell (by simp; omega) _).setCell (by simp; omega) _).setCell (by simp; omega) _).setCell (by simp; omega) _).setCell (by simp; omega) _).setCell (by simp; omega) _).setCell (by simp; omega) _).setCell (by simp; omega) _).setCell (by simp; omega) _) (fun h => absurd rfl h) HV.out
end Go.Proofs.YtkddkkcfpnndlaaGreatDoor
