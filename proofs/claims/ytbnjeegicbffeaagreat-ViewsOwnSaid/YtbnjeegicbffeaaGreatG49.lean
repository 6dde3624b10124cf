/- Walks: salesroomlaw24.lives. Walks: the functions that views.Mine hands to reply. Walks: views.Mine. Walks: views.Mine. Walks: the law ViewsMine. -/
import Derived.Test.YtbnjeegicbffeaaGreatG48
import Derived.Test.YtbnjeegicbffeaaGreatG39
/- Walks: salesroomlaw24.lives. -/
namespace Go.Proofs.YtbnjeegicbffeaaGreat
open Go.RowKit Sale

/-- the chapter's outcome -/
abbrev outOne : Outc := ⟨[0, -1], [5]⟩
theorem seen0 : (if seesB m1 outOne 0 then resRep outOne 0 else rep00).cells.toArray = #[.int .i64 0, .int .u32 0, .int .u64 0, .int .u8 0, .int .u64 0, .bool false, .slice none 0 0, .int .i64 0, .int .i64 5, .slice none 0 0] := rfl
theorem seen1 : (if seesB m1 outOne 1 then resRep outOne 1 else rep00).cells.toArray = #[.int .i64 0, .int .u32 0, .int .u64 0, .int .u8 0, .int .u64 0, .bool false, .slice none 0 0, .int .i64 (-1), .int .i64 0, .slice none 0 0] := rfl
theorem seen2 : (if seesB m1 outOne 2 then resRep outOne 2 else rep00).cells.toArray = #[.int .i64 0, .int .u32 0, .int .u64 0, .int .u8 0, .int .u64 0, .bool false, .slice none 0 0, .int .i64 0, .int .i64 0, .slice none 0 0] := rfl

theorem stat_time (W : World) : (Instr.field 38 (.agg #[.int .i64 0, .int .u32 0, .int .u64 0, .int .u8 1, .int .u64 7, .bool false, .slice none 0 0, .int .i64 (-1), .int .i64 0, .slice none 0 0]) 4).run Tryz.prog W = .ok (.int .u64 7) W := by
  unfold Instr.field
  simp [go_sem, asAgg]
set_option maxRecDepth 100000 in
set_option maxHeartbeats 4000000 in
theorem lives24_any (w : World) : Calls Tryz.prog 16 #[] w fun e w' => e = .returned (.bool true) ∧ Below w.heap.size w w' := by
  have H0 := Lib.hid (m1_at w)
  have c0 := H0.out.row.cell (k := 0) rfl
  have c1 := H0.out.row.cell (k := 1) rfl
  have c2 := H0.out.row.cell (k := 2) rfl
  go_enter Tryz.func16, Tryz.ntmps16
  go_wp2_with fail
  refine (Oof_yes _ _ _ 1 1 2 2 2 2 m1 _ H0.out.mkt (by decide +kernel)).mono ?_
  rw [outM_m1]
  rintro e w3 ⟨ha, pa, hcp, rfl, ho, hb⟩
  have hal : Below w3.heap.size w3 (w3.alloc (.cells #[.slice ha 2 hcp, .slice pa 1 1] 30)) := (Below.refl _ _).alloc (Nat.le_refl _) _
  have hm3 := (H0.out.step hb).step hal
  have ho3 := BoxO.new ho
  clear c0 c1 c2
  have c0 := hm3.row.cell (k := 0) rfl
  have c1 := hm3.row.cell (k := 1) rfl
  have c2 := hm3.row.cell (k := 2) rfl
  have p0 := ho3.row.cell (k := 0) rfl
  have p1 := ho3.row.cell (k := 1) rfl
  have hR := result_any _ _ _ ha pa 1 1 2 2 2 2 2 hcp 1 1 m1 outOne 0 _ hm3.mkt ho3.out (by omega)
  rw [seen0, show (if seesB m1 outOne 0 then (0 : Int) else 1) = 0 from rfl] at hR
  have HR := Lib.hid hR
  have H3 := Lib.hid (And.intro hm3 ho3); clear hm3 ho3 hb hal ho H0 hR
  go_wp2_with fail
  refine HR.out.mono ?_
  rintro e w4 ⟨rfl, hb⟩
  have hal : Below w4.heap.size w4 (w4.alloc (.cells #[.int .i64 0, .int .u32 0, .int .u64 0, .int .u8 0, .int .u64 0, .bool false, .slice none 0 0, .int .i64 0, .int .i64 5, .slice none 0 0] 38)) := (Below.refl _ _).alloc (Nat.le_refl _) _
  have hm4 := (H3.out.1.step hb).step hal
  have ho4 := (H3.out.2.step hb).step hal
  have ha4 := VRow.new w4 38 [.int .i64 0, .int .u32 0, .int .u64 0, .int .u8 0, .int .u64 0, .bool false, .slice none 0 0, .int .i64 0, .int .i64 5, .slice none 0 0]
  clear c0 c1 c2 p0 p1
  have c0 := hm4.row.cell (k := 0) rfl
  have c1 := hm4.row.cell (k := 1) rfl
  have c2 := hm4.row.cell (k := 2) rfl
  have p0 := ho4.row.cell (k := 0) rfl
  have p1 := ho4.row.cell (k := 1) rfl
  have hR := result_any _ _ _ ha pa 1 1 2 2 2 2 2 hcp 1 1 m1 outOne 1 _ hm4.mkt ho4.out (by omega)
  rw [seen1, show (if seesB m1 outOne 1 then (0 : Int) else 1) = 0 from rfl] at hR
  have HR2 := Lib.hid hR
  have H4 := Lib.hid (And.intro hm4 (And.intro ho4 ha4)); clear hm4 ho4 ha4 hb hal H3 hR HR
  go_wp2_with fail
  refine HR2.out.mono ?_
  rintro e w5 ⟨rfl, hb⟩
  have hal : Below w5.heap.size w5 (w5.alloc (.cells #[.int .i64 0, .int .u32 0, .int .u64 0, .int .u8 0, .int .u64 0, .bool false, .slice none 0 0, .int .i64 (-1), .int .i64 0, .slice none 0 0] 38)) := (Below.refl _ _).alloc (Nat.le_refl _) _
  have hm5 := (H4.out.1.step hb).step hal
  have ho5 := (H4.out.2.1.step hb).step hal
  have ha5 := (H4.out.2.2.step hb).step hal
  have hb5 := VRow.new w5 38 [.int .i64 0, .int .u32 0, .int .u64 0, .int .u8 0, .int .u64 0, .bool false, .slice none 0 0, .int .i64 (-1), .int .i64 0, .slice none 0 0]
  clear c0 c1 c2 p0 p1
  have c0 := hm5.row.cell (k := 0) rfl
  have c1 := hm5.row.cell (k := 1) rfl
  have c2 := hm5.row.cell (k := 2) rfl
  have p0 := ho5.row.cell (k := 0) rfl
  have p1 := ho5.row.cell (k := 1) rfl
  have hR := result_any _ _ _ ha pa 1 1 2 2 2 2 2 hcp 1 1 m1 outOne 2 _ hm5.mkt ho5.out (by omega)
  rw [seen2, show (if seesB m1 outOne 2 then (0 : Int) else 1) = 1 from rfl] at hR
  have HR3 := Lib.hid hR
  have H5 := Lib.hid (And.intro hm5.below (And.intro ha5 hb5)); clear hm5 ho5 ha5 hb5 hb hal H4 hR HR2
  go_wp2_with fail
  refine HR3.out.mono ?_
  rintro e w6 ⟨rfl, hb⟩
  have hal : Below w6.heap.size w6 (w6.alloc (.cells #[.int .i64 0, .int .u32 0, .int .u64 0, .int .u8 0, .int .u64 0, .bool false, .slice none 0 0, .int .i64 0, .int .i64 0, .slice none 0 0] 38)) := (Below.refl _ _).alloc (Nat.le_refl _) _
  have ha6 := (H5.out.2.1.step hb).step hal
  have hb6 := (H5.out.2.2.step hb).step hal
  have hbw := H5.out.1.trans ((hb.trans (hal.mono hb.size)).mono H5.out.1.size)
  clear c0 c1 c2 p0 p1
  have a7 := ha6.cell (k := 7) rfl
  have a8 := ha6.cell (k := 8) rfl
  have b7 := hb6.cell (k := 7) rfl
  have b8 := hb6.cell (k := 8) rfl
  have H6 := Lib.hid hbw; clear ha6 hb6 hbw hb hal H5 HR3
  go_wp2_with fail
  refine (status_any 1 7 _).mono ?_
  rw [show (statRep 1 7).cells.toArray = #[.int .i64 0, .int .u32 0, .int .u64 0, .int .u8 1, .int .u64 7, .bool false, .slice none 0 0, .int .i64 (-1), .int .i64 0, .slice none 0 0] from rfl]
  rintro e w7 ⟨rfl, hb⟩
  have H7 := Lib.hid (H6.out.trans (hb.mono H6.out.size)); clear hb
  have hst := stat_time w7
  go_wp2_with fail
  go_ret
  exact ⟨rfl, H7.out⟩
end Go.Proofs.YtbnjeegicbffeaaGreat

/- Walks: the functions that views.Mine hands to reply. -/
namespace Go.Proofs.YtbnjeegicbffeaaGreat
open Go.RowKit Sale

/-- a record in memory -/
structure RecAt (W : World) (B : Nat) (seq : Int) (st : Bool) (ra : Option Addr) (rn rc : Nat) (bid : List Int) : Prop where
  row : VRow W B 25 [.int .u32 seq, .bool st, .slice ra rn rc]
  bid : Ints W ra rn rc bid
theorem RecAt.step {W W' : World} {B : Nat} {seq : Int} {st : Bool} {ra : Option Addr} {rn rc : Nat} {bid : List Int} (h : RecAt W B seq st ra rn rc bid) (hb : Below W.heap.size W W') : RecAt W' B seq st ra rn rc bid :=
  ⟨h.row.step hb, h.bid.below hb (Nat.le_refl _)⟩
def GMine (R : Nat) (seq : Int) (rn : Nat) (bid : List Int) (k : Nat) (r : Rep) (W : World) : Prop :=
  (k = 0 ∧ r = rep0) ∨ (k = 1 ∧ r = { rep0 with seq := seq }) ∨ (k = 2 ∧ ∃ a : Option Addr, r = { rep0 with seq := seq, has := true, ba := a, bn := rn, bc := rn } ∧ Ints W a rn rn bid ∧ ∀ b o, a = some ⟨b, o, none⟩ → R < b)
theorem GMine.stay {R : Nat} {seq : Int} {rn : Nat} {bid : List Int} {k : Nat} {r : Rep} {W W' : World} (h : GMine R seq rn bid k r W) (hs : Stay R W W') : GMine R seq rn bid k r W' := by
  rcases h with h | h | ⟨hk, a, hr, hi, hb⟩
  · exact .inl h
  · exact .inr (.inl h)
  · exact .inr (.inr ⟨hk, a, hr, hi.stay hs (fun _ b o e => by have := hb b o e; omega), hb⟩)

set_option maxRecDepth 100000 in
set_option maxHeartbeats 2000000 in
theorem setSeq_ok {w : World} {B : Nat} {seq : Int} {st : Bool} {ra : Option Addr} {rn rc : Nat} {bid : List Int} (h : RecAt w B seq st ra rn rc bid) :
    PutsOk w 44 #[.pointer (some ⟨B, 0, none⟩)] (GMine w.heap.size seq rn bid 0) (GMine w.heap.size seq rn bid 1) := by
  refine ⟨enters_of Tryz.func44 (by kernel_rfl) rfl, fun W r hb hv hr => ?_⟩
  obtain rfl : r = rep0 := by
    rcases hr with ⟨_, h⟩ | ⟨h, _⟩ | ⟨h, _⟩
    · exact h
    · cases h
    · cases h
  show Calls Tryz.prog 44 #[.pointer (some ⟨w.heap.size, 0, none⟩), .pointer (some ⟨B, 0, none⟩)] W _
  have k0 := (h.row.step hb).cell (k := 0) rfl
  have q4 := hv.cell (k := 1) rfl
  have q5 := hv.frozen 1
  have HV := Lib.hid (And.intro hv hb)
  clear h hv hr
  have hbs := hb.size
  clear hb
  go_enter Tryz.func44, Tryz.ntmps44
  go_wp2_with fail
  refine bodyPost_end (results_none rfl _ _ _) rfl ?_
  refine ⟨rfl, { rep0 with seq := seq }, ?_, .inr (.inl ⟨rfl, rfl⟩), (Below.refl w.heap.size W).setCell (p := ⟨w.heap.size, 1, none⟩) (by simp) _⟩
  exact HV.out.1.set 1 (.int .u32 seq)

set_option maxRecDepth 100000 in
set_option maxHeartbeats 2000000 in
theorem setBid_ok {w : World} {B : Nat} {seq : Int} {st : Bool} {ra : Option Addr} {rn rc : Nat} {bid : List Int} (h : RecAt w B seq st ra rn rc bid) (hn : rn < 17592186044000) :
    PutsOk w 45 #[.pointer (some ⟨B, 0, none⟩)] (GMine w.heap.size seq rn bid 1) (GMine w.heap.size seq rn bid 2) := by
  refine ⟨enters_of Tryz.func45 (by kernel_rfl) rfl, fun W r hb hv hr => ?_⟩
  obtain rfl : r = { rep0 with seq := seq } := by
    rcases hr with ⟨h, _⟩ | ⟨_, h⟩ | ⟨h, _⟩
    · cases h
    · exact h
    · cases h
  show Calls Tryz.prog 45 #[.pointer (some ⟨w.heap.size, 0, none⟩), .pointer (some ⟨B, 0, none⟩)] W _
  have hrW := h.step hb
  have k2 := hrW.row.cell (k := 2) rfl
  have HCL := Lib.hid (cloned_any ra rn rc bid W hrW.bid hn)
  have HV := Lib.hid (And.intro hv hb)
  have hRl := hv.lt
  clear h hv hr hrW
  have hbs := hb.size
  clear hb
  go_enter Tryz.func45, Tryz.ntmps45
  go_wp2_with fail
  refine HCL.out.mono ?_
  rintro e w1 ⟨a1, c1, rfl, hc1, hi1, hf1, hb1⟩
  have hv1 := HV.out.1.step hb1
  have HC1 := Lib.hid (And.intro hi1 (And.intro hf1 (And.intro hb1 hv1)))
  clear hi1 hf1 HCL k2
  go_wp2_with fail
  refine (clip_any a1 rn c1 w1 hc1).mono ?_
  rintro e w2 ⟨rfl, rfl⟩
  have q0 := hv1.cell (k := 5) rfl
  have q1 := hv1.frozen 5
  have q2 := hv1.cell (k := 6) rfl
  have q3 := hv1.frozen 6
  have hv2 := hv1.set 5 (.bool true)
  have q4 := hv2.cell (k := 6) rfl
  have q5 := hv2.frozen 6
  clear hv1 hv2 hb1
  go_wp2_with fail
  refine bodyPost_end (results_none rfl _ _ _) rfl ?_
  have hfar : ∀ b o, a1 = some ⟨b, o, none⟩ → w.heap.size < b := fun b o e => by have := HC1.out.2.1 b o e; omega
  refine ⟨rfl, { rep0 with seq := seq, has := true, ba := a1, bn := rn, bc := rn }, (HC1.out.2.2.2.set 5 (.bool true)).set 6 (.slice a1 rn rn), .inr (.inr ⟨rfl, a1, rfl, ?_, hfar⟩), ?_⟩
  · exact ((HC1.out.1.toClip.far (fun _ b o e => by have := hfar b o e; simp; omega) _).far (fun _ b o e => by have := hfar b o e; simp; omega) _)
  · exact (((HC1.out.2.2.1.mono hbs).setCell (by simp) _).setCell (by simp) _)
end Go.Proofs.YtbnjeegicbffeaaGreat

/- Walks: views.Mine. -/
namespace Go.Proofs.YtbnjeegicbffeaaGreat
open Go.RowKit Sale

theorem infoSet : (Tryz.prog.info? 83).map (fun i => (i.zero, i.size, i.bytes)) = some (some (.agg #[.nilFunc]), 1, 8) := by kernel_rfl
/-- 'append(l, s)' at functions that set something -/
theorem appSet {ops : Array Oper} {rest : List Oper} {o : Oper} {a : Act} {Q : Exit → Act → World → Prop} (w : World) (hgd : o.guard = none) (s x : Operand)
    (ho : o.op = .call { callee := .builtin .append, args := #[s, x], argTypes := #[86, 86] })
    (base : Nat) (v : Value) (n : Nat) (vals : List Value) (hs : a.eval s = v) (hown : w.ownsRow base 83 1 v n vals) (b off c : Nat) (f : Fn) (c0 c1 : Array Value) (hx : a.eval x = .slice (some ⟨b, off, none⟩) 1 c)
    (hc : w.cell? ⟨b, off, none⟩ = some (.func f c0 c1)) (hlen : n < 1000000000000) (hbase : base ≤ w.heap.size)
    (h : ∀ g cap w', w'.ownsRow base 83 1 (.slice (some ⟨g, 0, none⟩) (n + 1) cap) (n + 1) (vals ++ [.func f c0 c1]) → Below base w w' → wpList Tryz.prog ops Q rest (a.put o.dst (.slice (some ⟨g, 0, none⟩) (n + 1) cap)) w') : wpList Tryz.prog ops Q (o :: rest) a w := by
  obtain ⟨i0, hi, hz0, hz1, hz2⟩ := info_parts infoSet
  refine wpList_append_own w hgd s x _ ho base 83 i0 _ 1 8 Tryz.underlying86 hi hz0 hz1 hz2 rfl (by decide) v n _ hs hown ⟨b, off, none⟩ 1 c [.func f c0 c1] hx rfl ?_ ?_ ?_ ?_ hbase ?_
  · intro j u hu
    cases j with
    | zero => simp at hu; subst hu; simpa [Addr.add] using hc
    | succ j => simp at hu
  · intro u hu; simp at hu; subst hu; rfl
  · unfold maxLen; omega
  · omega
  · intro v' w' hown' hg hnil
    have hne : v' ≠ .slice none 0 0 := fun e => by have := (hnil.1 e).2; omega
    rcases hown'.2 with ⟨e, _⟩ | ⟨g, cap, cur, hv, r⟩
    · exact absurd e hne
    · subst hv
      exact h g cap w' hown' ((Below.refl base w).grown hg hbase fun k hk => (World.ownsRow.lt hown k hk).1)
theorem ownsSet_cell {w : World} {base g n cap : Nat} {vals : List Value} (h : w.ownsRow base 83 1 (.slice (some ⟨g, 0, none⟩) n cap) n vals) {k : Nat} {v : Value} (hk : vals[k]? = some v) : w.cell? ⟨g, 0 + k, none⟩ = some v := by
  obtain ⟨h1, h2⟩ := h
  rcases h2 with ⟨e, _⟩ | ⟨g', cap', cur, e, hg, hh, hc, hm, hs, ht⟩
  · cases e
  · cases e
    have hkl := (List.getElem?_eq_some_iff.1 hk).1
    rw [cell_of_row w g _ cur _ _ hh, Nat.zero_add]
    have h5 : (cur.toList.take (n * 1))[k]? = some v := by rw [ht]; exact hk
    rw [List.getElem?_take_of_lt (by omega)] at h5
    simpa using h5

/-- what Mine tells -/
def mineRep (seq : Int) (st : Bool) (a : Option Addr) (rn : Nat) : Rep := if st then { rep0 with seq := seq, has := true, ba := a, bn := rn, bc := rn } else { rep0 with seq := seq }
def MineSays (w : World) (seq : Int) (st : Bool) (rn : Nat) (bid : List Int) (e : Ending) (w' : World) : Prop :=
  ∃ a : Option Addr, e = .returned (.agg (mineRep seq st a rn).cells.toArray) ∧ (st = true → Ints w' a rn rn bid ∧ ∀ b o, a = some ⟨b, o, none⟩ → w.heap.size ≤ b) ∧ Below w.heap.size w w'

theorem mine_results {h : Nat} {tmps : Array Value} (r : Rep) (t2 : tmps[2]?.getD undef = .pointer (some ⟨h, 0, none⟩)) (W : World) (hO : VRow W h 38 r.cells) :
    (results Tryz.f19 tmps).run Tryz.prog W = .ok (.agg r.cells.toArray) W := by
  have c0 := hO.cell (k := 0) rfl
  have c1 := hO.cell (k := 1) rfl
  have c2 := hO.cell (k := 2) rfl
  have c3 := hO.cell (k := 3) rfl
  have c4 := hO.cell (k := 4) rfl
  have c5 := hO.cell (k := 5) rfl
  have c6 := hO.cell (k := 6) rfl
  have c7 := hO.cell (k := 7) rfl
  have c8 := hO.cell (k := 8) rfl
  have c9 := hO.cell (k := 9) rfl
  simp [results, Tryz.results19, go_sem, t2, c0, c1, c2, c3, c4, c5, c6, c7, c8, c9, Rep.cells]

/-- the world in which Mine's first function lies in its list -/
structure MnAt (w : World) (seq : Int) (st : Bool) (ra : Option Addr) (rn rc : Nat) (bid : List Int) (W : World) : Prop where
  rec' : RecAt W w.heap.size seq st ra rn rc bid
  out : VRow W (w.heap.size + 1) 38 rep00.cells
  lst : VRow W (w.heap.size + 1 + 1) 83 [.func (.func 44) #[] #[.pointer (some ⟨w.heap.size, 0, none⟩)]]
  below : Below w.heap.size w W
theorem MnAt.step {w : World} {seq : Int} {st : Bool} {ra : Option Addr} {rn rc : Nat} {bid : List Int} {W W' : World} (h : MnAt w seq st ra rn rc bid W) (hb : Below W.heap.size W W') : MnAt w seq st ra rn rc bid W' :=
  ⟨h.rec'.step hb, h.out.step hb, h.lst.step hb, h.below.trans (hb.mono h.below.size)⟩
def mn0 (w : World) (seq : Int) (st : Bool) (ra : Option Addr) (rn rc : Nat) : World :=
  ((w.alloc (.cells #[.int .u32 seq, .bool st, .slice ra rn rc] 25)).alloc (.cells #[.int .i64 0, .int .u32 0, .int .u64 0, .int .u8 0, .int .u64 0, .bool false, .slice none 0 0, .int .i64 0, .int .i64 0, .slice none 0 0] 38)).alloc (.cells #[.func (.func 44) #[] #[.pointer (some ⟨w.heap.size, 0, none⟩)]] 83)
theorem mn0_at (w : World) (seq : Int) (st : Bool) (ra : Option Addr) (rn rc : Nat) (bid : List Int) (h : Ints w ra rn rc bid) : MnAt w seq st ra rn rc bid (mn0 w seq st ra rn rc) ∧ (mn0 w seq st ra rn rc).heap.size = w.heap.size + 1 + 1 + 1 := by
  have h1 := VRow.new w 25 [.int .u32 seq, .bool st, .slice ra rn rc]
  obtain ⟨W1, hW1⟩ : ∃ W1, W1 = w.alloc (.cells #[.int .u32 seq, .bool st, .slice ra rn rc] 25) := ⟨_, rfl⟩
  have z1 : W1.heap.size = w.heap.size + 1 := by rw [hW1]; simp
  have hb1 : Below w.heap.size w W1 := by rw [hW1]; exact (Below.refl _ _).alloc (Nat.le_refl _) _
  rw [show (List.toArray [Value.int .u32 seq, .bool st, .slice ra rn rc]) = #[.int .u32 seq, .bool st, .slice ra rn rc] from rfl, ← hW1] at h1
  have h2 := VRow.new W1 38 rep00.cells
  obtain ⟨W2, hW2⟩ : ∃ W2, W2 = W1.alloc (.cells rep00.cells.toArray 38) := ⟨_, rfl⟩
  have z2 : W2.heap.size = w.heap.size + 1 + 1 := by rw [hW2]; simp [z1]
  have hb2 : Below W1.heap.size W1 W2 := by rw [hW2]; exact (Below.refl _ _).alloc (Nat.le_refl _) _
  rw [← hW2, z1] at h2
  have h3 := VRow.new W2 83 [.func (.func 44) #[] #[.pointer (some ⟨w.heap.size, 0, none⟩)]]
  obtain ⟨W3, hW3⟩ : ∃ W3, W3 = W2.alloc (.cells #[.func (.func 44) #[] #[.pointer (some ⟨w.heap.size, 0, none⟩)]] 83) := ⟨_, rfl⟩
  have z3 : W3.heap.size = w.heap.size + 1 + 1 + 1 := by rw [hW3]; simp [z2]
  have hb3 : Below W2.heap.size W2 W3 := by rw [hW3]; exact (Below.refl _ _).alloc (Nat.le_refl _) _
  rw [show (List.toArray [(Value.func (.func 44) #[] #[.pointer (some ⟨w.heap.size, 0, none⟩)])]) = #[.func (.func 44) #[] #[.pointer (some ⟨w.heap.size, 0, none⟩)]] from rfl, ← hW3, z2] at h3
  have e : mn0 w seq st ra rn rc = W3 := by rw [hW3, hW2, hW1]; rfl
  rw [e]
  have hbw := (hb1.trans (hb2.mono (by omega))).trans (hb3.mono (by omega))
  exact ⟨⟨⟨(h1.step hb2).step hb3, h.below hbw (Nat.le_refl _)⟩, h2.step hb3, h3, hbw⟩, z3⟩
end Go.Proofs.YtbnjeegicbffeaaGreat

/- Walks: views.Mine. -/
namespace Go.Proofs.YtbnjeegicbffeaaGreat
open Go.RowKit Sale

set_option maxRecDepth 100000 in
set_option maxHeartbeats 2000000 in
theorem mine_no (seq : Int) (ra : Option Addr) (rn rc : Nat) (bid : List Int) (w : World) (h : Ints w ra rn rc bid) :
    Calls Tryz.prog 19 #[.agg #[.int .u32 seq, .bool false, .slice ra rn rc]] w (MineSays w seq false rn bid) := by
  obtain ⟨hA, hz⟩ := mn0_at w seq false ra rn rc bid h
  obtain ⟨W3, hW3⟩ : ∃ W3, W3 = mn0 w seq false ra rn rc := ⟨_, rfl⟩
  rw [← hW3] at hA hz
  have hR := reply_any [(44, #[.pointer (some ⟨w.heap.size, 0, none⟩)])] (w.heap.size + 1 + 1) 0 1 1 W3 (GMine W3.heap.size seq rn bid) rfl (by omega)
    (fun k s hk => by
      cases k with
      | zero => obtain rfl : _ = s := by simpa using hk
                exact hA.lst.cell (k := 0) rfl
      | succ k => simp at hk)
    (fun k s hk => by
      cases k with
      | zero => obtain rfl : _ = s := by simpa using hk
                exact setSeq_ok hA.rec'
      | succ k => simp at hk)
    (fun _ => .inl ⟨rfl, rfl⟩) (fun _ _ _ _ _ hs h => h.stay hs)
  have k1 := hA.rec'.row.cell (k := 1) rfl
  have HR := Lib.hid hR
  have HA := Lib.hid hA; clear hR hA h hz
  go_enter Tryz.func19, Tryz.ntmps19
  go_wp2_with fail
  rw [show ((w.alloc (.cells #[.int .u32 seq, .bool false, .slice ra rn rc] 25)).alloc (.cells #[.int .i64 0, .int .u32 0, .int .u64 0, .int .u8 0, .int .u64 0, .bool false, .slice none 0 0, .int .i64 0, .int .i64 0, .slice none 0 0] 38)).alloc (.cells #[.func (.func 44) #[] #[.pointer (some ⟨w.heap.size, 0, none⟩)]] 83) = W3 from hW3.symm]
  clear hW3
  refine HR.out.mono ?_
  rintro e w6 ⟨r, rfl, hr, hb6⟩
  obtain rfl : r = { rep0 with seq := seq } := by
    rcases hr with ⟨h, _⟩ | ⟨_, h⟩ | ⟨h, _⟩
    · cases h
    · exact h
    · cases h
  have hA6 := HA.out.step hb6
  clear k1 HR
  have c0 := hA6.out.cell (k := 0) rfl
  have f0 := hA6.out.frozen 0
  have c1 := hA6.out.cell (k := 1) rfl
  have f1 := hA6.out.frozen 1
  have c2 := hA6.out.cell (k := 2) rfl
  have f2 := hA6.out.frozen 2
  have c3 := hA6.out.cell (k := 3) rfl
  have f3 := hA6.out.frozen 3
  have c4 := hA6.out.cell (k := 4) rfl
  have f4 := hA6.out.frozen 4
  have c5 := hA6.out.cell (k := 5) rfl
  have f5 := hA6.out.frozen 5
  have c6 := hA6.out.cell (k := 6) rfl
  have f6 := hA6.out.frozen 6
  have c7 := hA6.out.cell (k := 7) rfl
  have f7 := hA6.out.frozen 7
  have c8 := hA6.out.cell (k := 8) rfl
  have f8 := hA6.out.frozen 8
  have c9 := hA6.out.cell (k := 9) rfl
  have f9 := hA6.out.frozen 9
  have H6 := Lib.hid (And.intro hA6.out hA6.below); clear hA6 hb6 hr
  rw [show ({ rep0 with seq := seq } : Rep).cells.toArray = #[.int .i64 0, .int .u32 seq, .int .u64 0, .int .u8 0, .int .u64 0, .bool false, .slice none 0 0, .int .i64 (-1), .int .i64 0, .slice none 0 0] from rfl]
  go_wp2_with fail
  have hv := ((((((((((H6.out.1.set 0 (.int .i64 0)).set 1 (.int .u32 seq)).set 2 (.int .u64 0)).set 3 (.int .u8 0)).set 4 (.int .u64 0)).set 5 (.bool false)).set 6 (.slice none 0 0)).set 7 (.int .i64 (-1))).set 8 (.int .i64 0)).set 9 (.slice none 0 0))
  refine bodyPost_ret (mine_results { rep0 with seq := seq } rfl _ hv) rfl ⟨none, rfl, (fun h => by cases h), ?_⟩
  exact ((((((((((H6.out.2.setCell (by simp) _).setCell (by simp) _).setCell (by simp) _).setCell (by simp) _).setCell (by simp) _).setCell (by simp) _).setCell (by simp) _).setCell (by simp) _).setCell (by simp) _).setCell (by simp) _)

set_option maxRecDepth 100000 in
set_option maxHeartbeats 2000000 in
theorem mine_yes (seq : Int) (ra : Option Addr) (rn rc : Nat) (bid : List Int) (w : World) (h : Ints w ra rn rc bid) (hn : rn < 17592186044000) :
    Calls Tryz.prog 19 #[.agg #[.int .u32 seq, .bool true, .slice ra rn rc]] w (MineSays w seq true rn bid) := by
  have HI := Lib.hid h
  obtain ⟨hA, hz⟩ := mn0_at w seq true ra rn rc bid h
  obtain ⟨W3, hW3⟩ : ∃ W3, W3 = mn0 w seq true ra rn rc := ⟨_, rfl⟩
  rw [← hW3] at hA hz
  have hal : Below W3.heap.size W3 (W3.alloc (.cells #[.func (.func 45) #[] #[.pointer (some ⟨w.heap.size, 0, none⟩)]] 83)) := (Below.refl _ _).alloc (Nat.le_refl _) _
  have hA4 := hA.step hal
  have hown : (W3.alloc (.cells #[.func (.func 45) #[] #[.pointer (some ⟨w.heap.size, 0, none⟩)]] 83)).ownsRow (w.heap.size + 1 + 1) 83 1 (.slice (some ⟨w.heap.size + 1 + 1, 0, none⟩) 1 1) 1 [.func (.func 44) #[] #[.pointer (some ⟨w.heap.size, 0, none⟩)]] :=
    ⟨rfl, .inr ⟨w.heap.size + 1 + 1, 1, #[.func (.func 44) #[] #[.pointer (some ⟨w.heap.size, 0, none⟩)]], rfl, Nat.le_refl _, hA4.lst, Nat.le_refl _, by unfold maxLen; omega, rfl, rfl⟩⟩
  have hcf : (W3.alloc (.cells #[.func (.func 45) #[] #[.pointer (some ⟨w.heap.size, 0, none⟩)]] 83)).cell? ⟨w.heap.size + 1 + 1 + 1, 0, none⟩ = some (.func (.func 45) #[] #[.pointer (some ⟨w.heap.size, 0, none⟩)]) := by
    have h := VRow.new W3 83 [.func (.func 45) #[] #[.pointer (some ⟨w.heap.size, 0, none⟩)]]
    rw [hz] at h
    exact h.cell (k := 0) rfl
  have k1 := hA.rec'.row.cell (k := 1) rfl
  have HA := Lib.hid hA4
  have HO := Lib.hid hown
  have HC := Lib.hid hcf
  have HZ := Lib.hid (And.intro hz hal.size)
  clear hA h hz hA4 hown hcf hal
  go_enter Tryz.func19, Tryz.ntmps19
  go_wp2_with (at_builtin; refine appSet _ rfl _ _ rfl (w.heap.size + 1 + 1) _ 1 [.func (.func 44) #[] #[.pointer (some ⟨w.heap.size, 0, none⟩)]] rfl ?own (w.heap.size + 1 + 1 + 1) 0 1 (.func 45) #[] #[.pointer (some ⟨w.heap.size, 0, none⟩)] rfl ?cell (by omega) ?base ?rest)
  case own => subst hW3; exact HO.out
  case cell => subst hW3; exact HC.out
  case base => subst hW3; simp
  case rest =>
    intro g cap w5 hown5 hb5
    have hb5' : Below (w.heap.size + 1 + 1) (W3.alloc (.cells #[.func (.func 45) #[] #[.pointer (some ⟨w.heap.size, 0, none⟩)]] 83)) w5 := by subst hW3; exact hb5
    clear hb5 hW3 k1
    have hz3 := HZ.out.1
    have hbw := HA.out.below.trans (hb5'.mono (by omega))
    have hrec : RecAt w5 w.heap.size seq true ra rn rc bid := ⟨VRow.below HA.out.rec'.row hb5' (by omega), HI.out.below hbw (Nat.le_refl _)⟩
    have hout : VRow w5 (w.heap.size + 1) 38 rep00.cells := VRow.below HA.out.out hb5' (by omega)
    have hR := reply_any [(44, #[.pointer (some ⟨w.heap.size, 0, none⟩)]), (45, #[.pointer (some ⟨w.heap.size, 0, none⟩)])] g 0 2 cap w5 (GMine w5.heap.size seq rn bid) rfl (by omega)
      (fun k s hk => by
        match k, hk with
        | 0, hk => obtain rfl : _ = s := by simpa using hk
                   exact ownsSet_cell hown5 (k := 0) rfl
        | 1, hk => obtain rfl : _ = s := by simpa using hk
                   exact ownsSet_cell hown5 (k := 1) rfl
        | k + 2, hk => simp at hk)
      (fun k s hk => by
        match k, hk with
        | 0, hk => obtain rfl : _ = s := by simpa using hk
                   exact setSeq_ok hrec
        | 1, hk => obtain rfl : _ = s := by simpa using hk
                   exact setBid_ok hrec hn
        | k + 2, hk => simp at hk)
      (fun _ => .inl ⟨rfl, rfl⟩) (fun _ _ _ _ _ hs h => h.stay hs)
    have HR := Lib.hid hR
    have H5 := Lib.hid (And.intro hout hbw); clear hR hrec hout hbw hown5 hb5' hz3
    go_wp2_with fail
    refine HR.out.mono ?_
    rintro e w6 ⟨r, rfl, hr, hb6⟩
    obtain ⟨a, rfl, hi, hfa⟩ : ∃ a : Option Addr, r = { rep0 with seq := seq, has := true, ba := a, bn := rn, bc := rn } ∧ Ints w6 a rn rn bid ∧ ∀ b o, a = some ⟨b, o, none⟩ → w5.heap.size < b := by
      rcases hr with ⟨h, _⟩ | ⟨h, _⟩ | ⟨_, h⟩
      · cases h
      · cases h
      · exact h
    clear hr HR
    have hlt5 := H5.out.1.lt
    have hA6 := H5.out.1.step hb6
    have c0 := hA6.cell (k := 0) rfl
    have f0 := hA6.frozen 0
    have c1 := hA6.cell (k := 1) rfl
    have f1 := hA6.frozen 1
    have c2 := hA6.cell (k := 2) rfl
    have f2 := hA6.frozen 2
    have c3 := hA6.cell (k := 3) rfl
    have f3 := hA6.frozen 3
    have c4 := hA6.cell (k := 4) rfl
    have f4 := hA6.frozen 4
    have c5 := hA6.cell (k := 5) rfl
    have f5 := hA6.frozen 5
    have c6 := hA6.cell (k := 6) rfl
    have f6 := hA6.frozen 6
    have c7 := hA6.cell (k := 7) rfl
    have f7 := hA6.frozen 7
    have c8 := hA6.cell (k := 8) rfl
    have f8 := hA6.frozen 8
    have c9 := hA6.cell (k := 9) rfl
    have f9 := hA6.frozen 9
    have hbw := H5.out.2.trans (hb6.mono H5.out.2.size)
    have hfa' : ∀ b o, a = some ⟨b, o, none⟩ → b ≠ w.heap.size + 1 := fun b o e => by have := hfa b o e; omega
    have hfb : ∀ b o, a = some ⟨b, o, none⟩ → w.heap.size ≤ b := fun b o e => by have := hfa b o e; omega
    have H6 := Lib.hid (And.intro hA6 (And.intro hbw (And.intro hi (And.intro hfa' hfb)))); clear hA6 hb6 hbw hi hfa hfa' hfb hlt5
    rw [show ({ rep0 with seq := seq, has := true, ba := a, bn := rn, bc := rn } : Rep).cells.toArray = #[.int .i64 0, .int .u32 seq, .int .u64 0, .int .u8 0, .int .u64 0, .bool true, .slice a rn rn, .int .i64 (-1), .int .i64 0, .slice none 0 0] from rfl]
    go_wp2_with fail
    have hv := ((((((((((H6.out.1.set 0 (.int .i64 0)).set 1 (.int .u32 seq)).set 2 (.int .u64 0)).set 3 (.int .u8 0)).set 4 (.int .u64 0)).set 5 (.bool true)).set 6 (.slice a rn rn)).set 7 (.int .i64 (-1))).set 8 (.int .i64 0)).set 9 (.slice none 0 0))
    have far : ∀ (W : World) (k : Nat) (u : Value), Ints W a rn rn bid → Ints (W.setCell ⟨w.heap.size + 1, k, none⟩ u) a rn rn bid := fun W k u h => h.far (fun _ b o e => H6.out.2.2.2.1 b o e) u
    refine bodyPost_ret (mine_results { rep0 with seq := seq, has := true, ba := a, bn := rn, bc := rn } rfl _ hv) rfl ⟨a, rfl, (fun _ => ⟨?_, H6.out.2.2.2.2⟩), ?_⟩
    · exact far _ _ _ (far _ _ _ (far _ _ _ (far _ _ _ (far _ _ _ (far _ _ _ (far _ _ _ (far _ _ _ (far _ _ _ (far _ _ _ H6.out.2.2.1)))))))))
    · exact ((((((((((H6.out.2.1.setCell (by simp) _).setCell (by simp) _).setCell (by simp) _).setCell (by simp) _).setCell (by simp) _).setCell (by simp) _).setCell (by simp) _).setCell (by simp) _).setCell (by simp) _).setCell (by simp) _)
end Go.Proofs.YtbnjeegicbffeaaGreat

/- Walks: the law ViewsMine. -/
namespace Go.Proofs.YtbnjeegicbffeaaGreat
open Go.RowKit Sale

set_option maxRecDepth 100000 in
set_option maxHeartbeats 2000000 in
theorem viewsMine_any (ra : Option Addr) (rn rc : Nat) (seq : Int) (st : Bool) (bid : List Int) (w : World) (h : Ints w ra rn rc bid) (hn : rn < 17592186044000) :
    Calls Tryz.prog 4 #[.agg #[.int .u32 seq, .bool st, .slice ra rn rc]] w fun e w' => e = .returned (.bool true) ∧ Below w.heap.size w w' := by
  have hb0 : Below w.heap.size w (w.alloc (.cells #[.int .u32 seq, .bool st, .slice ra rn rc] 25)) := (Below.refl _ _).alloc (Nat.le_refl _) _
  have hr0 : RecAt (w.alloc (.cells #[.int .u32 seq, .bool st, .slice ra rn rc] 25)) w.heap.size seq st ra rn rc bid := ⟨VRow.new w _ _, h.below hb0 (Nat.le_refl _)⟩
  have k0 := hr0.row.cell (k := 0) rfl
  have k1 := hr0.row.cell (k := 1) rfl
  have k2 := hr0.row.cell (k := 2) rfl
  have e0 : (seq != seq) = false := by simp
  cases st with
  | false =>
    have HM := Lib.hid (mine_no seq ra rn rc bid _ hr0.bid)
    have H0 := Lib.hid (And.intro hr0 hb0); clear hr0 hb0 h
    go_enter Tryz.func4, Tryz.ntmps4
    go_wp2_with fail
    refine HM.out.mono ?_
    rintro e w1 ⟨a, rfl, _, hb1⟩
    rw [show (mineRep seq false a rn).cells.toArray = #[.int .i64 0, .int .u32 seq, .int .u64 0, .int .u8 0, .int .u64 0, .bool false, .slice none 0 0, .int .i64 (-1), .int .i64 0, .slice none 0 0] from rfl]
    have hal : Below w1.heap.size w1 (w1.alloc (.cells #[.int .i64 0, .int .u32 seq, .int .u64 0, .int .u8 0, .int .u64 0, .bool false, .slice none 0 0, .int .i64 (-1), .int .i64 0, .slice none 0 0] 38)) := (Below.refl _ _).alloc (Nat.le_refl _) _
    have hr2 := (H0.out.1.step hb1).step hal
    have hbw := H0.out.2.trans ((hb1.trans (hal.mono hb1.size)).mono H0.out.2.size)
    clear k0 k1 k2
    have k0 := hr2.row.cell (k := 0) rfl
    have k1 := hr2.row.cell (k := 1) rfl
    have H2 := Lib.hid hbw; clear hr2 hbw hb1 hal HM H0
    go_wp2_with fail
    refine (lives24_any _).mono ?_
    rintro e w3 ⟨rfl, hb⟩
    have H3 := Lib.hid (H2.out.trans (hb.mono H2.out.size)); clear hb
    go_wp2_with fail
    go_ret
    exact ⟨rfl, H3.out⟩
  | true =>
    have HM := Lib.hid (mine_yes seq ra rn rc bid _ hr0.bid hn)
    have H0 := Lib.hid (And.intro hr0 hb0); clear hr0 hb0 h
    go_enter Tryz.func4, Tryz.ntmps4
    go_wp2_with fail
    refine HM.out.mono ?_
    rintro e w1 ⟨a, rfl, hi, hb1⟩
    rw [show (mineRep seq true a rn).cells.toArray = #[.int .i64 0, .int .u32 seq, .int .u64 0, .int .u8 0, .int .u64 0, .bool true, .slice a rn rn, .int .i64 (-1), .int .i64 0, .slice none 0 0] from rfl]
    have hal : Below w1.heap.size w1 (w1.alloc (.cells #[.int .i64 0, .int .u32 seq, .int .u64 0, .int .u8 0, .int .u64 0, .bool true, .slice a rn rn, .int .i64 (-1), .int .i64 0, .slice none 0 0] 38)) := (Below.refl _ _).alloc (Nat.le_refl _) _
    have hr2 := (H0.out.1.step hb1).step hal
    have hbw := H0.out.2.trans ((hb1.trans (hal.mono hb1.size)).mono H0.out.2.size)
    have hS := same_any a ra rn rn rn rc bid bid _ ((hi rfl).1.below hal (Nat.le_refl _)) hr2.bid
    rw [decide_eq_true rfl] at hS
    clear k0 k1 k2
    have k0 := hr2.row.cell (k := 0) rfl
    have k1 := hr2.row.cell (k := 1) rfl
    have k2 := hr2.row.cell (k := 2) rfl
    have HS := Lib.hid hS
    have H2 := Lib.hid hbw; clear hr2 hbw hb1 hal HM H0 hi hS
    go_wp2_with fail
    refine HS.out.mono ?_
    rintro e w3 ⟨rfl, hb⟩
    have H3 := Lib.hid (H2.out.trans (hb.mono H2.out.size)); clear hb
    go_wp2_with fail
    refine (lives24_any _).mono ?_
    rintro e w4 ⟨rfl, hb⟩
    have H4 := Lib.hid (H3.out.trans (hb.mono H3.out.size)); clear hb
    go_wp2_with fail
    go_ret
    exact ⟨rfl, H4.out⟩
end Go.Proofs.YtbnjeegicbffeaaGreat
