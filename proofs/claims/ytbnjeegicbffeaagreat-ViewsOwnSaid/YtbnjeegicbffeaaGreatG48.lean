/- Walks: views.reply: what is set in a reply, by functions that are handed in. Walks: the functions that set something in a reply; views.Result, Status. Walks: views.Result. Walks: views.Status. -/
import Derived.Test.YtbnjeegicbffeaaGreatG36
import Derived.Test.YtbnjeegicbffeaaGreatG25
import Derived.Test.YtbnjeegicbffeaaGreatG38
import Derived.Deep.RegionHeld3
import Derived.BigRegion
/- Walks: views.reply: what is set in a reply, by functions that are handed in. -/
namespace Go.Proofs.YtbnjeegicbffeaaGreat
open Go.RowKit Sale

/-- a reply -/
structure Rep where
  e : Int
  seq : Int
  tok : Int
  ph : Int
  time : Int
  has : Bool
  ba : Option Addr
  bn : Nat
  bc : Nat
  item : Int
  pays : Int
  ca : Option Addr
  cn : Nat
  cc : Nat
def Rep.cells (r : Rep) : List Value := [.int .i64 r.e, .int .u32 r.seq, .int .u64 r.tok, .int .u8 r.ph, .int .u64 r.time, .bool r.has, .slice r.ba r.bn r.bc, .int .i64 r.item, .int .i64 r.pays, .slice r.ca r.cn r.cc]
/-- all but block R is as it was -/
def Stay (R : Nat) (W W' : World) : Prop := W.heap.size ≤ W'.heap.size ∧ ∀ b, b < W.heap.size → b ≠ R → W'.heap[b]? = W.heap[b]?
theorem Stay.of_below {R : Nat} {W W' : World} (h : Below W.heap.size W W') : Stay R W W' := ⟨h.size, fun b hb _ => h.block b hb⟩
theorem Stay.setCell {R : Nat} {W W' : World} (h : Stay R W W') {p : Addr} (hp : p.block = R) (v : Value) : Stay R W (W'.setCell p v) :=
  ⟨by simpa using h.1, fun b hb hne => by rw [heap_setCell_other W' p b v (by omega)]; exact h.2 b hb hne⟩
theorem Stay.put {R : Nat} {W W' : World} (h : Stay R W W') (k : Nat) (v : Value) : Stay R W (W'.setCell ⟨R, k, none⟩ v) := h.setCell rfl v
theorem Stay.cell {R : Nat} {W W' : World} (h : Stay R W W') {b o : Nat} {v : Value} (hne : b ≠ R) (hc : W.cell? ⟨b, o, none⟩ = some v) : W'.cell? ⟨b, o, none⟩ = some v := by
  rw [World.cell?_of_block (a := ⟨b, o, none⟩) (h.2 b (block_lt_of_cell hc) hne)]; exact hc
theorem Ints.stay {R : Nat} {w w' : World} {a : Option Addr} {n c : Nat} {xs : List Int} (h : Ints w a n c xs) (hs : Stay R w w') (hne : 0 < n → ∀ b o, a = some ⟨b, o, none⟩ → b ≠ R) : Ints w' a n c xs :=
  ⟨h.len, h.cap, h.big, h.addr, fun b o e k x hx => hs.cell (hne (by have := (List.getElem?_eq_some_iff.1 hx).1; have := h.len; omega) b o e) (h.cell b o e k x hx), h.bd, h.nil⟩
def rep0 : Rep := ⟨0, 0, 0, 0, 0, false, none, 0, 0, -1, 0, none, 0, 0⟩
/-- what a function that is called with the reply, in the first new block behind w, does -/
def PutsOk (w : World) (g : Nat) (cap : Array Value) (G G' : Rep → World → Prop) : Prop :=
  Enters g ∧ ∀ (W : World) (r : Rep), Below w.heap.size w W → VRow W w.heap.size 38 r.cells → G r W →
    Calls Tryz.prog g (#[.pointer (some ⟨w.heap.size, 0, none⟩)] ++ cap) W fun e W' => e = .returned (.tuple #[]) ∧ ∃ r', VRow W' w.heap.size 38 r'.cells ∧ G' r' W' ∧ Below w.heap.size W W'

theorem reply_results {h : Nat} {v0 v1 v2 v3 v4 v5 v6 v7 v8 v9 : Value} {tmps : Array Value} (t2 : tmps[2]?.getD undef = .pointer (some ⟨h, 0, none⟩)) (W : World) (hO : VRow W h 38 [v0, v1, v2, v3, v4, v5, v6, v7, v8, v9]) :
    (results Tryz.f40 tmps).run Tryz.prog W = .ok (.agg #[v0, v1, v2, v3, v4, v5, v6, v7, v8, v9]) W := by
  have c0 := hO.cell (k := 0) rfl
  have c1 := hO.cell (k := 1) rfl
  have c2 := hO.cell (k := 2) rfl
  have c3 := hO.cell (k := 3) rfl
  have c4 := hO.cell (k := 4) rfl
  have c5 := hO.cell (k := 5) rfl
  have c6 := hO.cell (k := 6) rfl
  have c7 := hO.cell (k := 7) rfl
  have c8 := hO.cell (k := 8) rfl
  have c9 := hO.cell (k := 9) rfl
  simp [results, Tryz.results40, go_sem, t2, c0, c1, c2, c3, c4, c5, c6, c7, c8, c9]

set_option maxRecDepth 100000 in
set_option maxHeartbeats 1000000 in
theorem reply_any (l : List (Nat × Array Value)) (b o n c : Nat) (w : World) (G : Nat → Rep → World → Prop) (hl : l.length = n) (hn : n ≤ 1000) (hc : ∀ k s, l[k]? = some s → w.cell? ⟨b, o + k, none⟩ = some (.func (.func s.1) #[] s.2))
    (hs : ∀ k s, l[k]? = some s → PutsOk w s.1 s.2 (G k) (G (k + 1))) (h0 : ∀ W, G 0 rep0 W) (hG : ∀ k r (W W' : World), Below w.heap.size w W → Stay w.heap.size W W' → G k r W → G k r W') :
    Calls Tryz.prog 40 #[.slice (some ⟨b, o, none⟩) n c] w fun e w' => ∃ r : Rep, e = .returned (.agg r.cells.toArray) ∧ G n r w' ∧ Below w.heap.size w w' := by
  have hb0 : Below w.heap.size w (w.alloc (.cells #[.int .i64 0, .int .u32 0, .int .u64 0, .int .u8 0, .int .u64 0, .bool false, .slice none 0 0, .int .i64 (-1), .int .i64 0, .slice none 0 0] 38)) := (Below.refl _ _).alloc (Nat.le_refl _) _
  have hv0 := VRow.new w 38 rep0.cells
  rw [show rep0.cells.toArray = #[.int .i64 0, .int .u32 0, .int .u64 0, .int .u8 0, .int .u64 0, .bool false, .slice none 0 0, .int .i64 (-1), .int .i64 0, .slice none 0 0] from rfl] at hv0
  have H0 := Lib.hid (And.intro hb0 hv0)
  have HC := Lib.hid hc
  have HS := Lib.hid hs
  have HL := Lib.hid hl
  have HG := Lib.hid hG
  have H00 := Lib.hid h0
  clear hb0 hv0 hc hs hl hG h0
  go_enter Tryz.func40, Tryz.ntmps40
  go_wp2_with fail
  obtain ⟨W0, hW0⟩ : ∃ W0, W0 = w.alloc (.cells #[.int .i64 0, .int .u32 0, .int .u64 0, .int .u8 0, .int .u64 0, .bool false, .slice none 0 0, .int .i64 (-1), .int .i64 0, .slice none 0 0] 38) := ⟨_, rfl⟩
  rw [← hW0] at H0 ⊢
  clear hW0
  go_loopg [8] n (fun g' s8 wr => ∃ (k : Nat) (r : Rep), k + g' = n ∧ s8 = .int .i64 k ∧ VRow wr w.heap.size 38 r.cells ∧ G k r wr ∧ Below w.heap.size w wr)
  case atStart => exact ⟨0, rep0, by omega, rfl, H0.out.2, H00.out _, H0.out.1⟩
  case round =>
    obtain ⟨k, r, hk, rfl, hv, hg, hb⟩ := hrel
    have HK := Lib.hid hk; clear hk
    by_cases hlt : k < n
    · obtain ⟨s, hs⟩ : ∃ s, l[k]? = some s := ⟨_, List.getElem?_eq_getElem (by rw [HL.out]; exact hlt)⟩
      obtain ⟨sg, scap⟩ := s
      have cs : wr.cell? ⟨b, o + k, none⟩ = some (.func (.func sg) #[] scap) := cell_step (w := w) hb (HC.out k _ hs)
      obtain ⟨hen, hcall⟩ := HS.out k _ hs
      unfold Enters at hen
      have hal : Below wr.heap.size wr (wr.alloc (.cells #[.func (.func sg) #[] scap] 83)) := (Below.refl _ _).alloc (Nat.le_refl _) _
      have HCA := Lib.hid (hcall _ r (hb.trans (hal.mono hb.size)) (hv.step hal) (HG.out k r wr _ hb (Stay.of_below hal) hg))
      have HB := Lib.hid (hb.trans (hal.mono hb.size))
      clear hs hcall hal hv hb hg
      go_wp2_with fail
      refine HCA.out.mono ?_
      rintro e w1 ⟨rfl, r', hv1, hg1, hb1⟩
      have HB1 := Lib.hid (And.intro hv1 (And.intro hg1 (HB.out.trans hb1))); clear hv1 hb1 hg1 hen cs HCA
      go_wp2_with fail
      go_roundg (gk - 1)
      case measure => have := HK.out; omega
      case rel => exact ⟨k + 1, r', by have := HK.out; omega, by go_num, HB1.out.1, HB1.out.2.1, HB1.out.2.2⟩
    · obtain rfl : k = n := by have := HK.out; omega
      obtain ⟨e, seq, tok, ph, time, has, ba, bn, bc, item, pays, ca, cn, cc⟩ := r
      have c0 := hv.cell (k := 0) rfl
      have c1 := hv.cell (k := 1) rfl
      have c2 := hv.cell (k := 2) rfl
      have c3 := hv.cell (k := 3) rfl
      have c4 := hv.cell (k := 4) rfl
      have c5 := hv.cell (k := 5) rfl
      have c6 := hv.cell (k := 6) rfl
      have c7 := hv.cell (k := 7) rfl
      have c8 := hv.cell (k := 8) rfl
      have c9 := hv.cell (k := 9) rfl
      have f0 := hv.frozen 0
      have f1 := hv.frozen 1
      have f2 := hv.frozen 2
      have f3 := hv.frozen 3
      have f4 := hv.frozen 4
      have f5 := hv.frozen 5
      have f6 := hv.frozen 6
      have f7 := hv.frozen 7
      have f8 := hv.frozen 8
      have f9 := hv.frozen 9
      have HV := Lib.hid (And.intro hv (And.intro hb hg)); clear hv hb hg
      go_wp2_with fail
      have hv2 := ((((((((((HV.out.1.set 0 (.int .i64 e)).set 1 (.int .u32 seq)).set 2 (.int .u64 tok)).set 3 (.int .u8 ph)).set 4 (.int .u64 time)).set 5 (.bool has)).set 6 (.slice ba bn bc)).set 7 (.int .i64 item)).set 8 (.int .i64 pays)).set 9 (.slice ca cn cc))
      refine bodyPost_ret (reply_results rfl _ hv2) rfl ⟨⟨e, seq, tok, ph, time, has, ba, bn, bc, item, pays, ca, cn, cc⟩, rfl, HG.out _ _ wr _ HV.out.2.1 ?_ HV.out.2.2, ?_⟩
      · exact (((((((((((Stay.of_below (Below.refl _ wr)).put 0 _).put 1 _).put 2 _).put 3 _).put 4 _).put 5 _).put 6 _).put 7 _).put 8 _).put 9 _)
      · exact ((((((((((HV.out.2.1.setCell (by simp) _).setCell (by simp) _).setCell (by simp) _).setCell (by simp) _).setCell (by simp) _).setCell (by simp) _).setCell (by simp) _).setCell (by simp) _).setCell (by simp) _).setCell (by simp) _)
end Go.Proofs.YtbnjeegicbffeaaGreat

/- Walks: the functions that set something in a reply; views.Result, Status. -/
namespace Go.Proofs.YtbnjeegicbffeaaGreat
open Go.RowKit Sale

/-- what Result sets -/
def resRep (o : Outc) (i : Int) : Rep := { rep0 with item := o.has.getD i.toNat (-1), pays := paysV o i }
def GRes (o : Outc) (i : Int) (k : Nat) (r : Rep) (_ : World) : Prop := r = if k = 0 then rep0 else resRep o i

set_option maxRecDepth 100000 in
set_option maxHeartbeats 2000000 in
theorem setRes_ok {w : World} {Bo Bi : Nat} {ha pa : Option Addr} {hn hc pn pc : Nat} {o : Outc} {i : Nat} (ho : BoxO Bo ha pa hn hc pn pc o w) (hi : VRow w Bi 3 [.int .i64 (i : Int)]) (hlt : i < hn) :
    PutsOk w 41 #[.pointer (some ⟨Bo, 0, none⟩), .pointer (some ⟨Bi, 0, none⟩)] (GRes o i 0) (GRes o i 1) := by
  refine ⟨enters_of Tryz.func41 (by kernel_rfl) rfl, fun W r hb hv hr => ?_⟩
  obtain rfl : r = rep0 := hr
  show Calls Tryz.prog 41 #[.pointer (some ⟨w.heap.size, 0, none⟩), .pointer (some ⟨Bo, 0, none⟩), .pointer (some ⟨Bi, 0, none⟩)] W _
  obtain ⟨x, hx, _⟩ := ho.out.has.get hlt
  obtain ⟨hb', ho', rfl⟩ := ho.out.has.addr (by omega)
  have hbig := ho.out.has.big
  have hol := ho.row.lt
  have hil := hi.lt
  have hoW := ho.step hb
  have hiW := hi.step hb
  have hxl := ho.out.has.lt (by omega) rfl
  have k0 := hoW.row.cell (k := 0) rfl
  have k1 := hoW.row.cell (k := 1) rfl
  have ki := hiW.cell (k := 0) rfl
  have cx := hoW.out.has.cell hb' ho' rfl i x hx
  have hRl := hv.lt
  have hx' : o.has.getD (i : Int).toNat (-1) = x := by rw [Int.toNat_natCast]; rw [List.getD_eq_getElem?_getD, hx]; rfl
  have HX := Lib.hid (And.intro hx' hx)
  have HP := Lib.hid (pays_any (some ⟨hb', ho', none⟩) pa hn hc pn pc o (i : Int) W.drew (hoW.out.below ((Below.refl _ _).drew) (Nat.le_refl _)))
  have HV := Lib.hid (And.intro hv (And.intro hoW (And.intro hiW hb)))
  clear ho hi hx hx' hv hoW hiW hb
  obtain ⟨pv, hpv⟩ : ∃ pv, pv = paysV o (i : Int) := ⟨_, rfl⟩
  rw [← hpv] at HP
  have HPV := Lib.hid hpv; clear hpv
  have i0 : (0 : Int) ≤ (i : Int) := by omega
  have i1 : (i : Int) < (hn : Int) := by omega
  go_enter Tryz.func41, Tryz.ntmps41
  go_wp2_with fail
  go_region_held3 (fun w' => w'.cell? ⟨Bo, 0, none⟩ = some (.slice (some ⟨hb', ho', none⟩) hn hc) ∧ w'.cell? ⟨Bo, 1, none⟩ = some (.slice pa pn pc) ∧ w'.cell? ⟨Bi, 0, none⟩ = some (.int .i64 (i : Int)) ∧ w'.cell? ⟨hb', ho' + i, none⟩ = some (.int .i64 x))
    (first | (go_split_ands; refine ⟨?_, ?_, ?_, ?_⟩ <;> first | assumption | go_keep) | go_keep)
    ((go_at_call 17; refine HP.out.mono ?_; rintro e' w3 ⟨rfl, hb3⟩; have q0 := cell_step hb3 k0; have q1 := cell_step hb3 k1; have q2 := cell_step hb3 ki; have q3 := cell_step hb3 cx; have hv3 := (HV.out.1.drew).step hb3; have q4 := hv3.cell (k := 7) rfl; have q5 := hv3.frozen 7; have q6 := hv3.cell (k := 8) rfl; have q7 := hv3.frozen 8; have hv4 := hv3.set 7 (.int .i64 x); have q8 := hv4.cell (k := 8) rfl; have q9 := hv4.frozen 8; have r0 := (World.cell?_setCell_far w3 ⟨w.heap.size, 7, none⟩ ⟨Bo, 0, none⟩ (.int .i64 x) (by simp; omega)).trans q0; have r1 := (World.cell?_setCell_far w3 ⟨w.heap.size, 7, none⟩ ⟨Bo, 1, none⟩ (.int .i64 x) (by simp; omega)).trans q1; have r2 := (World.cell?_setCell_far w3 ⟨w.heap.size, 7, none⟩ ⟨Bi, 0, none⟩ (.int .i64 x) (by simp; omega)).trans q2; have r3 := (World.cell?_setCell_far w3 ⟨w.heap.size, 7, none⟩ ⟨hb', ho' + i, none⟩ (.int .i64 x) (by simp; omega)).trans q3; have u0 := (World.cell?_setCell_far _ ⟨w.heap.size, 8, none⟩ ⟨Bo, 0, none⟩ (.int .i64 pv) (by simp; omega)).trans r0; have u1 := (World.cell?_setCell_far _ ⟨w.heap.size, 8, none⟩ ⟨Bo, 1, none⟩ (.int .i64 pv) (by simp; omega)).trans r1; have u2 := (World.cell?_setCell_far _ ⟨w.heap.size, 8, none⟩ ⟨Bi, 0, none⟩ (.int .i64 pv) (by simp; omega)).trans r2; have u3 := (World.cell?_setCell_far _ ⟨w.heap.size, 8, none⟩ ⟨hb', ho' + i, none⟩ (.int .i64 pv) (by simp; omega)).trans r3))
  go_wp2_with fail
  refine bodyPost_end (results_none rfl _ _ _) rfl ?_
  have hv3 := (HV.out.1.drew).step hb3
  have hbw : Below w.heap.size W w3 := (Below.refl w.heap.size W).drew.trans (hb3.mono (by simpa using HV.out.2.2.2.size))
  refine ⟨rfl, resRep o i, ?_, rfl, (hbw.setCell (by simp) _).setCell (by simp) _⟩
  have h := (hv3.set 7 (.int .i64 x)).set 8 (.int .i64 pv)
  rw [show resRep o (i : Int) = { rep0 with item := x, pays := pv } by unfold resRep; rw [HX.out.1, HPV.out]]
  exact h
end Go.Proofs.YtbnjeegicbffeaaGreat

/- Walks: views.Result. -/
namespace Go.Proofs.YtbnjeegicbffeaaGreat
open Go.RowKit Sale

def rep00 : Rep := ⟨0, 0, 0, 0, 0, false, none, 0, 0, 0, 0, none, 0, 0⟩
/-- may Result tell? -/
def seesB (m : Mkt) (o : Outc) (i : Int) : Bool := decide (0 ≤ i ∧ i < (m.bids.length : Int) ∧ i < (o.has.length : Int))
/-- the world in which Result begins -/
def rs0 (w : World) (ra ba oa ha pa : Option Addr) (rn rc bn bc on oc hn hc pn pc : Nat) (i : Int) : World :=
  (((w.alloc (.cells #[.slice ra rn rc, .slice ba bn bc, .slice oa on oc] 28)).alloc (.cells #[.slice ha hn hc, .slice pa pn pc] 30)).alloc (.cells #[.int .i64 i] 3)).alloc (.cells #[.int .i64 0, .int .u32 0, .int .u64 0, .int .u8 0, .int .u64 0, .bool false, .slice none 0 0, .int .i64 0, .int .i64 0, .slice none 0 0] 38)
structure RsAt (w : World) (ra ba oa ha pa : Option Addr) (rn rc bn bc on oc hn hc pn pc : Nat) (i : Int) (o : Outc) (W : World) : Prop where
  b1 : VRow W w.heap.size 28 [.slice ra rn rc, .slice ba bn bc, .slice oa on oc]
  b2 : BoxO (w.heap.size + 1) ha pa hn hc pn pc o W
  b3 : VRow W (w.heap.size + 1 + 1) 3 [.int .i64 i]
  b4 : VRow W (w.heap.size + 1 + 1 + 1) 38 rep00.cells
  below : Below w.heap.size w W
theorem RsAt.step {w : World} {ra ba oa ha pa : Option Addr} {rn rc bn bc on oc hn hc pn pc : Nat} {i : Int} {o : Outc} {W W' : World} (h : RsAt w ra ba oa ha pa rn rc bn bc on oc hn hc pn pc i o W) (hb : Below W.heap.size W W') : RsAt w ra ba oa ha pa rn rc bn bc on oc hn hc pn pc i o W' :=
  ⟨h.b1.step hb, h.b2.step hb, h.b3.step hb, h.b4.step hb, h.below.trans (hb.mono h.below.size)⟩
theorem rs0_at (w : World) (ra ba oa ha pa : Option Addr) (rn rc bn bc on oc hn hc pn pc : Nat) (i : Int) (o : Outc) (ho : OutAt w ha pa hn hc pn pc o) : RsAt w ra ba oa ha pa rn rc bn bc on oc hn hc pn pc i o (rs0 w ra ba oa ha pa rn rc bn bc on oc hn hc pn pc i) ∧ (rs0 w ra ba oa ha pa rn rc bn bc on oc hn hc pn pc i).heap.size = w.heap.size + 1 + 1 + 1 + 1 := by
  have h1 := VRow.new w 28 [.slice ra rn rc, .slice ba bn bc, .slice oa on oc]
  have hb1 : Below w.heap.size w (w.alloc (.cells #[.slice ra rn rc, .slice ba bn bc, .slice oa on oc] 28)) := (Below.refl _ _).alloc (Nat.le_refl _) _
  obtain ⟨W1, hW1⟩ : ∃ W1, W1 = w.alloc (.cells #[.slice ra rn rc, .slice ba bn bc, .slice oa on oc] 28) := ⟨_, rfl⟩
  have z1 : W1.heap.size = w.heap.size + 1 := by rw [hW1]; simp
  have h2 := BoxO.new (ho.below hb1 (Nat.le_refl _))
  rw [show (List.toArray [Value.slice ra rn rc, .slice ba bn bc, .slice oa on oc]) = #[.slice ra rn rc, .slice ba bn bc, .slice oa on oc] from rfl, ← hW1] at h1
  rw [← hW1] at hb1 h2
  rw [z1] at h2
  obtain ⟨W2, hW2⟩ : ∃ W2, W2 = W1.alloc (.cells #[.slice ha hn hc, .slice pa pn pc] 30) := ⟨_, rfl⟩
  have z2 : W2.heap.size = w.heap.size + 1 + 1 := by rw [hW2]; simp [z1]
  have hb2 : Below W1.heap.size W1 W2 := by rw [hW2]; exact (Below.refl _ _).alloc (Nat.le_refl _) _
  rw [← hW2] at h2
  have h3 := VRow.new W2 3 [.int .i64 i]
  obtain ⟨W3, hW3⟩ : ∃ W3, W3 = W2.alloc (.cells #[.int .i64 i] 3) := ⟨_, rfl⟩
  have z3 : W3.heap.size = w.heap.size + 1 + 1 + 1 := by rw [hW3]; simp [z2]
  have hb3 : Below W2.heap.size W2 W3 := by rw [hW3]; exact (Below.refl _ _).alloc (Nat.le_refl _) _
  rw [show (List.toArray [Value.int .i64 i]) = #[.int .i64 i] from rfl, ← hW3, z2] at h3
  have h4 := VRow.new W3 38 rep00.cells
  obtain ⟨W4, hW4⟩ : ∃ W4, W4 = W3.alloc (.cells rep00.cells.toArray 38) := ⟨_, rfl⟩
  have hb4 : Below W3.heap.size W3 W4 := by rw [hW4]; exact (Below.refl _ _).alloc (Nat.le_refl _) _
  have z4 : W4.heap.size = w.heap.size + 1 + 1 + 1 + 1 := by rw [hW4]; simp [z3]
  rw [← hW4, z3] at h4
  have e : rs0 w ra ba oa ha pa rn rc bn bc on oc hn hc pn pc i = W4 := by rw [hW4, hW3, hW2, hW1]; rfl
  rw [e]
  exact ⟨⟨((h1.step hb2).step hb3).step hb4, (h2.step hb3).step hb4, h3.step hb4, h4, ((hb1.trans (hb2.mono (by omega))).trans (hb3.mono (by omega))).trans (hb4.mono (by omega))⟩, z4⟩

theorem res_results {h : Nat} {tmps : Array Value} {e : Int} (r : Rep) (t6 : tmps[6]?.getD undef = .pointer (some ⟨h, 0, none⟩)) (t7 : tmps[7]?.getD undef = .int .i64 e) (W : World) (hO : VRow W h 38 r.cells) :
    (results Tryz.f15 tmps).run Tryz.prog W = .ok (.tuple #[.agg r.cells.toArray, .int .i64 e]) W := by
  have c0 := hO.cell (k := 0) rfl
  have c1 := hO.cell (k := 1) rfl
  have c2 := hO.cell (k := 2) rfl
  have c3 := hO.cell (k := 3) rfl
  have c4 := hO.cell (k := 4) rfl
  have c5 := hO.cell (k := 5) rfl
  have c6 := hO.cell (k := 6) rfl
  have c7 := hO.cell (k := 7) rfl
  have c8 := hO.cell (k := 8) rfl
  have c9 := hO.cell (k := 9) rfl
  simp [results, Tryz.results15, go_sem, t6, t7, c0, c1, c2, c3, c4, c5, c6, c7, c8, c9, Rep.cells]

set_option maxRecDepth 100000 in
set_option maxHeartbeats 2000000 in
theorem result_any (ra ba oa ha pa : Option Addr) (rn rc bn bc on oc hn hc pn pc : Nat) (m : Mkt) (o : Outc) (i : Int) (w : World) (hm : MktAt w ra ba oa rn rc bn bc on oc m) (ho : OutAt w ha pa hn hc pn pc o) (hib : -9223372036854775808 ≤ i ∧ i ≤ 9223372036854775807) :
    Calls Tryz.prog 15 #[.agg #[.slice ra rn rc, .slice ba bn bc, .slice oa on oc], .agg #[.slice ha hn hc, .slice pa pn pc], .int .i64 i] w fun e w' =>
      e = .returned (.tuple #[.agg (if seesB m o i then resRep o i else rep00).cells.toArray, .int .i64 (if seesB m o i then 0 else 1)]) ∧ Below w.heap.size w w' := by
  obtain ⟨hA, hz⟩ := rs0_at w ra ba oa ha pa rn rc bn bc on oc hn hc pn pc i o ho
  have hbl := hm.bids.len
  have hhl := ho.has.len
  have hbb := hm.bids.big
  have hhb := ho.has.big
  have k3 := hA.b3.cell (k := 0) rfl
  have k1 := hA.b1.cell (k := 1) rfl
  have k2 := hA.b2.row.cell (k := 0) rfl
  have r4 := hA.b4
  clear hm ho
  have HA := Lib.hid (And.intro hA hz); clear hA hz
  by_cases h : seesB m o i = true
  · rw [h]
    have hr := h
    unfold seesB at hr
    rw [decide_eq_true_eq, hbl, hhl] at hr
    obtain ⟨h0, h1, h2⟩ := hr
    obtain ⟨j, rfl⟩ := Int.eq_ofNat_of_zero_le h0
    clear h r4
    have d0 : decide ((j : Int) < 0) = false := by simp
    have d1 : decide ((bn : Int) ≤ (j : Int)) = false := by simp; omega
    have d2 : decide ((hn : Int) ≤ (j : Int)) = false := by simp; omega
    have d3 : decide (bn ≤ j) = false := by simp; omega
    have d4 : decide (hn ≤ j) = false := by simp; omega
    clear hbl hhl
    go_enter Tryz.func15, Tryz.ntmps15
    go_wp2_with fail
    obtain ⟨W5, hW5⟩ : ∃ W5, W5 = (rs0 w ra ba oa ha pa rn rc bn bc on oc hn hc pn pc (j : Int)).alloc (.cells #[.func (.func 41) #[] #[.pointer (some ⟨w.heap.size + 1, 0, none⟩), .pointer (some ⟨w.heap.size + 1 + 1, 0, none⟩)]] 83) := ⟨_, rfl⟩
    have hal : Below (rs0 w ra ba oa ha pa rn rc bn bc on oc hn hc pn pc (j : Int)).heap.size (rs0 w ra ba oa ha pa rn rc bn bc on oc hn hc pn pc (j : Int)) W5 := by rw [hW5]; exact (Below.refl _ _).alloc (Nat.le_refl _) _
    have hA5 := HA.out.1.step hal
    have hcf : W5.cell? ⟨w.heap.size + 1 + 1 + 1 + 1, 0, none⟩ = some (.func (.func 41) #[] #[.pointer (some ⟨w.heap.size + 1, 0, none⟩), .pointer (some ⟨w.heap.size + 1 + 1, 0, none⟩)]) := by
      have h := VRow.new (rs0 w ra ba oa ha pa rn rc bn bc on oc hn hc pn pc (j : Int)) 83 [.func (.func 41) #[] #[.pointer (some ⟨w.heap.size + 1, 0, none⟩), .pointer (some ⟨w.heap.size + 1 + 1, 0, none⟩)]]
      rw [HA.out.2] at h
      have := h.cell (k := 0) rfl
      rw [hW5]; exact this
    have hR := reply_any [(41, #[.pointer (some ⟨w.heap.size + 1, 0, none⟩), .pointer (some ⟨w.heap.size + 1 + 1, 0, none⟩)])] (w.heap.size + 1 + 1 + 1 + 1) 0 1 1 W5 (GRes o (j : Int)) rfl (by omega)
      (fun k s hk => by
        cases k with
        | zero => obtain rfl : _ = s := by simpa using hk
                  exact hcf
        | succ k => simp at hk)
      (fun k s hk => by
        cases k with
        | zero => obtain rfl : _ = s := by simpa using hk
                  exact setRes_ok hA5.b2 hA5.b3 (by omega)
        | succ k => simp at hk)
      (fun _ => rfl) (fun _ _ _ _ _ _ h => h)
    have HR := Lib.hid hR
    have H5 := Lib.hid hA5; clear hR hA5 hcf hal
    rw [show ((((w.alloc (.cells #[.slice ra rn rc, .slice ba bn bc, .slice oa on oc] 28)).alloc (.cells #[.slice ha hn hc, .slice pa pn pc] 30)).alloc (.cells #[.int .i64 (j : Int)] 3)).alloc (.cells #[.int .i64 0, .int .u32 0, .int .u64 0, .int .u8 0, .int .u64 0, .bool false, .slice none 0 0, .int .i64 0, .int .i64 0, .slice none 0 0] 38)).alloc (.cells #[.func (.func 41) #[] #[.pointer (some ⟨w.heap.size + 1, 0, none⟩), .pointer (some ⟨w.heap.size + 1 + 1, 0, none⟩)]] 83) = W5 from hW5.symm]
    clear hW5
    refine HR.out.mono ?_
    rintro e w6 ⟨r, rfl, hr, hb6⟩
    obtain rfl : r = resRep o (j : Int) := hr
    have hA6 := H5.out.step hb6
    clear k1 k2 k3 d0 d1 d2 d3 d4 HR
    have c0 := hA6.b4.cell (k := 0) rfl
    have f0 := hA6.b4.frozen 0
    have c1 := hA6.b4.cell (k := 1) rfl
    have f1 := hA6.b4.frozen 1
    have c2 := hA6.b4.cell (k := 2) rfl
    have f2 := hA6.b4.frozen 2
    have c3 := hA6.b4.cell (k := 3) rfl
    have f3 := hA6.b4.frozen 3
    have c4 := hA6.b4.cell (k := 4) rfl
    have f4 := hA6.b4.frozen 4
    have c5 := hA6.b4.cell (k := 5) rfl
    have f5 := hA6.b4.frozen 5
    have c6 := hA6.b4.cell (k := 6) rfl
    have f6 := hA6.b4.frozen 6
    have c7 := hA6.b4.cell (k := 7) rfl
    have f7 := hA6.b4.frozen 7
    have c8 := hA6.b4.cell (k := 8) rfl
    have f8 := hA6.b4.frozen 8
    have c9 := hA6.b4.cell (k := 9) rfl
    have f9 := hA6.b4.frozen 9
    have H6 := Lib.hid hA6; clear hA6 hb6
    obtain ⟨x, hx⟩ : ∃ x, x = o.has.getD (j : Int).toNat (-1) := ⟨_, rfl⟩
    obtain ⟨pv, hpv⟩ : ∃ pv, pv = paysV o (j : Int) := ⟨_, rfl⟩
    have hrr : resRep o (j : Int) = { rep0 with item := x, pays := pv } := by unfold resRep; rw [hx, hpv]
    rw [hrr, show ({ rep0 with item := x, pays := pv } : Rep).cells.toArray = #[.int .i64 0, .int .u32 0, .int .u64 0, .int .u8 0, .int .u64 0, .bool false, .slice none 0 0, .int .i64 x, .int .i64 pv, .slice none 0 0] from rfl]
    have HRR := Lib.hid hrr; clear hrr hx hpv
    go_wp2_with fail
    have hv := ((((((((((H6.out.b4.set 0 (.int .i64 0)).set 1 (.int .u32 0)).set 2 (.int .u64 0)).set 3 (.int .u8 0)).set 4 (.int .u64 0)).set 5 (.bool false)).set 6 (.slice none 0 0)).set 7 (.int .i64 x)).set 8 (.int .i64 pv)).set 9 (.slice none 0 0))
    refine bodyPost_ret (res_results { rep0 with item := x, pays := pv } rfl rfl _ hv) rfl ⟨by rw [HRR.out], ?_⟩
    exact ((((((((((H6.out.below.setCell (by simp; omega) _).setCell (by simp; omega) _).setCell (by simp; omega) _).setCell (by simp; omega) _).setCell (by simp; omega) _).setCell (by simp; omega) _).setCell (by simp; omega) _).setCell (by simp; omega) _).setCell (by simp; omega) _).setCell (by simp; omega) _)
  · have h : seesB m o i = false := by simpa using h
    rw [h]
    have hr := h
    unfold seesB at hr
    rw [decide_eq_false_iff_not, hbl, hhl] at hr
    have hA := HA.out.1
    have c0 := hA.b4.cell (k := 0) rfl
    have f0 := hA.b4.frozen 0
    have c1 := hA.b4.cell (k := 1) rfl
    have f1 := hA.b4.frozen 1
    have c2 := hA.b4.cell (k := 2) rfl
    have f2 := hA.b4.frozen 2
    have c3 := hA.b4.cell (k := 3) rfl
    have f3 := hA.b4.frozen 3
    have c4 := hA.b4.cell (k := 4) rfl
    have f4 := hA.b4.frozen 4
    have c5 := hA.b4.cell (k := 5) rfl
    have f5 := hA.b4.frozen 5
    have c6 := hA.b4.cell (k := 6) rfl
    have f6 := hA.b4.frozen 6
    have c7 := hA.b4.cell (k := 7) rfl
    have f7 := hA.b4.frozen 7
    have c8 := hA.b4.cell (k := 8) rfl
    have f8 := hA.b4.frozen 8
    have c9 := hA.b4.cell (k := 9) rfl
    have f9 := hA.b4.frozen 9
    have HR := Lib.hid hr
    clear r4 hA h hbl hhl hr
    by_cases h0 : i < 0
    · have d0 : decide (i < 0) = true := by simpa using h0
      clear h0
      go_enter Tryz.func15, Tryz.ntmps15
      go_wp2_with fail
      exact bodyPost_ret (res_results rep00 rfl rfl _ HA.out.1.b4) rfl ⟨rfl, HA.out.1.below⟩
    · have d0 : decide (i < 0) = false := by simpa using h0
      by_cases h1 : (bn : Int) ≤ i
      · have d1 : decide ((bn : Int) ≤ i) = true := by simpa using h1
        clear h0 h1
        go_enter Tryz.func15, Tryz.ntmps15
        go_wp2_with fail
        exact bodyPost_ret (res_results rep00 rfl rfl _ HA.out.1.b4) rfl ⟨rfl, HA.out.1.below⟩
      · have d1 : decide ((bn : Int) ≤ i) = false := by simpa using h1
        have h2 : (hn : Int) ≤ i := by have := HR.out; omega
        have d2 : decide ((hn : Int) ≤ i) = true := by simpa using h2
        clear h0 h1 h2
        go_enter Tryz.func15, Tryz.ntmps15
        go_wp2_with fail
        exact bodyPost_ret (res_results rep00 rfl rfl _ HA.out.1.b4) rfl ⟨rfl, HA.out.1.below⟩
end Go.Proofs.YtbnjeegicbffeaaGreat

/- Walks: views.Status. -/
namespace Go.Proofs.YtbnjeegicbffeaaGreat
open Go.RowKit Sale

def statRep (p now : Int) : Rep := { rep0 with ph := p, time := now }
def GStat (p now : Int) (k : Nat) (r : Rep) (_ : World) : Prop := r = if k = 0 then rep0 else statRep p now

set_option maxRecDepth 100000 in
set_option maxHeartbeats 2000000 in
theorem setStat_ok {w : World} {Bp Bn : Nat} {p now : Int} (hp : VRow w Bp 31 [.int .u8 p]) (hn : VRow w Bn 32 [.int .u64 now]) :
    PutsOk w 70 #[.pointer (some ⟨Bp, 0, none⟩), .pointer (some ⟨Bn, 0, none⟩)] (GStat p now 0) (GStat p now 1) := by
  refine ⟨enters_of Tryz.func70 (by kernel_rfl) rfl, fun W r hb hv hr => ?_⟩
  obtain rfl : r = rep0 := hr
  show Calls Tryz.prog 70 #[.pointer (some ⟨w.heap.size, 0, none⟩), .pointer (some ⟨Bp, 0, none⟩), .pointer (some ⟨Bn, 0, none⟩)] W _
  have hpl := hp.lt
  have hnl := hn.lt
  have kp := (hp.step hb).cell (k := 0) rfl
  have kn := (hn.step hb).cell (k := 0) rfl
  have hRl := hv.lt
  have q4 := hv.cell (k := 3) rfl
  have q5 := hv.frozen 3
  have q6 := hv.cell (k := 4) rfl
  have q7 := hv.frozen 4
  have HV := Lib.hid (And.intro hv hb)
  clear hp hn hv
  have hbs := hb.size
  clear hb
  go_enter Tryz.func70, Tryz.ntmps70
  go_wp2_with fail
  go_region
  go_wp2_with fail
  refine bodyPost_end (results_none rfl _ _ _) rfl ?_
  refine ⟨rfl, statRep p now, ?_, rfl, ((((Below.refl w.heap.size W).setCell (p := ⟨w.heap.size, 3, none⟩) (by simp) _).setCell (p := ⟨w.heap.size, 4, none⟩) (by simp) _).drew)⟩
  exact ((HV.out.1.set 3 (.int .u8 p)).set 4 (.int .u64 now)).drew

theorem stat_results {h : Nat} {tmps : Array Value} (r : Rep) (t4 : tmps[4]?.getD undef = .pointer (some ⟨h, 0, none⟩)) (W : World) (hO : VRow W h 38 r.cells) :
    (results Tryz.f42 tmps).run Tryz.prog W = .ok (.agg r.cells.toArray) W := by
  have c0 := hO.cell (k := 0) rfl
  have c1 := hO.cell (k := 1) rfl
  have c2 := hO.cell (k := 2) rfl
  have c3 := hO.cell (k := 3) rfl
  have c4 := hO.cell (k := 4) rfl
  have c5 := hO.cell (k := 5) rfl
  have c6 := hO.cell (k := 6) rfl
  have c7 := hO.cell (k := 7) rfl
  have c8 := hO.cell (k := 8) rfl
  have c9 := hO.cell (k := 9) rfl
  simp [results, Tryz.results42, go_sem, t4, c0, c1, c2, c3, c4, c5, c6, c7, c8, c9, Rep.cells]

set_option maxRecDepth 100000 in
set_option maxHeartbeats 2000000 in
theorem status_any (p now : Int) (w : World) : Calls Tryz.prog 42 #[.int .u8 p, .int .u64 now] w fun e w' => e = .returned (.agg (statRep p now).cells.toArray) ∧ Below w.heap.size w w' := by
  have h1 := VRow.new w 31 [.int .u8 p]
  obtain ⟨W1, hW1⟩ : ∃ W1, W1 = w.alloc (.cells #[.int .u8 p] 31) := ⟨_, rfl⟩
  have z1 : W1.heap.size = w.heap.size + 1 := by rw [hW1]; simp
  have hb1 : Below w.heap.size w W1 := by rw [hW1]; exact (Below.refl _ _).alloc (Nat.le_refl _) _
  rw [show (List.toArray [Value.int .u8 p]) = #[.int .u8 p] from rfl, ← hW1] at h1
  have h2 := VRow.new W1 32 [.int .u64 now]
  obtain ⟨W2, hW2⟩ : ∃ W2, W2 = W1.alloc (.cells #[.int .u64 now] 32) := ⟨_, rfl⟩
  have z2 : W2.heap.size = w.heap.size + 1 + 1 := by rw [hW2]; simp [z1]
  have hb2 : Below W1.heap.size W1 W2 := by rw [hW2]; exact (Below.refl _ _).alloc (Nat.le_refl _) _
  rw [show (List.toArray [Value.int .u64 now]) = #[.int .u64 now] from rfl, ← hW2, z1] at h2
  have h3 := VRow.new W2 38 rep00.cells
  obtain ⟨W3, hW3⟩ : ∃ W3, W3 = W2.alloc (.cells rep00.cells.toArray 38) := ⟨_, rfl⟩
  have z3 : W3.heap.size = w.heap.size + 1 + 1 + 1 := by rw [hW3]; simp [z2]
  have hb3 : Below W2.heap.size W2 W3 := by rw [hW3]; exact (Below.refl _ _).alloc (Nat.le_refl _) _
  rw [← hW3, z2] at h3
  have h4 := VRow.new W3 83 [.func (.func 70) #[] #[.pointer (some ⟨w.heap.size, 0, none⟩), .pointer (some ⟨w.heap.size + 1, 0, none⟩)]]
  obtain ⟨W4, hW4⟩ : ∃ W4, W4 = W3.alloc (.cells #[.func (.func 70) #[] #[.pointer (some ⟨w.heap.size, 0, none⟩), .pointer (some ⟨w.heap.size + 1, 0, none⟩)]] 83) := ⟨_, rfl⟩
  have hb4 : Below W3.heap.size W3 W4 := by rw [hW4]; exact (Below.refl _ _).alloc (Nat.le_refl _) _
  rw [show (List.toArray [(.func (.func 70) #[] #[.pointer (some ⟨w.heap.size, 0, none⟩), .pointer (some ⟨w.heap.size + 1, 0, none⟩)] : Value)]) = #[.func (.func 70) #[] #[.pointer (some ⟨w.heap.size, 0, none⟩), .pointer (some ⟨w.heap.size + 1, 0, none⟩)]] from rfl, ← hW4, z3] at h4
  have k1 := ((h1.step hb2).step hb3).step hb4
  have k2 := (h2.step hb3).step hb4
  have k3 := h3.step hb4
  have hbw : Below w.heap.size w W4 := ((hb1.trans (hb2.mono (by omega))).trans (hb3.mono (by omega))).trans (hb4.mono (by omega))
  have hcf := h4.cell (k := 0) rfl
  have e : (((w.alloc (.cells #[.int .u8 p] 31)).alloc (.cells #[.int .u64 now] 32)).alloc (.cells #[.int .i64 0, .int .u32 0, .int .u64 0, .int .u8 0, .int .u64 0, .bool false, .slice none 0 0, .int .i64 0, .int .i64 0, .slice none 0 0] 38)).alloc (.cells #[.func (.func 70) #[] #[.pointer (some ⟨w.heap.size, 0, none⟩), .pointer (some ⟨w.heap.size + 1, 0, none⟩)]] 83) = W4 := by rw [hW4, hW3, hW2, hW1]; rfl
  have hR := reply_any [(70, #[.pointer (some ⟨w.heap.size, 0, none⟩), .pointer (some ⟨w.heap.size + 1, 0, none⟩)])] (w.heap.size + 1 + 1 + 1) 0 1 1 W4 (GStat p now) rfl (by omega)
    (fun k s hk => by
      cases k with
      | zero => obtain rfl : _ = s := by simpa using hk
                exact hcf
      | succ k => simp at hk)
    (fun k s hk => by
      cases k with
      | zero => obtain rfl : _ = s := by simpa using hk
                exact setStat_ok k1 k2
      | succ k => simp at hk)
    (fun _ => rfl) (fun _ _ _ _ _ _ h => h)
  have HR := Lib.hid hR
  have H4 := Lib.hid (And.intro k3 hbw)
  have HE := Lib.hid e
  clear hR e k1 k2 k3 hbw hcf h1 h2 h3 h4 hb1 hb2 hb3 hb4 z1 z2 z3 hW1 hW2 hW3 hW4
  go_enter Tryz.func42, Tryz.ntmps42
  go_wp2_with fail
  rw [HE.out]
  refine HR.out.mono ?_
  rintro e w6 ⟨r, rfl, hr, hb6⟩
  obtain rfl : r = statRep p now := hr
  have hA6 := H4.out.1.step hb6
  have hbw := H4.out.2.trans (hb6.mono H4.out.2.size)
  have c0 := hA6.cell (k := 0) rfl
  have f0 := hA6.frozen 0
  have c1 := hA6.cell (k := 1) rfl
  have f1 := hA6.frozen 1
  have c2 := hA6.cell (k := 2) rfl
  have f2 := hA6.frozen 2
  have c3 := hA6.cell (k := 3) rfl
  have f3 := hA6.frozen 3
  have c4 := hA6.cell (k := 4) rfl
  have f4 := hA6.frozen 4
  have c5 := hA6.cell (k := 5) rfl
  have f5 := hA6.frozen 5
  have c6 := hA6.cell (k := 6) rfl
  have f6 := hA6.frozen 6
  have c7 := hA6.cell (k := 7) rfl
  have f7 := hA6.frozen 7
  have c8 := hA6.cell (k := 8) rfl
  have f8 := hA6.frozen 8
  have c9 := hA6.cell (k := 9) rfl
  have f9 := hA6.frozen 9
  have H6 := Lib.hid (And.intro hA6 hbw); clear hA6 hb6 hbw HR
  rw [show (statRep p now).cells.toArray = #[.int .i64 0, .int .u32 0, .int .u64 0, .int .u8 p, .int .u64 now, .bool false, .slice none 0 0, .int .i64 (-1), .int .i64 0, .slice none 0 0] from rfl]
  go_wp2_with fail
  have hv := ((((((((((H6.out.1.set 0 (.int .i64 0)).set 1 (.int .u32 0)).set 2 (.int .u64 0)).set 3 (.int .u8 p)).set 4 (.int .u64 now)).set 5 (.bool false)).set 6 (.slice none 0 0)).set 7 (.int .i64 (-1))).set 8 (.int .i64 0)).set 9 (.slice none 0 0))
  refine bodyPost_ret (stat_results (statRep p now) rfl _ hv) rfl ⟨rfl, ?_⟩
  exact ((((((((((H6.out.2.setCell (by simp; omega) _).setCell (by simp; omega) _).setCell (by simp; omega) _).setCell (by simp; omega) _).setCell (by simp; omega) _).setCell (by simp; omega) _).setCell (by simp; omega) _).setCell (by simp; omega) _).setCell (by simp; omega) _).setCell (by simp; omega) _)
end Go.Proofs.YtbnjeegicbffeaaGreat
