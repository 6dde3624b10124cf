/- Walks: are two lists the same? Walks: outcomes.Even, whatever it is asked of; are two outcomes the same? Walks: views.reply: what is set in a reply, by functions that are handed in. Walks: the functions that set something in a reply; views.Result, Status. Walks: views.Result. Walks: views.Status. Walks: the functions that views.Mine hands to reply. Walks: views.Mine. The second market of the chapters' examples, as the laws' texts make it. Walks: salesroomlaw15.lives. Walks: salesroomlaw24.lives. Walks: salesroomlaw01.SameReply. -/
import Derived.Test.YtkddkkcfpnndlaaGreatDoorVq00
import Derived.Test.YtkddkkcfpnndlaaGreatDoorRows
import Derived.Test.YtkddkkcfpnndlaaGreatDoorVq18
import Derived.Test.YtkddkkcfpnndlaaGreatDoorVq36
import Derived.Test.YtkddkkcfpnndlaaGreatDoorVq16
import Derived.BigRegion
import Derived.Outline
import Derived.Deep.RegionHeld3
namespace Go.Proofs.YtkddkkcfpnndlaaGreatDoor
open Go.RowKit

theorem same_any (a b : Option Addr) (n c m d : Nat) (xs ys : List Int) (w : World) (hx : Ints w a n c xs) (hy : Ints w b m d ys) :
    Calls Tryz.prog 13 #[.slice a n c, .slice b m d] w fun e w' => e = .returned (.bool (decide (xs = ys))) ∧ Below w.heap.size w w' := by
  have HX := Lib.hid hx.len
  have HY := Lib.hid hy.len
  by_cases hl : n = m
  · subst hl
    have H1 := Lib.hid hx; clear hx
    have H2 := Lib.hid hy; clear hy
    have hbig := H1.out.big
    go_enter Tryz.func13, Tryz.ntmps13
    go_wp2_with fail
    go_loopg [5] n (fun g s7 wr => ∃ k : Nat, k + g = n ∧ s7 = .int .i64 k ∧ Below w.heap.size w wr ∧ xs.take k = ys.take k)
    case atStart => exact ⟨0, by omega, rfl, Below.refl _ _, rfl⟩
    case round =>
      obtain ⟨k, hk, rfl, hB, ht⟩ := hrel
      have HT := Lib.hid ht; clear ht
      by_cases hlt : k < n
      · obtain ⟨x, hx, _⟩ := H1.out.get hlt
        obtain ⟨y, hy, _⟩ := H2.out.get hlt
        obtain ⟨b1, o1, rfl⟩ := H1.out.addr (by omega)
        obtain ⟨b2, o2, rfl⟩ := H2.out.addr (by omega)
        have hc1 := (H1.out.below hB (Nat.le_refl _)).cell b1 o1 rfl k x hx
        have hc2 := (H2.out.below hB (Nat.le_refl _)).cell b2 o2 rfl k y hy
        have HB := Lib.hid hB; clear hB
        have HK := Lib.hid hk; clear hk
        have HXK := Lib.hid hx; clear hx
        have HYK := Lib.hid hy; clear hy
        go_wp2_with fail
        go_region
        by_cases hxy : x = y
        · subst hxy
          go_wp2_with fail
          go_roundg (gk - 1)
          case measure => have := HK.out; omega
          case rel => exact ⟨k + 1, by have := HK.out; omega, by go_num, HB.out.drew, by rw [List.take_add_one, List.take_add_one, HXK.out, HYK.out, HT.out]⟩
        · have e1 : (x != y) = true := by simp [hxy]
          have HN := Lib.hid hxy; clear hxy
          go_wp2_with fail
          go_ret
          refine ⟨ret_bool ?_, HB.out.drew⟩
          symm
          rw [decide_eq_false_iff_not]
          intro h
          have := HXK.out
          rw [h, HYK.out] at this
          cases this
          exact HN.out rfl
      · obtain rfl : k = n := by omega
        go_wp2_with fail
        go_ret
        refine ⟨ret_bool ?_, hB⟩
        symm
        rw [decide_eq_true_eq]
        have := HT.out
        rwa [List.take_of_length_le (by rw [HX.out]; exact Nat.le_refl _), List.take_of_length_le (by rw [HY.out]; exact Nat.le_refl _)] at this
  · have e1 : ((n : Int) != (m : Int)) = true := by simp; omega
    clear hx hy
    have HL := Lib.hid hl; clear hl
    go_enter Tryz.func13, Tryz.ntmps13
    go_wp2_with fail
    go_ret
    refine ⟨ret_bool ?_, Below.refl _ _⟩
    symm
    rw [decide_eq_false_iff_not]
    rintro rfl
    exact HL.out (HX.out.symm.trans HY.out)
end Go.Proofs.YtkddkkcfpnndlaaGreatDoor

namespace Go.Proofs.YtkddkkcfpnndlaaGreatDoor
open Go.RowKit Sale

/-- an outcome in a box -/
structure BoxO (B : Nat) (ha pa : Option Addr) (hn hc pn pc : Nat) (o : Outc) (W : World) : Prop where
  row : VRow W B 70 [.slice ha hn hc, .slice pa pn pc]
  out : OutAt W ha pa hn hc pn pc o
theorem BoxO.step {B : Nat} {ha pa : Option Addr} {hn hc pn pc : Nat} {o : Outc} {W W' : World} (h : BoxO B ha pa hn hc pn pc o W) (hb : Below W.heap.size W W') : BoxO B ha pa hn hc pn pc o W' :=
  ⟨h.row.below hb h.row.lt, h.out.below hb (Nat.le_refl _)⟩
theorem BoxO.new {ha pa : Option Addr} {hn hc pn pc : Nat} {o : Outc} {W : World} (h : OutAt W ha pa hn hc pn pc o) : BoxO W.heap.size ha pa hn hc pn pc o (W.alloc (.cells #[.slice ha hn hc, .slice pa pn pc] 70)) :=
  ⟨VRow.new W _ _, h.below ((Below.refl _ _).alloc (Nat.le_refl _) _) (Nat.le_refl _)⟩

end Go.Proofs.YtkddkkcfpnndlaaGreatDoor

namespace Go.Proofs.YtkddkkcfpnndlaaGreatDoor
open Go.RowKit Sale

/-- a reply -/
structure Rep where
  e : Int
  seq : Int
  tok : Int
  ph : Int
  time : Int
  has : Bool
  ba : Option Addr
  bn : Nat
  bc : Nat
  item : Int
  pays : Int
  ca : Option Addr
  cn : Nat
  cc : Nat
def Rep.cells (r : Rep) : List Value := [.int .i64 r.e, .int .u32 r.seq, .int .u64 r.tok, .int .u8 r.ph, .int .u64 r.time, .bool r.has, .slice r.ba r.bn r.bc, .int .i64 r.item, .int .i64 r.pays, .slice r.ca r.cn r.cc]
/-- all but block R is as it was -/
def Stay (R : Nat) (W W' : World) : Prop := W.heap.size ≤ W'.heap.size ∧ ∀ b, b < W.heap.size → b ≠ R → W'.heap[b]? = W.heap[b]?
theorem Stay.of_below {R : Nat} {W W' : World} (h : Below W.heap.size W W') : Stay R W W' := ⟨h.size, fun b hb _ => h.block b hb⟩
theorem Stay.setCell {R : Nat} {W W' : World} (h : Stay R W W') {p : Addr} (hp : p.block = R) (v : Value) : Stay R W (W'.setCell p v) :=
  ⟨by simpa using h.1, fun b hb hne => by rw [heap_setCell_other W' p b v (by omega)]; exact h.2 b hb hne⟩
theorem Stay.put {R : Nat} {W W' : World} (h : Stay R W W') (k : Nat) (v : Value) : Stay R W (W'.setCell ⟨R, k, none⟩ v) := h.setCell rfl v
theorem Stay.cell {R : Nat} {W W' : World} (h : Stay R W W') {b o : Nat} {v : Value} (hne : b ≠ R) (hc : W.cell? ⟨b, o, none⟩ = some v) : W'.cell? ⟨b, o, none⟩ = some v := by
  rw [World.cell?_of_block (a := ⟨b, o, none⟩) (h.2 b (block_lt_of_cell hc) hne)]; exact hc
theorem Ints.stay {R : Nat} {w w' : World} {a : Option Addr} {n c : Nat} {xs : List Int} (h : Ints w a n c xs) (hs : Stay R w w') (hne : 0 < n → ∀ b o, a = some ⟨b, o, none⟩ → b ≠ R) : Ints w' a n c xs :=
  ⟨h.len, h.cap, h.big, h.addr, fun b o e k x hx => hs.cell (hne (by have := (List.getElem?_eq_some_iff.1 hx).1; have := h.len; omega) b o e) (h.cell b o e k x hx), h.bd, h.nil⟩
def rep0 : Rep := ⟨0, 0, 0, 0, 0, false, none, 0, 0, -1, 0, none, 0, 0⟩
/-- what a function that is called with the reply, in the first new block behind w, does -/
def PutsOk (w : World) (g : Nat) (cap : Array Value) (G G' : Rep → World → Prop) : Prop :=
  Enters g ∧ ∀ (W : World) (r : Rep), Below w.heap.size w W → VRow W w.heap.size 79 r.cells → G r W →
    Calls Tryz.prog g (#[.pointer (some ⟨w.heap.size, 0, none⟩)] ++ cap) W fun e W' => e = .returned (.tuple #[]) ∧ ∃ r', VRow W' w.heap.size 79 r'.cells ∧ G' r' W' ∧ Below w.heap.size W W'

theorem reply_results {h : Nat} {v0 v1 v2 v3 v4 v5 v6 v7 v8 v9 : Value} {tmps : Array Value} (t2 : tmps[2]?.getD undef = .pointer (some ⟨h, 0, none⟩)) (W : World) (hO : VRow W h 79 [v0, v1, v2, v3, v4, v5, v6, v7, v8, v9]) :
    (results Tryz.f112 tmps).run Tryz.prog W = .ok (.agg #[v0, v1, v2, v3, v4, v5, v6, v7, v8, v9]) W := by
  have c0 := hO.cell (k := 0) rfl
  have c1 := hO.cell (k := 1) rfl
  have c2 := hO.cell (k := 2) rfl
  have c3 := hO.cell (k := 3) rfl
  have c4 := hO.cell (k := 4) rfl
  have c5 := hO.cell (k := 5) rfl
  have c6 := hO.cell (k := 6) rfl
  have c7 := hO.cell (k := 7) rfl
  have c8 := hO.cell (k := 8) rfl
  have c9 := hO.cell (k := 9) rfl
  simp [results, Tryz.results112, go_sem, t2, c0, c1, c2, c3, c4, c5, c6, c7, c8, c9]

set_option maxRecDepth 100000 in
set_option maxHeartbeats 1000000 in
theorem reply_any (l : List (Nat × Array Value)) (b o n c : Nat) (w : World) (G : Nat → Rep → World → Prop) (hl : l.length = n) (hn : n ≤ 1000) (hc : ∀ k s, l[k]? = some s → w.cell? ⟨b, o + k, none⟩ = some (.func (.func s.1) #[] s.2))
    (hs : ∀ k s, l[k]? = some s → PutsOk w s.1 s.2 (G k) (G (k + 1))) (h0 : ∀ W, G 0 rep0 W) (hG : ∀ k r (W W' : World), Below w.heap.size w W → Stay w.heap.size W W' → G k r W → G k r W') :
    Calls Tryz.prog 112 #[.slice (some ⟨b, o, none⟩) n c] w fun e w' => ∃ r : Rep, e = .returned (.agg r.cells.toArray) ∧ G n r w' ∧ Below w.heap.size w w' := by
  have hb0 : Below w.heap.size w (w.alloc (.cells #[.int .i64 0, .int .u32 0, .int .u64 0, .int .u8 0, .int .u64 0, .bool false, .slice none 0 0, .int .i64 (-1), .int .i64 0, .slice none 0 0] 79)) := (Below.refl _ _).alloc (Nat.le_refl _) _
  have hv0 := VRow.new w 79 rep0.cells
  rw [show rep0.cells.toArray = #[.int .i64 0, .int .u32 0, .int .u64 0, .int .u8 0, .int .u64 0, .bool false, .slice none 0 0, .int .i64 (-1), .int .i64 0, .slice none 0 0] from rfl] at hv0
  have H0 := Lib.hid (And.intro hb0 hv0)
  have HC := Lib.hid hc
  have HS := Lib.hid hs
  have HL := Lib.hid hl
  have HG := Lib.hid hG
  have H00 := Lib.hid h0
  clear hb0 hv0 hc hs hl hG h0
  go_enter Tryz.func112, Tryz.ntmps112
  go_wp2_with fail
  obtain ⟨W0, hW0⟩ : ∃ W0, W0 = w.alloc (.cells #[.int .i64 0, .int .u32 0, .int .u64 0, .int .u8 0, .int .u64 0, .bool false, .slice none 0 0, .int .i64 (-1), .int .i64 0, .slice none 0 0] 79) := ⟨_, rfl⟩
  rw [← hW0] at H0 ⊢
  clear hW0
  go_loopg [8] n (fun g' s8 wr => ∃ (k : Nat) (r : Rep), k + g' = n ∧ s8 = .int .i64 k ∧ VRow wr w.heap.size 79 r.cells ∧ G k r wr ∧ Below w.heap.size w wr)
  case atStart => exact ⟨0, rep0, by omega, rfl, H0.out.2, H00.out _, H0.out.1⟩
  case round =>
    obtain ⟨k, r, hk, rfl, hv, hg, hb⟩ := hrel
    have HK := Lib.hid hk; clear hk
    by_cases hlt : k < n
    · obtain ⟨s, hs⟩ : ∃ s, l[k]? = some s := ⟨_, List.getElem?_eq_getElem (by rw [HL.out]; exact hlt)⟩
      obtain ⟨sg, scap⟩ := s
      have cs : wr.cell? ⟨b, o + k, none⟩ = some (.func (.func sg) #[] scap) := cell_step (w := w) hb (HC.out k _ hs)
      obtain ⟨hen, hcall⟩ := HS.out k _ hs
      unfold Enters at hen
      have hal : Below wr.heap.size wr (wr.alloc (.cells #[.func (.func sg) #[] scap] 134)) := (Below.refl _ _).alloc (Nat.le_refl _) _
      have HCA := Lib.hid (hcall _ r (hb.trans (hal.mono hb.size)) (hv.step hal) (HG.out k r wr _ hb (Stay.of_below hal) hg))
      have HB := Lib.hid (hb.trans (hal.mono hb.size))
      clear hs hcall hal hv hb hg
      go_wp2_with fail
      refine HCA.out.mono ?_
      rintro e w1 ⟨rfl, r', hv1, hg1, hb1⟩
      have HB1 := Lib.hid (And.intro hv1 (And.intro hg1 (HB.out.trans hb1))); clear hv1 hb1 hg1 hen cs HCA
      go_wp2_with fail
      go_roundg (gk - 1)
      case measure => have := HK.out; omega
      case rel => exact ⟨k + 1, r', by have := HK.out; omega, by go_num, HB1.out.1, HB1.out.2.1, HB1.out.2.2⟩
    · obtain rfl : k = n := by have := HK.out; omega
      obtain ⟨e, seq, tok, ph, time, has, ba, bn, bc, item, pays, ca, cn, cc⟩ := r
      have c0 := hv.cell (k := 0) rfl
      have c1 := hv.cell (k := 1) rfl
      have c2 := hv.cell (k := 2) rfl
      have c3 := hv.cell (k := 3) rfl
      have c4 := hv.cell (k := 4) rfl
      have c5 := hv.cell (k := 5) rfl
      have c6 := hv.cell (k := 6) rfl
      have c7 := hv.cell (k := 7) rfl
      have c8 := hv.cell (k := 8) rfl
      have c9 := hv.cell (k := 9) rfl
      have f0 := hv.frozen 0
      have f1 := hv.frozen 1
      have f2 := hv.frozen 2
      have f3 := hv.frozen 3
      have f4 := hv.frozen 4
      have f5 := hv.frozen 5
      have f6 := hv.frozen 6
      have f7 := hv.frozen 7
      have f8 := hv.frozen 8
      have f9 := hv.frozen 9
      have HV := Lib.hid (And.intro hv (And.intro hb hg)); clear hv hb hg
      go_wp2_with fail
      have hv2 := ((((((((((HV.out.1.set 0 (.int .i64 e)).set 1 (.int .u32 seq)).set 2 (.int .u64 tok)).set 3 (.int .u8 ph)).set 4 (.int .u64 time)).set 5 (.bool has)).set 6 (.slice ba bn bc)).set 7 (.int .i64 item)).set 8 (.int .i64 pays)).set 9 (.slice ca cn cc))
      refine bodyPost_ret (reply_results rfl _ hv2) rfl ⟨⟨e, seq, tok, ph, time, has, ba, bn, bc, item, pays, ca, cn, cc⟩, rfl, HG.out _ _ wr _ HV.out.2.1 ?_ HV.out.2.2, ?_⟩
      · exact (((((((((((Stay.of_below (Below.refl _ wr)).put 0 _).put 1 _).put 2 _).put 3 _).put 4 _).put 5 _).put 6 _).put 7 _).put 8 _).put 9 _)
      · exact ((((((((((HV.out.2.1.setCell (by simp) _).setCell (by simp) _).setCell (by simp) _).setCell (by simp) _).setCell (by simp) _).setCell (by simp) _).setCell (by simp) _).setCell (by simp) _).setCell (by simp) _).setCell (by simp) _)
end Go.Proofs.YtkddkkcfpnndlaaGreatDoor

namespace Go.Proofs.YtkddkkcfpnndlaaGreatDoor
open Go.RowKit Sale

/-- what Result sets -/
def resRep (o : Outc) (i : Int) : Rep := { rep0 with item := o.has.getD i.toNat (-1), pays := paysV o i }
def GRes (o : Outc) (i : Int) (k : Nat) (r : Rep) (_ : World) : Prop := r = if k = 0 then rep0 else resRep o i

set_option maxRecDepth 100000 in
set_option maxHeartbeats 2000000 in
theorem setRes_ok {w : World} {Bo Bi : Nat} {ha pa : Option Addr} {hn hc pn pc : Nat} {o : Outc} {i : Nat} (ho : BoxO Bo ha pa hn hc pn pc o w) (hi : VRow w Bi 3 [.int .i64 (i : Int)]) (hlt : i < hn) :
    PutsOk w 113 #[.pointer (some ⟨Bo, 0, none⟩), .pointer (some ⟨Bi, 0, none⟩)] (GRes o i 0) (GRes o i 1) := by
  refine ⟨enters_of Tryz.func113 (by kernel_rfl) rfl, fun W r hb hv hr => ?_⟩
  obtain rfl : r = rep0 := hr
  show Calls Tryz.prog 113 #[.pointer (some ⟨w.heap.size, 0, none⟩), .pointer (some ⟨Bo, 0, none⟩), .pointer (some ⟨Bi, 0, none⟩)] W _
  obtain ⟨x, hx, _⟩ := ho.out.has.get hlt
  obtain ⟨hb', ho', rfl⟩ := ho.out.has.addr (by omega)
  have hbig := ho.out.has.big
  have hol := ho.row.lt
  have hil := hi.lt
  have hoW := ho.step hb
  have hiW := hi.step hb
  have hxl := ho.out.has.lt (by omega) rfl
  have k0 := hoW.row.cell (k := 0) rfl
  have k1 := hoW.row.cell (k := 1) rfl
  have ki := hiW.cell (k := 0) rfl
  have cx := hoW.out.has.cell hb' ho' rfl i x hx
  have hRl := hv.lt
  have hx' : o.has.getD (i : Int).toNat (-1) = x := by rw [Int.toNat_natCast]; rw [List.getD_eq_getElem?_getD, hx]; rfl
  have HX := Lib.hid (And.intro hx' hx)
  have HP := Lib.hid (pays_any (some ⟨hb', ho', none⟩) pa hn hc pn pc o (i : Int) W.drew (hoW.out.below ((Below.refl _ _).drew) (Nat.le_refl _)))
  have HV := Lib.hid (And.intro hv (And.intro hoW (And.intro hiW hb)))
  clear ho hi hx hx' hv hoW hiW hb
  obtain ⟨pv, hpv⟩ : ∃ pv, pv = paysV o (i : Int) := ⟨_, rfl⟩
  rw [← hpv] at HP
  have HPV := Lib.hid hpv; clear hpv
  have i0 : (0 : Int) ≤ (i : Int) := by omega
  have i1 : (i : Int) < (hn : Int) := by omega
  go_enter Tryz.func113, Tryz.ntmps113
  go_wp2_with fail
  go_region_held3 (fun w' => w'.cell? ⟨Bo, 0, none⟩ = some (.slice (some ⟨hb', ho', none⟩) hn hc) ∧ w'.cell? ⟨Bo, 1, none⟩ = some (.slice pa pn pc) ∧ w'.cell? ⟨Bi, 0, none⟩ = some (.int .i64 (i : Int)) ∧ w'.cell? ⟨hb', ho' + i, none⟩ = some (.int .i64 x))
    (first | (go_split_ands; refine ⟨?_, ?_, ?_, ?_⟩ <;> first | assumption | go_keep) | go_keep)
    ((go_at_call 53; refine HP.out.mono ?_; rintro e' w3 ⟨rfl, hb3⟩; have q0 := cell_step hb3 k0; have q1 := cell_step hb3 k1; have q2 := cell_step hb3 ki; have q3 := cell_step hb3 cx; have hv3 := (HV.out.1.drew).step hb3; have q4 := hv3.cell (k := 7) rfl; have q5 := hv3.frozen 7; have q6 := hv3.cell (k := 8) rfl; have q7 := hv3.frozen 8; have hv4 := hv3.set 7 (.int .i64 x); have q8 := hv4.cell (k := 8) rfl; have q9 := hv4.frozen 8; have r0 := (World.cell?_setCell_far w3 ⟨w.heap.size, 7, none⟩ ⟨Bo, 0, none⟩ (.int .i64 x) (by simp; omega)).trans q0; have r1 := (World.cell?_setCell_far w3 ⟨w.heap.size, 7, none⟩ ⟨Bo, 1, none⟩ (.int .i64 x) (by simp; omega)).trans q1; have r2 := (World.cell?_setCell_far w3 ⟨w.heap.size, 7, none⟩ ⟨Bi, 0, none⟩ (.int .i64 x) (by simp; omega)).trans q2; have r3 := (World.cell?_setCell_far w3 ⟨w.heap.size, 7, none⟩ ⟨hb', ho' + i, none⟩ (.int .i64 x) (by simp; omega)).trans q3; have u0 := (World.cell?_setCell_far _ ⟨w.heap.size, 8, none⟩ ⟨Bo, 0, none⟩ (.int .i64 pv) (by simp; omega)).trans r0; have u1 := (World.cell?_setCell_far _ ⟨w.heap.size, 8, none⟩ ⟨Bo, 1, none⟩ (.int .i64 pv) (by simp; omega)).trans r1; have u2 := (World.cell?_setCell_far _ ⟨w.heap.size, 8, none⟩ ⟨Bi, 0, none⟩ (.int .i64 pv) (by simp; omega)).trans r2; have u3 := (World.cell?_setCell_far _ ⟨w.heap.size, 8, none⟩ ⟨hb', ho' + i, none⟩ (.int .i64 pv) (by simp; omega)).trans r3))
  go_wp2_with fail
  refine bodyPost_end (results_none rfl _ _ _) rfl ?_
  have hv3 := (HV.out.1.drew).step hb3
  have hbw : Below w.heap.size W w3 := (Below.refl w.heap.size W).drew.trans (hb3.mono (by simpa using HV.out.2.2.2.size))
  refine ⟨rfl, resRep o i, ?_, rfl, (hbw.setCell (by simp) _).setCell (by simp) _⟩
  have h := (hv3.set 7 (.int .i64 x)).set 8 (.int .i64 pv)
  rw [show resRep o (i : Int) = { rep0 with item := x, pays := pv } by unfold resRep; rw [HX.out.1, HPV.out]]
  exact h
end Go.Proofs.YtkddkkcfpnndlaaGreatDoor

namespace Go.Proofs.YtkddkkcfpnndlaaGreatDoor
open Go.RowKit Sale

def rep00 : Rep := ⟨0, 0, 0, 0, 0, false, none, 0, 0, 0, 0, none, 0, 0⟩
/-- may Result tell? -/
def seesB (m : Mkt) (o : Outc) (i : Int) : Bool := decide (0 ≤ i ∧ i < (m.bids.length : Int) ∧ i < (o.has.length : Int))
/-- the world in which Result begins -/
def rs0 (w : World) (ra ba oa ha pa : Option Addr) (rn rc bn bc on oc hn hc pn pc : Nat) (i : Int) : World :=
  (((w.alloc (.cells #[.slice ra rn rc, .slice ba bn bc, .slice oa on oc] 57)).alloc (.cells #[.slice ha hn hc, .slice pa pn pc] 70)).alloc (.cells #[.int .i64 i] 3)).alloc (.cells #[.int .i64 0, .int .u32 0, .int .u64 0, .int .u8 0, .int .u64 0, .bool false, .slice none 0 0, .int .i64 0, .int .i64 0, .slice none 0 0] 79)
structure RsAt (w : World) (ra ba oa ha pa : Option Addr) (rn rc bn bc on oc hn hc pn pc : Nat) (i : Int) (o : Outc) (W : World) : Prop where
  b1 : VRow W w.heap.size 57 [.slice ra rn rc, .slice ba bn bc, .slice oa on oc]
  b2 : BoxO (w.heap.size + 1) ha pa hn hc pn pc o W
  b3 : VRow W (w.heap.size + 1 + 1) 3 [.int .i64 i]
  b4 : VRow W (w.heap.size + 1 + 1 + 1) 79 rep00.cells
  below : Below w.heap.size w W
theorem RsAt.step {w : World} {ra ba oa ha pa : Option Addr} {rn rc bn bc on oc hn hc pn pc : Nat} {i : Int} {o : Outc} {W W' : World} (h : RsAt w ra ba oa ha pa rn rc bn bc on oc hn hc pn pc i o W) (hb : Below W.heap.size W W') : RsAt w ra ba oa ha pa rn rc bn bc on oc hn hc pn pc i o W' :=
  ⟨h.b1.step hb, h.b2.step hb, h.b3.step hb, h.b4.step hb, h.below.trans (hb.mono h.below.size)⟩
theorem rs0_at (w : World) (ra ba oa ha pa : Option Addr) (rn rc bn bc on oc hn hc pn pc : Nat) (i : Int) (o : Outc) (ho : OutAt w ha pa hn hc pn pc o) : RsAt w ra ba oa ha pa rn rc bn bc on oc hn hc pn pc i o (rs0 w ra ba oa ha pa rn rc bn bc on oc hn hc pn pc i) ∧ (rs0 w ra ba oa ha pa rn rc bn bc on oc hn hc pn pc i).heap.size = w.heap.size + 1 + 1 + 1 + 1 := by
  have h1 := VRow.new w 57 [.slice ra rn rc, .slice ba bn bc, .slice oa on oc]
  have hb1 : Below w.heap.size w (w.alloc (.cells #[.slice ra rn rc, .slice ba bn bc, .slice oa on oc] 57)) := (Below.refl _ _).alloc (Nat.le_refl _) _
  obtain ⟨W1, hW1⟩ : ∃ W1, W1 = w.alloc (.cells #[.slice ra rn rc, .slice ba bn bc, .slice oa on oc] 57) := ⟨_, rfl⟩
  have z1 : W1.heap.size = w.heap.size + 1 := by rw [hW1]; simp
  have h2 := BoxO.new (ho.below hb1 (Nat.le_refl _))
  rw [show (List.toArray [Value.slice ra rn rc, .slice ba bn bc, .slice oa on oc]) = #[.slice ra rn rc, .slice ba bn bc, .slice oa on oc] from rfl, ← hW1] at h1
  rw [← hW1] at hb1 h2
  rw [z1] at h2
  obtain ⟨W2, hW2⟩ : ∃ W2, W2 = W1.alloc (.cells #[.slice ha hn hc, .slice pa pn pc] 70) := ⟨_, rfl⟩
  have z2 : W2.heap.size = w.heap.size + 1 + 1 := by rw [hW2]; simp [z1]
  have hb2 : Below W1.heap.size W1 W2 := by rw [hW2]; exact (Below.refl _ _).alloc (Nat.le_refl _) _
  rw [← hW2] at h2
  have h3 := VRow.new W2 3 [.int .i64 i]
  obtain ⟨W3, hW3⟩ : ∃ W3, W3 = W2.alloc (.cells #[.int .i64 i] 3) := ⟨_, rfl⟩
  have z3 : W3.heap.size = w.heap.size + 1 + 1 + 1 := by rw [hW3]; simp [z2]
  have hb3 : Below W2.heap.size W2 W3 := by rw [hW3]; exact (Below.refl _ _).alloc (Nat.le_refl _) _
  rw [show (List.toArray [Value.int .i64 i]) = #[.int .i64 i] from rfl, ← hW3, z2] at h3
  have h4 := VRow.new W3 79 rep00.cells
  obtain ⟨W4, hW4⟩ : ∃ W4, W4 = W3.alloc (.cells rep00.cells.toArray 79) := ⟨_, rfl⟩
  have hb4 : Below W3.heap.size W3 W4 := by rw [hW4]; exact (Below.refl _ _).alloc (Nat.le_refl _) _
  have z4 : W4.heap.size = w.heap.size + 1 + 1 + 1 + 1 := by rw [hW4]; simp [z3]
  rw [← hW4, z3] at h4
  have e : rs0 w ra ba oa ha pa rn rc bn bc on oc hn hc pn pc i = W4 := by rw [hW4, hW3, hW2, hW1]; rfl
  rw [e]
  exact ⟨⟨((h1.step hb2).step hb3).step hb4, (h2.step hb3).step hb4, h3.step hb4, h4, ((hb1.trans (hb2.mono (by omega))).trans (hb3.mono (by omega))).trans (hb4.mono (by omega))⟩, z4⟩

theorem res_results {h : Nat} {tmps : Array Value} {e : Int} (r : Rep) (t6 : tmps[6]?.getD undef = .pointer (some ⟨h, 0, none⟩)) (t7 : tmps[7]?.getD undef = .int .i64 e) (W : World) (hO : VRow W h 79 r.cells) :
    (results Tryz.f36 tmps).run Tryz.prog W = .ok (.tuple #[.agg r.cells.toArray, .int .i64 e]) W := by
  have c0 := hO.cell (k := 0) rfl
  have c1 := hO.cell (k := 1) rfl
  have c2 := hO.cell (k := 2) rfl
  have c3 := hO.cell (k := 3) rfl
  have c4 := hO.cell (k := 4) rfl
  have c5 := hO.cell (k := 5) rfl
  have c6 := hO.cell (k := 6) rfl
  have c7 := hO.cell (k := 7) rfl
  have c8 := hO.cell (k := 8) rfl
  have c9 := hO.cell (k := 9) rfl
  simp [results, Tryz.results36, go_sem, t6, t7, c0, c1, c2, c3, c4, c5, c6, c7, c8, c9, Rep.cells]

set_option maxRecDepth 100000 in
set_option maxHeartbeats 2000000 in
theorem result_any (ra ba oa ha pa : Option Addr) (rn rc bn bc on oc hn hc pn pc : Nat) (m : Mkt) (o : Outc) (i : Int) (w : World) (hm : MktAt w ra ba oa rn rc bn bc on oc m) (ho : OutAt w ha pa hn hc pn pc o) (hib : -9223372036854775808 ≤ i ∧ i ≤ 9223372036854775807) :
    Calls Tryz.prog 36 #[.agg #[.slice ra rn rc, .slice ba bn bc, .slice oa on oc], .agg #[.slice ha hn hc, .slice pa pn pc], .int .i64 i] w fun e w' =>
      e = .returned (.tuple #[.agg (if seesB m o i then resRep o i else rep00).cells.toArray, .int .i64 (if seesB m o i then 0 else 1)]) ∧ Below w.heap.size w w' := by
  obtain ⟨hA, hz⟩ := rs0_at w ra ba oa ha pa rn rc bn bc on oc hn hc pn pc i o ho
  have hbl := hm.bids.len
  have hhl := ho.has.len
  have hbb := hm.bids.big
  have hhb := ho.has.big
  have k3 := hA.b3.cell (k := 0) rfl
  have k1 := hA.b1.cell (k := 1) rfl
  have k2 := hA.b2.row.cell (k := 0) rfl
  have r4 := hA.b4
  clear hm ho
  have HA := Lib.hid (And.intro hA hz); clear hA hz
  by_cases h : seesB m o i = true
  · rw [h]
    have hr := h
    unfold seesB at hr
    rw [decide_eq_true_eq, hbl, hhl] at hr
    obtain ⟨h0, h1, h2⟩ := hr
    obtain ⟨j, rfl⟩ := Int.eq_ofNat_of_zero_le h0
    clear h r4
    have d0 : decide ((j : Int) < 0) = false := by simp
    have d1 : decide ((bn : Int) ≤ (j : Int)) = false := by simp; omega
    have d2 : decide ((hn : Int) ≤ (j : Int)) = false := by simp; omega
    have d3 : decide (bn ≤ j) = false := by simp; omega
    have d4 : decide (hn ≤ j) = false := by simp; omega
    clear hbl hhl
    go_enter Tryz.func36, Tryz.ntmps36
    go_wp2_with fail
    obtain ⟨W5, hW5⟩ : ∃ W5, W5 = (rs0 w ra ba oa ha pa rn rc bn bc on oc hn hc pn pc (j : Int)).alloc (.cells #[.func (.func 113) #[] #[.pointer (some ⟨w.heap.size + 1, 0, none⟩), .pointer (some ⟨w.heap.size + 1 + 1, 0, none⟩)]] 134) := ⟨_, rfl⟩
    have hal : Below (rs0 w ra ba oa ha pa rn rc bn bc on oc hn hc pn pc (j : Int)).heap.size (rs0 w ra ba oa ha pa rn rc bn bc on oc hn hc pn pc (j : Int)) W5 := by rw [hW5]; exact (Below.refl _ _).alloc (Nat.le_refl _) _
    have hA5 := HA.out.1.step hal
    have hcf : W5.cell? ⟨w.heap.size + 1 + 1 + 1 + 1, 0, none⟩ = some (.func (.func 113) #[] #[.pointer (some ⟨w.heap.size + 1, 0, none⟩), .pointer (some ⟨w.heap.size + 1 + 1, 0, none⟩)]) := by
      have h := VRow.new (rs0 w ra ba oa ha pa rn rc bn bc on oc hn hc pn pc (j : Int)) 134 [.func (.func 113) #[] #[.pointer (some ⟨w.heap.size + 1, 0, none⟩), .pointer (some ⟨w.heap.size + 1 + 1, 0, none⟩)]]
      rw [HA.out.2] at h
      have := h.cell (k := 0) rfl
      rw [hW5]; exact this
    have hR := reply_any [(113, #[.pointer (some ⟨w.heap.size + 1, 0, none⟩), .pointer (some ⟨w.heap.size + 1 + 1, 0, none⟩)])] (w.heap.size + 1 + 1 + 1 + 1) 0 1 1 W5 (GRes o (j : Int)) rfl (by omega)
      (fun k s hk => by
        cases k with
        | zero => obtain rfl : _ = s := by simpa using hk
                  exact hcf
        | succ k => simp at hk)
      (fun k s hk => by
        cases k with
        | zero => obtain rfl : _ = s := by simpa using hk
                  exact setRes_ok hA5.b2 hA5.b3 (by omega)
        | succ k => simp at hk)
      (fun _ => rfl) (fun _ _ _ _ _ _ h => h)
    have HR := Lib.hid hR
    have H5 := Lib.hid hA5; clear hR hA5 hcf hal
    rw [show ((((w.alloc (.cells #[.slice ra rn rc, .slice ba bn bc, .slice oa on oc] 57)).alloc (.cells #[.slice ha hn hc, .slice pa pn pc] 70)).alloc (.cells #[.int .i64 (j : Int)] 3)).alloc (.cells #[.int .i64 0, .int .u32 0, .int .u64 0, .int .u8 0, .int .u64 0, .bool false, .slice none 0 0, .int .i64 0, .int .i64 0, .slice none 0 0] 79)).alloc (.cells #[.func (.func 113) #[] #[.pointer (some ⟨w.heap.size + 1, 0, none⟩), .pointer (some ⟨w.heap.size + 1 + 1, 0, none⟩)]] 134) = W5 from hW5.symm]
    clear hW5
    refine HR.out.mono ?_
    rintro e w6 ⟨r, rfl, hr, hb6⟩
    obtain rfl : r = resRep o (j : Int) := hr
    have hA6 := H5.out.step hb6
    clear k1 k2 k3 d0 d1 d2 d3 d4 HR
    have c0 := hA6.b4.cell (k := 0) rfl
    have f0 := hA6.b4.frozen 0
    have c1 := hA6.b4.cell (k := 1) rfl
    have f1 := hA6.b4.frozen 1
    have c2 := hA6.b4.cell (k := 2) rfl
    have f2 := hA6.b4.frozen 2
    have c3 := hA6.b4.cell (k := 3) rfl
    have f3 := hA6.b4.frozen 3
    have c4 := hA6.b4.cell (k := 4) rfl
    have f4 := hA6.b4.frozen 4
    have c5 := hA6.b4.cell (k := 5) rfl
    have f5 := hA6.b4.frozen 5
    have c6 := hA6.b4.cell (k := 6) rfl
    have f6 := hA6.b4.frozen 6
    have c7 := hA6.b4.cell (k := 7) rfl
    have f7 := hA6.b4.frozen 7
    have c8 := hA6.b4.cell (k := 8) rfl
    have f8 := hA6.b4.frozen 8
    have c9 := hA6.b4.cell (k := 9) rfl
    have f9 := hA6.b4.frozen 9
    have H6 := Lib.hid hA6; clear hA6 hb6
    obtain ⟨x, hx⟩ : ∃ x, x = o.has.getD (j : Int).toNat (-1) := ⟨_, rfl⟩
    obtain ⟨pv, hpv⟩ : ∃ pv, pv = paysV o (j : Int) := ⟨_, rfl⟩
    have hrr : resRep o (j : Int) = { rep0 with item := x, pays := pv } := by unfold resRep; rw [hx, hpv]
    rw [hrr, show ({ rep0 with item := x, pays := pv } : Rep).cells.toArray = #[.int .i64 0, .int .u32 0, .int .u64 0, .int .u8 0, .int .u64 0, .bool false, .slice none 0 0, .int .i64 x, .int .i64 pv, .slice none 0 0] from rfl]
    have HRR := Lib.hid hrr; clear hrr hx hpv
    go_wp2_with fail
    have hv := ((((((((((H6.out.b4.set 0 (.int .i64 0)).set 1 (.int .u32 0)).set 2 (.int .u64 0)).set 3 (.int .u8 0)).set 4 (.int .u64 0)).set 5 (.bool false)).set 6 (.slice none 0 0)).set 7 (.int .i64 x)).set 8 (.int .i64 pv)).set 9 (.slice none 0 0))
    refine bodyPost_ret (res_results { rep0 with item := x, pays := pv } rfl rfl _ hv) rfl ⟨by rw [HRR.out], ?_⟩
    exact ((((((((((H6.out.below.setCell (by simp; omega) _).setCell (by simp; omega) _).setCell (by simp; omega) _).setCell (by simp; omega) _).setCell (by simp; omega) _).setCell (by simp; omega) _).setCell (by simp; omega) _).setCell (by simp; omega) _).setCell (by simp; omega) _).setCell (by simp; omega) _)
  · have h : seesB m o i = false := by simpa using h
    rw [h]
    have hr := h
    unfold seesB at hr
    rw [decide_eq_false_iff_not, hbl, hhl] at hr
    have hA := HA.out.1
    have c0 := hA.b4.cell (k := 0) rfl
    have f0 := hA.b4.frozen 0
    have c1 := hA.b4.cell (k := 1) rfl
    have f1 := hA.b4.frozen 1
    have c2 := hA.b4.cell (k := 2) rfl
    have f2 := hA.b4.frozen 2
    have c3 := hA.b4.cell (k := 3) rfl
    have f3 := hA.b4.frozen 3
    have c4 := hA.b4.cell (k := 4) rfl
    have f4 := hA.b4.frozen 4
    have c5 := hA.b4.cell (k := 5) rfl
    have f5 := hA.b4.frozen 5
    have c6 := hA.b4.cell (k := 6) rfl
    have f6 := hA.b4.frozen 6
    have c7 := hA.b4.cell (k := 7) rfl
    have f7 := hA.b4.frozen 7
    have c8 := hA.b4.cell (k := 8) rfl
    have f8 := hA.b4.frozen 8
    have c9 := hA.b4.cell (k := 9) rfl
    have f9 := hA.b4.frozen 9
    have HR := Lib.hid hr
    clear r4 hA h hbl hhl hr
    by_cases h0 : i < 0
    · have d0 : decide (i < 0) = true := by simpa using h0
      clear h0
      go_enter Tryz.func36, Tryz.ntmps36
      go_wp2_with fail
      exact bodyPost_ret (res_results rep00 rfl rfl _ HA.out.1.b4) rfl ⟨rfl, HA.out.1.below⟩
    · have d0 : decide (i < 0) = false := by simpa using h0
      by_cases h1 : (bn : Int) ≤ i
      · have d1 : decide ((bn : Int) ≤ i) = true := by simpa using h1
        clear h0 h1
        go_enter Tryz.func36, Tryz.ntmps36
        go_wp2_with fail
        exact bodyPost_ret (res_results rep00 rfl rfl _ HA.out.1.b4) rfl ⟨rfl, HA.out.1.below⟩
      · have d1 : decide ((bn : Int) ≤ i) = false := by simpa using h1
        have h2 : (hn : Int) ≤ i := by have := HR.out; omega
        have d2 : decide ((hn : Int) ≤ i) = true := by simpa using h2
        clear h0 h1 h2
        go_enter Tryz.func36, Tryz.ntmps36
        go_wp2_with fail
        exact bodyPost_ret (res_results rep00 rfl rfl _ HA.out.1.b4) rfl ⟨rfl, HA.out.1.below⟩
end Go.Proofs.YtkddkkcfpnndlaaGreatDoor

namespace Go.Proofs.YtkddkkcfpnndlaaGreatDoor
open Go.RowKit Sale

def statRep (p now : Int) : Rep := { rep0 with ph := p, time := now }
def GStat (p now : Int) (k : Nat) (r : Rep) (_ : World) : Prop := r = if k = 0 then rep0 else statRep p now

set_option maxRecDepth 100000 in
set_option maxHeartbeats 2000000 in
theorem setStat_ok {w : World} {Bp Bn : Nat} {p now : Int} (hp : VRow w Bp 71 [.int .u8 p]) (hn : VRow w Bn 72 [.int .u64 now]) :
    PutsOk w 116 #[.pointer (some ⟨Bp, 0, none⟩), .pointer (some ⟨Bn, 0, none⟩)] (GStat p now 0) (GStat p now 1) := by
  refine ⟨enters_of Tryz.func116 (by kernel_rfl) rfl, fun W r hb hv hr => ?_⟩
  obtain rfl : r = rep0 := hr
  show Calls Tryz.prog 116 #[.pointer (some ⟨w.heap.size, 0, none⟩), .pointer (some ⟨Bp, 0, none⟩), .pointer (some ⟨Bn, 0, none⟩)] W _
  have hpl := hp.lt
  have hnl := hn.lt
  have kp := (hp.step hb).cell (k := 0) rfl
  have kn := (hn.step hb).cell (k := 0) rfl
  have hRl := hv.lt
  have q4 := hv.cell (k := 3) rfl
  have q5 := hv.frozen 3
  have q6 := hv.cell (k := 4) rfl
  have q7 := hv.frozen 4
  have HV := Lib.hid (And.intro hv hb)
  clear hp hn hv
  have hbs := hb.size
  clear hb
  go_enter Tryz.func116, Tryz.ntmps116
  go_wp2_with fail
  go_region
  go_wp2_with fail
  refine bodyPost_end (results_none rfl _ _ _) rfl ?_
  refine ⟨rfl, statRep p now, ?_, rfl, ((((Below.refl w.heap.size W).setCell (p := ⟨w.heap.size, 3, none⟩) (by simp) _).setCell (p := ⟨w.heap.size, 4, none⟩) (by simp) _).drew)⟩
  exact ((HV.out.1.set 3 (.int .u8 p)).set 4 (.int .u64 now)).drew

theorem stat_results {h : Nat} {tmps : Array Value} (r : Rep) (t4 : tmps[4]?.getD undef = .pointer (some ⟨h, 0, none⟩)) (W : World) (hO : VRow W h 79 r.cells) :
    (results Tryz.f43 tmps).run Tryz.prog W = .ok (.agg r.cells.toArray) W := by
  have c0 := hO.cell (k := 0) rfl
  have c1 := hO.cell (k := 1) rfl
  have c2 := hO.cell (k := 2) rfl
  have c3 := hO.cell (k := 3) rfl
  have c4 := hO.cell (k := 4) rfl
  have c5 := hO.cell (k := 5) rfl
  have c6 := hO.cell (k := 6) rfl
  have c7 := hO.cell (k := 7) rfl
  have c8 := hO.cell (k := 8) rfl
  have c9 := hO.cell (k := 9) rfl
  simp [results, Tryz.results43, go_sem, t4, c0, c1, c2, c3, c4, c5, c6, c7, c8, c9, Rep.cells]

set_option maxRecDepth 100000 in
set_option maxHeartbeats 2000000 in
theorem status_any (p now : Int) (w : World) : Calls Tryz.prog 43 #[.int .u8 p, .int .u64 now] w fun e w' => e = .returned (.agg (statRep p now).cells.toArray) ∧ Below w.heap.size w w' := by
  have h1 := VRow.new w 71 [.int .u8 p]
  obtain ⟨W1, hW1⟩ : ∃ W1, W1 = w.alloc (.cells #[.int .u8 p] 71) := ⟨_, rfl⟩
  have z1 : W1.heap.size = w.heap.size + 1 := by rw [hW1]; simp
  have hb1 : Below w.heap.size w W1 := by rw [hW1]; exact (Below.refl _ _).alloc (Nat.le_refl _) _
  rw [show (List.toArray [Value.int .u8 p]) = #[.int .u8 p] from rfl, ← hW1] at h1
  have h2 := VRow.new W1 72 [.int .u64 now]
  obtain ⟨W2, hW2⟩ : ∃ W2, W2 = W1.alloc (.cells #[.int .u64 now] 72) := ⟨_, rfl⟩
  have z2 : W2.heap.size = w.heap.size + 1 + 1 := by rw [hW2]; simp [z1]
  have hb2 : Below W1.heap.size W1 W2 := by rw [hW2]; exact (Below.refl _ _).alloc (Nat.le_refl _) _
  rw [show (List.toArray [Value.int .u64 now]) = #[.int .u64 now] from rfl, ← hW2, z1] at h2
  have h3 := VRow.new W2 79 rep00.cells
  obtain ⟨W3, hW3⟩ : ∃ W3, W3 = W2.alloc (.cells rep00.cells.toArray 79) := ⟨_, rfl⟩
  have z3 : W3.heap.size = w.heap.size + 1 + 1 + 1 := by rw [hW3]; simp [z2]
  have hb3 : Below W2.heap.size W2 W3 := by rw [hW3]; exact (Below.refl _ _).alloc (Nat.le_refl _) _
  rw [← hW3, z2] at h3
  have h4 := VRow.new W3 134 [.func (.func 116) #[] #[.pointer (some ⟨w.heap.size, 0, none⟩), .pointer (some ⟨w.heap.size + 1, 0, none⟩)]]
  obtain ⟨W4, hW4⟩ : ∃ W4, W4 = W3.alloc (.cells #[.func (.func 116) #[] #[.pointer (some ⟨w.heap.size, 0, none⟩), .pointer (some ⟨w.heap.size + 1, 0, none⟩)]] 134) := ⟨_, rfl⟩
  have hb4 : Below W3.heap.size W3 W4 := by rw [hW4]; exact (Below.refl _ _).alloc (Nat.le_refl _) _
  rw [show (List.toArray [(.func (.func 116) #[] #[.pointer (some ⟨w.heap.size, 0, none⟩), .pointer (some ⟨w.heap.size + 1, 0, none⟩)] : Value)]) = #[.func (.func 116) #[] #[.pointer (some ⟨w.heap.size, 0, none⟩), .pointer (some ⟨w.heap.size + 1, 0, none⟩)]] from rfl, ← hW4, z3] at h4
  have k1 := ((h1.step hb2).step hb3).step hb4
  have k2 := (h2.step hb3).step hb4
  have k3 := h3.step hb4
  have hbw : Below w.heap.size w W4 := ((hb1.trans (hb2.mono (by omega))).trans (hb3.mono (by omega))).trans (hb4.mono (by omega))
  have hcf := h4.cell (k := 0) rfl
  have e : (((w.alloc (.cells #[.int .u8 p] 71)).alloc (.cells #[.int .u64 now] 72)).alloc (.cells #[.int .i64 0, .int .u32 0, .int .u64 0, .int .u8 0, .int .u64 0, .bool false, .slice none 0 0, .int .i64 0, .int .i64 0, .slice none 0 0] 79)).alloc (.cells #[.func (.func 116) #[] #[.pointer (some ⟨w.heap.size, 0, none⟩), .pointer (some ⟨w.heap.size + 1, 0, none⟩)]] 134) = W4 := by rw [hW4, hW3, hW2, hW1]; rfl
  have hR := reply_any [(116, #[.pointer (some ⟨w.heap.size, 0, none⟩), .pointer (some ⟨w.heap.size + 1, 0, none⟩)])] (w.heap.size + 1 + 1 + 1) 0 1 1 W4 (GStat p now) rfl (by omega)
    (fun k s hk => by
      cases k with
      | zero => obtain rfl : _ = s := by simpa using hk
                exact hcf
      | succ k => simp at hk)
    (fun k s hk => by
      cases k with
      | zero => obtain rfl : _ = s := by simpa using hk
                exact setStat_ok k1 k2
      | succ k => simp at hk)
    (fun _ => rfl) (fun _ _ _ _ _ _ h => h)
  have HR := Lib.hid hR
  have H4 := Lib.hid (And.intro k3 hbw)
  have HE := Lib.hid e
  clear hR e k1 k2 k3 hbw hcf h1 h2 h3 h4 hb1 hb2 hb3 hb4 z1 z2 z3 hW1 hW2 hW3 hW4
  go_enter Tryz.func43, Tryz.ntmps43
  go_wp2_with fail
  rw [HE.out]
  refine HR.out.mono ?_
  rintro e w6 ⟨r, rfl, hr, hb6⟩
  obtain rfl : r = statRep p now := hr
  have hA6 := H4.out.1.step hb6
  have hbw := H4.out.2.trans (hb6.mono H4.out.2.size)
  have c0 := hA6.cell (k := 0) rfl
  have f0 := hA6.frozen 0
  have c1 := hA6.cell (k := 1) rfl
  have f1 := hA6.frozen 1
  have c2 := hA6.cell (k := 2) rfl
  have f2 := hA6.frozen 2
  have c3 := hA6.cell (k := 3) rfl
  have f3 := hA6.frozen 3
  have c4 := hA6.cell (k := 4) rfl
  have f4 := hA6.frozen 4
  have c5 := hA6.cell (k := 5) rfl
  have f5 := hA6.frozen 5
  have c6 := hA6.cell (k := 6) rfl
  have f6 := hA6.frozen 6
  have c7 := hA6.cell (k := 7) rfl
  have f7 := hA6.frozen 7
  have c8 := hA6.cell (k := 8) rfl
  have f8 := hA6.frozen 8
  have c9 := hA6.cell (k := 9) rfl
  have f9 := hA6.frozen 9
  have H6 := Lib.hid (And.intro hA6 hbw); clear hA6 hb6 hbw HR
  rw [show (statRep p now).cells.toArray = #[.int .i64 0, .int .u32 0, .int .u64 0, .int .u8 p, .int .u64 now, .bool false, .slice none 0 0, .int .i64 (-1), .int .i64 0, .slice none 0 0] from rfl]
  go_wp2_with fail
  have hv := ((((((((((H6.out.1.set 0 (.int .i64 0)).set 1 (.int .u32 0)).set 2 (.int .u64 0)).set 3 (.int .u8 p)).set 4 (.int .u64 now)).set 5 (.bool false)).set 6 (.slice none 0 0)).set 7 (.int .i64 (-1))).set 8 (.int .i64 0)).set 9 (.slice none 0 0))
  refine bodyPost_ret (stat_results (statRep p now) rfl _ hv) rfl ⟨rfl, ?_⟩
  exact ((((((((((H6.out.2.setCell (by simp; omega) _).setCell (by simp; omega) _).setCell (by simp; omega) _).setCell (by simp; omega) _).setCell (by simp; omega) _).setCell (by simp; omega) _).setCell (by simp; omega) _).setCell (by simp; omega) _).setCell (by simp; omega) _).setCell (by simp; omega) _)
end Go.Proofs.YtkddkkcfpnndlaaGreatDoor

namespace Go.Proofs.YtkddkkcfpnndlaaGreatDoor
open Go.RowKit Sale

/-- a record in memory -/
structure RecAt (W : World) (B : Nat) (seq : Int) (st : Bool) (ra : Option Addr) (rn rc : Nat) (bid : List Int) : Prop where
  row : VRow W B 68 [.int .u32 seq, .bool st, .slice ra rn rc]
  bid : Ints W ra rn rc bid
theorem RecAt.step {W W' : World} {B : Nat} {seq : Int} {st : Bool} {ra : Option Addr} {rn rc : Nat} {bid : List Int} (h : RecAt W B seq st ra rn rc bid) (hb : Below W.heap.size W W') : RecAt W' B seq st ra rn rc bid :=
  ⟨h.row.step hb, h.bid.below hb (Nat.le_refl _)⟩
def GMine (R : Nat) (seq : Int) (rn : Nat) (bid : List Int) (k : Nat) (r : Rep) (W : World) : Prop :=
  (k = 0 ∧ r = rep0) ∨ (k = 1 ∧ r = { rep0 with seq := seq }) ∨ (k = 2 ∧ ∃ a : Option Addr, r = { rep0 with seq := seq, has := true, ba := a, bn := rn, bc := rn } ∧ Ints W a rn rn bid ∧ ∀ b o, a = some ⟨b, o, none⟩ → R < b)
theorem GMine.stay {R : Nat} {seq : Int} {rn : Nat} {bid : List Int} {k : Nat} {r : Rep} {W W' : World} (h : GMine R seq rn bid k r W) (hs : Stay R W W') : GMine R seq rn bid k r W' := by
  rcases h with h | h | ⟨hk, a, hr, hi, hb⟩
  · exact .inl h
  · exact .inr (.inl h)
  · exact .inr (.inr ⟨hk, a, hr, hi.stay hs (fun _ b o e => by have := hb b o e; omega), hb⟩)

end Go.Proofs.YtkddkkcfpnndlaaGreatDoor

namespace Go.Proofs.YtkddkkcfpnndlaaGreatDoor
open Go.RowKit Sale

theorem infoSet : (Tryz.prog.info? 134).map (fun i => (i.zero, i.size, i.bytes)) = some (some (.agg #[.nilFunc]), 1, 8) := by kernel_rfl
/-- 'append(l, s)' at functions that set something -/
theorem appSet {ops : Array Oper} {rest : List Oper} {o : Oper} {a : Act} {Q : Exit → Act → World → Prop} (w : World) (hgd : o.guard = none) (s x : Operand)
    (ho : o.op = .call { callee := .builtin .append, args := #[s, x], argTypes := #[135, 135] })
    (base : Nat) (v : Value) (n : Nat) (vals : List Value) (hs : a.eval s = v) (hown : w.ownsRow base 134 1 v n vals) (b off c : Nat) (f : Fn) (c0 c1 : Array Value) (hx : a.eval x = .slice (some ⟨b, off, none⟩) 1 c)
    (hc : w.cell? ⟨b, off, none⟩ = some (.func f c0 c1)) (hlen : n < 1000000000000) (hbase : base ≤ w.heap.size)
    (h : ∀ g cap w', w'.ownsRow base 134 1 (.slice (some ⟨g, 0, none⟩) (n + 1) cap) (n + 1) (vals ++ [.func f c0 c1]) → Below base w w' → wpList Tryz.prog ops Q rest (a.put o.dst (.slice (some ⟨g, 0, none⟩) (n + 1) cap)) w') : wpList Tryz.prog ops Q (o :: rest) a w := by
  obtain ⟨i0, hi, hz0, hz1, hz2⟩ := info_parts infoSet
  refine wpList_append_own w hgd s x _ ho base 134 i0 _ 1 8 Tryz.underlying135 hi hz0 hz1 hz2 rfl (by decide) v n _ hs hown ⟨b, off, none⟩ 1 c [.func f c0 c1] hx rfl ?_ ?_ ?_ ?_ hbase ?_
  · intro j u hu
    cases j with
    | zero => simp at hu; subst hu; simpa [Addr.add] using hc
    | succ j => simp at hu
  · intro u hu; simp at hu; subst hu; rfl
  · unfold maxLen; omega
  · omega
  · intro v' w' hown' hg hnil
    have hne : v' ≠ .slice none 0 0 := fun e => by have := (hnil.1 e).2; omega
    rcases hown'.2 with ⟨e, _⟩ | ⟨g, cap, cur, hv, r⟩
    · exact absurd e hne
    · subst hv
      exact h g cap w' hown' ((Below.refl base w).grown hg hbase fun k hk => (World.ownsRow.lt hown k hk).1)
theorem ownsSet_cell {w : World} {base g n cap : Nat} {vals : List Value} (h : w.ownsRow base 134 1 (.slice (some ⟨g, 0, none⟩) n cap) n vals) {k : Nat} {v : Value} (hk : vals[k]? = some v) : w.cell? ⟨g, 0 + k, none⟩ = some v := by
  obtain ⟨h1, h2⟩ := h
  rcases h2 with ⟨e, _⟩ | ⟨g', cap', cur, e, hg, hh, hc, hm, hs, ht⟩
  · cases e
  · cases e
    have hkl := (List.getElem?_eq_some_iff.1 hk).1
    rw [cell_of_row w g _ cur _ _ hh, Nat.zero_add]
    have h5 : (cur.toList.take (n * 1))[k]? = some v := by rw [ht]; exact hk
    rw [List.getElem?_take_of_lt (by omega)] at h5
    simpa using h5

/-- what Mine tells -/
def mineRep (seq : Int) (st : Bool) (a : Option Addr) (rn : Nat) : Rep := if st then { rep0 with seq := seq, has := true, ba := a, bn := rn, bc := rn } else { rep0 with seq := seq }
theorem mine_results {h : Nat} {tmps : Array Value} (r : Rep) (t2 : tmps[2]?.getD undef = .pointer (some ⟨h, 0, none⟩)) (W : World) (hO : VRow W h 79 r.cells) :
    (results Tryz.f35 tmps).run Tryz.prog W = .ok (.agg r.cells.toArray) W := by
  have c0 := hO.cell (k := 0) rfl
  have c1 := hO.cell (k := 1) rfl
  have c2 := hO.cell (k := 2) rfl
  have c3 := hO.cell (k := 3) rfl
  have c4 := hO.cell (k := 4) rfl
  have c5 := hO.cell (k := 5) rfl
  have c6 := hO.cell (k := 6) rfl
  have c7 := hO.cell (k := 7) rfl
  have c8 := hO.cell (k := 8) rfl
  have c9 := hO.cell (k := 9) rfl
  simp [results, Tryz.results35, go_sem, t2, c0, c1, c2, c3, c4, c5, c6, c7, c8, c9, Rep.cells]

/-- the world in which Mine's first function lies in its list -/
structure MnAt (w : World) (seq : Int) (st : Bool) (ra : Option Addr) (rn rc : Nat) (bid : List Int) (W : World) : Prop where
  rec' : RecAt W w.heap.size seq st ra rn rc bid
  out : VRow W (w.heap.size + 1) 79 rep00.cells
  lst : VRow W (w.heap.size + 1 + 1) 134 [.func (.func 109) #[] #[.pointer (some ⟨w.heap.size, 0, none⟩)]]
  below : Below w.heap.size w W
theorem MnAt.step {w : World} {seq : Int} {st : Bool} {ra : Option Addr} {rn rc : Nat} {bid : List Int} {W W' : World} (h : MnAt w seq st ra rn rc bid W) (hb : Below W.heap.size W W') : MnAt w seq st ra rn rc bid W' :=
  ⟨h.rec'.step hb, h.out.step hb, h.lst.step hb, h.below.trans (hb.mono h.below.size)⟩
def mn0 (w : World) (seq : Int) (st : Bool) (ra : Option Addr) (rn rc : Nat) : World :=
  ((w.alloc (.cells #[.int .u32 seq, .bool st, .slice ra rn rc] 68)).alloc (.cells #[.int .i64 0, .int .u32 0, .int .u64 0, .int .u8 0, .int .u64 0, .bool false, .slice none 0 0, .int .i64 0, .int .i64 0, .slice none 0 0] 79)).alloc (.cells #[.func (.func 109) #[] #[.pointer (some ⟨w.heap.size, 0, none⟩)]] 134)
theorem mn0_at (w : World) (seq : Int) (st : Bool) (ra : Option Addr) (rn rc : Nat) (bid : List Int) (h : Ints w ra rn rc bid) : MnAt w seq st ra rn rc bid (mn0 w seq st ra rn rc) ∧ (mn0 w seq st ra rn rc).heap.size = w.heap.size + 1 + 1 + 1 := by
  have h1 := VRow.new w 68 [.int .u32 seq, .bool st, .slice ra rn rc]
  obtain ⟨W1, hW1⟩ : ∃ W1, W1 = w.alloc (.cells #[.int .u32 seq, .bool st, .slice ra rn rc] 68) := ⟨_, rfl⟩
  have z1 : W1.heap.size = w.heap.size + 1 := by rw [hW1]; simp
  have hb1 : Below w.heap.size w W1 := by rw [hW1]; exact (Below.refl _ _).alloc (Nat.le_refl _) _
  rw [show (List.toArray [Value.int .u32 seq, .bool st, .slice ra rn rc]) = #[.int .u32 seq, .bool st, .slice ra rn rc] from rfl, ← hW1] at h1
  have h2 := VRow.new W1 79 rep00.cells
  obtain ⟨W2, hW2⟩ : ∃ W2, W2 = W1.alloc (.cells rep00.cells.toArray 79) := ⟨_, rfl⟩
  have z2 : W2.heap.size = w.heap.size + 1 + 1 := by rw [hW2]; simp [z1]
  have hb2 : Below W1.heap.size W1 W2 := by rw [hW2]; exact (Below.refl _ _).alloc (Nat.le_refl _) _
  rw [← hW2, z1] at h2
  have h3 := VRow.new W2 134 [.func (.func 109) #[] #[.pointer (some ⟨w.heap.size, 0, none⟩)]]
  obtain ⟨W3, hW3⟩ : ∃ W3, W3 = W2.alloc (.cells #[.func (.func 109) #[] #[.pointer (some ⟨w.heap.size, 0, none⟩)]] 134) := ⟨_, rfl⟩
  have z3 : W3.heap.size = w.heap.size + 1 + 1 + 1 := by rw [hW3]; simp [z2]
  have hb3 : Below W2.heap.size W2 W3 := by rw [hW3]; exact (Below.refl _ _).alloc (Nat.le_refl _) _
  rw [show (List.toArray [(Value.func (.func 109) #[] #[.pointer (some ⟨w.heap.size, 0, none⟩)])]) = #[.func (.func 109) #[] #[.pointer (some ⟨w.heap.size, 0, none⟩)]] from rfl, ← hW3, z2] at h3
  have e : mn0 w seq st ra rn rc = W3 := by rw [hW3, hW2, hW1]; rfl
  rw [e]
  have hbw := (hb1.trans (hb2.mono (by omega))).trans (hb3.mono (by omega))
  exact ⟨⟨⟨(h1.step hb2).step hb3, h.below hbw (Nat.le_refl _)⟩, h2.step hb3, h3, hbw⟩, z3⟩
end Go.Proofs.YtkddkkcfpnndlaaGreatDoor

namespace Go.Proofs.YtkddkkcfpnndlaaGreatDoor
open Go.RowKit

def m2 : Mkt := ⟨[0, 0], [[4, 4], [4, 4], [3, 0]], [0, 1, 2]⟩
structure M2At (w : World) (N : Nat) (W : World) : Prop where
  mkt : MktAt W (some ⟨N, 0, none⟩) (some ⟨N + 1 + 1 + 1 + 1, 0, none⟩) (some ⟨N + 1 + 1 + 1 + 1 + 1, 0, none⟩) 2 2 3 3 3 3 m2
  row : VRow W (N + 1 + 1 + 1 + 1 + 1 + 1) 57 [.slice (some ⟨N, 0, none⟩) 2 2, .slice (some ⟨N + 1 + 1 + 1 + 1, 0, none⟩) 3 3, .slice (some ⟨N + 1 + 1 + 1 + 1 + 1, 0, none⟩) 3 3]
  below : Below w.heap.size w W
theorem M2At.step {w W W' : World} {N : Nat} (h : M2At w N W) (hb : Below W.heap.size W W') : M2At w N W' :=
  ⟨h.mkt.below hb (Nat.le_refl _), h.row.below hb h.row.lt, h.below.trans (hb.mono h.below.size)⟩
end Go.Proofs.YtkddkkcfpnndlaaGreatDoor

namespace Go.Proofs.YtkddkkcfpnndlaaGreatDoor
open Go.RowKit Sale

theorem outM_m1 : outM m1 = ⟨[0, -1], [5]⟩ := by
  have h1 : leastM m1 = [5] := by rw [leastM_at 1 (by omega) (by decide +kernel)]; decide +kernel
  have h2 : hasM m1 = [0, -1] := by decide +kernel
  unfold outM; rw [h1, h2]
end Go.Proofs.YtkddkkcfpnndlaaGreatDoor

namespace Go.Proofs.YtkddkkcfpnndlaaGreatDoor
open Go.RowKit Sale

/-- the chapter's outcome -/
abbrev outOne : Outc := ⟨[0, -1], [5]⟩
theorem seen0 : (if seesB m1 outOne 0 then resRep outOne 0 else rep00).cells.toArray = #[.int .i64 0, .int .u32 0, .int .u64 0, .int .u8 0, .int .u64 0, .bool false, .slice none 0 0, .int .i64 0, .int .i64 5, .slice none 0 0] := rfl
theorem seen1 : (if seesB m1 outOne 1 then resRep outOne 1 else rep00).cells.toArray = #[.int .i64 0, .int .u32 0, .int .u64 0, .int .u8 0, .int .u64 0, .bool false, .slice none 0 0, .int .i64 (-1), .int .i64 0, .slice none 0 0] := rfl
theorem seen2 : (if seesB m1 outOne 2 then resRep outOne 2 else rep00).cells.toArray = #[.int .i64 0, .int .u32 0, .int .u64 0, .int .u8 0, .int .u64 0, .bool false, .slice none 0 0, .int .i64 0, .int .i64 0, .slice none 0 0] := rfl

theorem stat_time (W : World) : (Instr.field 79 (.agg #[.int .i64 0, .int .u32 0, .int .u64 0, .int .u8 1, .int .u64 7, .bool false, .slice none 0 0, .int .i64 (-1), .int .i64 0, .slice none 0 0]) 4).run Tryz.prog W = .ok (.int .u64 7) W := by
  unfold Instr.field
  simp [go_sem, asAgg]
set_option maxRecDepth 100000 in
set_option maxHeartbeats 4000000 in
theorem lives24_any (w : World) : Calls Tryz.prog 32 #[] w fun e w' => e = .returned (.bool true) ∧ Below w.heap.size w w' := by
  have H0 := Lib.hid (m1_at w)
  have c0 := H0.out.row.cell (k := 0) rfl
  have c1 := H0.out.row.cell (k := 1) rfl
  have c2 := H0.out.row.cell (k := 2) rfl
  go_enter Tryz.func32, Tryz.ntmps32
  go_wp2_with fail
  refine (Oof_yes _ _ _ 1 1 2 2 2 2 m1 _ H0.out.mkt (by decide +kernel)).mono ?_
  rw [outM_m1]
  rintro e w3 ⟨ha, pa, hcp, rfl, ho, hb⟩
  have hal : Below w3.heap.size w3 (w3.alloc (.cells #[.slice ha 2 hcp, .slice pa 1 1] 70)) := (Below.refl _ _).alloc (Nat.le_refl _) _
  have hm3 := (H0.out.step hb).step hal
  have ho3 := BoxO.new ho
  clear c0 c1 c2
  have c0 := hm3.row.cell (k := 0) rfl
  have c1 := hm3.row.cell (k := 1) rfl
  have c2 := hm3.row.cell (k := 2) rfl
  have p0 := ho3.row.cell (k := 0) rfl
  have p1 := ho3.row.cell (k := 1) rfl
  have hR := result_any _ _ _ ha pa 1 1 2 2 2 2 2 hcp 1 1 m1 outOne 0 _ hm3.mkt ho3.out (by omega)
  rw [seen0, show (if seesB m1 outOne 0 then (0 : Int) else 1) = 0 from rfl] at hR
  have HR := Lib.hid hR
  have H3 := Lib.hid (And.intro hm3 ho3); clear hm3 ho3 hb hal ho H0 hR
  go_wp2_with fail
  refine HR.out.mono ?_
  rintro e w4 ⟨rfl, hb⟩
  have hal : Below w4.heap.size w4 (w4.alloc (.cells #[.int .i64 0, .int .u32 0, .int .u64 0, .int .u8 0, .int .u64 0, .bool false, .slice none 0 0, .int .i64 0, .int .i64 5, .slice none 0 0] 79)) := (Below.refl _ _).alloc (Nat.le_refl _) _
  have hm4 := (H3.out.1.step hb).step hal
  have ho4 := (H3.out.2.step hb).step hal
  have ha4 := VRow.new w4 79 [.int .i64 0, .int .u32 0, .int .u64 0, .int .u8 0, .int .u64 0, .bool false, .slice none 0 0, .int .i64 0, .int .i64 5, .slice none 0 0]
  clear c0 c1 c2 p0 p1
  have c0 := hm4.row.cell (k := 0) rfl
  have c1 := hm4.row.cell (k := 1) rfl
  have c2 := hm4.row.cell (k := 2) rfl
  have p0 := ho4.row.cell (k := 0) rfl
  have p1 := ho4.row.cell (k := 1) rfl
  have hR := result_any _ _ _ ha pa 1 1 2 2 2 2 2 hcp 1 1 m1 outOne 1 _ hm4.mkt ho4.out (by omega)
  rw [seen1, show (if seesB m1 outOne 1 then (0 : Int) else 1) = 0 from rfl] at hR
  have HR2 := Lib.hid hR
  have H4 := Lib.hid (And.intro hm4 (And.intro ho4 ha4)); clear hm4 ho4 ha4 hb hal H3 hR HR
  go_wp2_with fail
  refine HR2.out.mono ?_
  rintro e w5 ⟨rfl, hb⟩
  have hal : Below w5.heap.size w5 (w5.alloc (.cells #[.int .i64 0, .int .u32 0, .int .u64 0, .int .u8 0, .int .u64 0, .bool false, .slice none 0 0, .int .i64 (-1), .int .i64 0, .slice none 0 0] 79)) := (Below.refl _ _).alloc (Nat.le_refl _) _
  have hm5 := (H4.out.1.step hb).step hal
  have ho5 := (H4.out.2.1.step hb).step hal
  have ha5 := (H4.out.2.2.step hb).step hal
  have hb5 := VRow.new w5 79 [.int .i64 0, .int .u32 0, .int .u64 0, .int .u8 0, .int .u64 0, .bool false, .slice none 0 0, .int .i64 (-1), .int .i64 0, .slice none 0 0]
  clear c0 c1 c2 p0 p1
  have c0 := hm5.row.cell (k := 0) rfl
  have c1 := hm5.row.cell (k := 1) rfl
  have c2 := hm5.row.cell (k := 2) rfl
  have p0 := ho5.row.cell (k := 0) rfl
  have p1 := ho5.row.cell (k := 1) rfl
  have hR := result_any _ _ _ ha pa 1 1 2 2 2 2 2 hcp 1 1 m1 outOne 2 _ hm5.mkt ho5.out (by omega)
  rw [seen2, show (if seesB m1 outOne 2 then (0 : Int) else 1) = 1 from rfl] at hR
  have HR3 := Lib.hid hR
  have H5 := Lib.hid (And.intro hm5.below (And.intro ha5 hb5)); clear hm5 ho5 ha5 hb5 hb hal H4 hR HR2
  go_wp2_with fail
  refine HR3.out.mono ?_
  rintro e w6 ⟨rfl, hb⟩
  have hal : Below w6.heap.size w6 (w6.alloc (.cells #[.int .i64 0, .int .u32 0, .int .u64 0, .int .u8 0, .int .u64 0, .bool false, .slice none 0 0, .int .i64 0, .int .i64 0, .slice none 0 0] 79)) := (Below.refl _ _).alloc (Nat.le_refl _) _
  have ha6 := (H5.out.2.1.step hb).step hal
  have hb6 := (H5.out.2.2.step hb).step hal
  have hbw := H5.out.1.trans ((hb.trans (hal.mono hb.size)).mono H5.out.1.size)
  clear c0 c1 c2 p0 p1
  have a7 := ha6.cell (k := 7) rfl
  have a8 := ha6.cell (k := 8) rfl
  have b7 := hb6.cell (k := 7) rfl
  have b8 := hb6.cell (k := 8) rfl
  have H6 := Lib.hid hbw; clear ha6 hb6 hbw hb hal H5 HR3
  go_wp2_with fail
  refine (status_any 1 7 _).mono ?_
  rw [show (statRep 1 7).cells.toArray = #[.int .i64 0, .int .u32 0, .int .u64 0, .int .u8 1, .int .u64 7, .bool false, .slice none 0 0, .int .i64 (-1), .int .i64 0, .slice none 0 0] from rfl]
  rintro e w7 ⟨rfl, hb⟩
  have H7 := Lib.hid (H6.out.trans (hb.mono H6.out.size)); clear hb
  have hst := stat_time w7
  go_wp2_with fail
  go_ret
  exact ⟨rfl, H7.out⟩
end Go.Proofs.YtkddkkcfpnndlaaGreatDoor

namespace Go.Proofs.YtkddkkcfpnndlaaGreatDoor
open Go.RowKit Sale

theorem same0bytes_any (a b : Option Addr) (c d : Nat) (w : World) : Calls Tryz.prog 115 #[.slice a 0 c, .slice b 0 d] w fun e w' => e = .returned (.bool true) ∧ Below w.heap.size w w' := by
  go_enter Tryz.func115, Tryz.ntmps115
  go_wp2_with fail
  go_loopg [5] 0 (fun g' s5 wr => g' = 0 ∧ s5 = .int .i64 0 ∧ wr = w)
  case atStart => exact ⟨rfl, rfl, rfl⟩
  case round =>
    obtain ⟨_, rfl, rfl⟩ := hrel
    go_wp2_with fail
    go_ret
    exact ⟨rfl, Below.refl _ _⟩

set_option maxRecDepth 100000 in
set_option maxHeartbeats 2000000 in
theorem sameReply_any (e seq tok ph time : Int) (has : Bool) (xs : List Int) (a b ca cb : Option Addr) (n c d k1 k2 : Nat) (i1 i2 p1 p2 : Int) (w : World) (h1 : Ints w a n c xs) (h2 : Ints w b n d xs) :
    Calls Tryz.prog 41 #[.agg (⟨e, seq, tok, ph, time, has, a, n, c, i1, p1, ca, 0, k1⟩ : Rep).cells.toArray, .agg (⟨e, seq, tok, ph, time, has, b, n, d, i2, p2, cb, 0, k2⟩ : Rep).cells.toArray] w
      fun e w' => e = .returned (.bool (decide (i1 = i2) && decide (p1 = p2))) ∧ Below w.heap.size w w' := by
  have v1 := VRow.new w 79 (⟨e, seq, tok, ph, time, has, a, n, c, i1, p1, ca, 0, k1⟩ : Rep).cells
  obtain ⟨W1, hW1⟩ : ∃ W1, W1 = w.alloc (.cells (⟨e, seq, tok, ph, time, has, a, n, c, i1, p1, ca, 0, k1⟩ : Rep).cells.toArray 79) := ⟨_, rfl⟩
  have z1 : W1.heap.size = w.heap.size + 1 := by rw [hW1]; simp
  have hb1 : Below w.heap.size w W1 := by rw [hW1]; exact (Below.refl _ _).alloc (Nat.le_refl _) _
  rw [← hW1] at v1
  have v2 := VRow.new W1 79 (⟨e, seq, tok, ph, time, has, b, n, d, i2, p2, cb, 0, k2⟩ : Rep).cells
  obtain ⟨W2, hW2⟩ : ∃ W2, W2 = W1.alloc (.cells (⟨e, seq, tok, ph, time, has, b, n, d, i2, p2, cb, 0, k2⟩ : Rep).cells.toArray 79) := ⟨_, rfl⟩
  have hb2 : Below W1.heap.size W1 W2 := by rw [hW2]; exact (Below.refl _ _).alloc (Nat.le_refl _) _
  rw [← hW2, z1] at v2
  have v1' := v1.step hb2
  have hbw := hb1.trans (hb2.mono (by omega))
  have hw : (w.alloc (.cells #[.int .i64 e, .int .u32 seq, .int .u64 tok, .int .u8 ph, .int .u64 time, .bool has, .slice a n c, .int .i64 i1, .int .i64 p1, .slice ca 0 k1] 79)).alloc (.cells #[.int .i64 e, .int .u32 seq, .int .u64 tok, .int .u8 ph, .int .u64 time, .bool has, .slice b n d, .int .i64 i2, .int .i64 p2, .slice cb 0 k2] 79) = W2 := by rw [hW2, hW1]; rfl
  have hS := same_any a b n c n d xs xs W2 (h1.below hbw (Nat.le_refl _)) (h2.below hbw (Nat.le_refl _))
  rw [decide_eq_true rfl] at hS
  have HS := Lib.hid hS
  have c0 := v1'.cell (k := 0) rfl
  have c1 := v1'.cell (k := 1) rfl
  have c2 := v1'.cell (k := 2) rfl
  have c3 := v1'.cell (k := 3) rfl
  have c4 := v1'.cell (k := 4) rfl
  have c5 := v1'.cell (k := 5) rfl
  have c6 := v1'.cell (k := 6) rfl
  have d0 := v2.cell (k := 0) rfl
  have d1 := v2.cell (k := 1) rfl
  have d2 := v2.cell (k := 2) rfl
  have d3 := v2.cell (k := 3) rfl
  have d4 := v2.cell (k := 4) rfl
  have d5 := v2.cell (k := 5) rfl
  have d6 := v2.cell (k := 6) rfl
  have e0 : (e == e) = true := by simp
  have e1 : (seq == seq) = true := by simp
  have e2 : (tok == tok) = true := by simp
  have e3 : (ph == ph) = true := by simp
  have e4 : (time == time) = true := by simp
  have e5 : (has == has) = true := by simp
  have H2 := Lib.hid (And.intro v1' (And.intro v2 hbw))
  have HW := Lib.hid hw
  clear hS v1 v1' v2 hb1 hb2 hbw h1 h2 z1 hW1 hW2 hw
  rw [show (⟨e, seq, tok, ph, time, has, a, n, c, i1, p1, ca, 0, k1⟩ : Rep).cells.toArray = #[.int .i64 e, .int .u32 seq, .int .u64 tok, .int .u8 ph, .int .u64 time, .bool has, .slice a n c, .int .i64 i1, .int .i64 p1, .slice ca 0 k1] from rfl,
    show (⟨e, seq, tok, ph, time, has, b, n, d, i2, p2, cb, 0, k2⟩ : Rep).cells.toArray = #[.int .i64 e, .int .u32 seq, .int .u64 tok, .int .u8 ph, .int .u64 time, .bool has, .slice b n d, .int .i64 i2, .int .i64 p2, .slice cb 0 k2] from rfl]
  go_enter Tryz.func41, Tryz.ntmps41
  go_wp2_with fail
  rw [HW.out]
  refine HS.out.mono ?_
  rintro e' w3 ⟨rfl, hb3⟩
  have v1 := H2.out.1.step hb3
  have v2 := H2.out.2.1.step hb3
  have hbw := H2.out.2.2.trans (hb3.mono H2.out.2.2.size)
  clear c0 c1 c2 c3 c4 c5 c6 d0 d1 d2 d3 d4 d5 d6
  have c7 := v1.cell (k := 7) rfl
  have c8 := v1.cell (k := 8) rfl
  have c9 := v1.cell (k := 9) rfl
  have d7 := v2.cell (k := 7) rfl
  have d8 := v2.cell (k := 8) rfl
  have d9 := v2.cell (k := 9) rfl
  have H3 := Lib.hid hbw; clear v1 v2 hbw hb3 HS H2
  by_cases hi : i1 = i2
  · have f7 : (i1 == i2) = true := by simpa using hi
    by_cases hp : p1 = p2
    · have f8 : (p1 == p2) = true := by simpa using hp
      have HI := Lib.hid (And.intro hi hp); clear hi hp
      go_wp2_with fail
      refine (same0bytes_any ca cb k1 k2 w3).mono ?_
      rintro e' w4 ⟨rfl, hb4⟩
      have H4 := Lib.hid (H3.out.trans (hb4.mono H3.out.size)); clear hb4
      go_wp2_with fail
      go_ret
      exact ⟨ret_bool (by simp [HI.out.1, HI.out.2]), H4.out⟩
    · have f8 : (p1 == p2) = false := by simpa using hp
      have HI := Lib.hid (And.intro hi hp); clear hi hp
      go_wp2_with fail
      go_ret
      exact ⟨ret_bool (by simp [HI.out.2]), H3.out⟩
  · have f7 : (i1 == i2) = false := by simpa using hi
    have HI := Lib.hid hi; clear hi
    go_wp2_with fail
    go_ret
    exact ⟨ret_bool (by simp [HI.out]), H3.out⟩
end Go.Proofs.YtkddkkcfpnndlaaGreatDoor
