/- Walks: salesroomlaw01.SameReply. Walks: the law ViewsOwn. -/
import Derived.Test.YtbnjeegicbffeaaGreatG49
import Derived.Test.YtbnjeegicbffeaaGreatG22
/- Walks: salesroomlaw01.SameReply. -/
namespace Go.Proofs.YtbnjeegicbffeaaGreat
open Go.RowKit Sale

theorem same0bytes_any (a b : Option Addr) (c d : Nat) (w : World) : Calls Tryz.prog 43 #[.slice a 0 c, .slice b 0 d] w fun e w' => e = .returned (.bool true) ∧ Below w.heap.size w w' := by
  go_enter Tryz.func43, Tryz.ntmps43
  go_wp2_with fail
  go_loopg [5] 0 (fun g' s5 wr => g' = 0 ∧ s5 = .int .i64 0 ∧ wr = w)
  case atStart => exact ⟨rfl, rfl, rfl⟩
  case round =>
    obtain ⟨_, rfl, rfl⟩ := hrel
    go_wp2_with fail
    go_ret
    exact ⟨rfl, Below.refl _ _⟩

/-- two replies that tell of no certificate -/
def rw0 (w : World) (r s : Rep) : World := (w.alloc (.cells r.cells.toArray 38)).alloc (.cells s.cells.toArray 38)

set_option maxRecDepth 100000 in
set_option maxHeartbeats 2000000 in
theorem sameReply_any (e seq tok ph time : Int) (has : Bool) (xs : List Int) (a b ca cb : Option Addr) (n c d k1 k2 : Nat) (i1 i2 p1 p2 : Int) (w : World) (h1 : Ints w a n c xs) (h2 : Ints w b n d xs) :
    Calls Tryz.prog 18 #[.agg (⟨e, seq, tok, ph, time, has, a, n, c, i1, p1, ca, 0, k1⟩ : Rep).cells.toArray, .agg (⟨e, seq, tok, ph, time, has, b, n, d, i2, p2, cb, 0, k2⟩ : Rep).cells.toArray] w
      fun e w' => e = .returned (.bool (decide (i1 = i2) && decide (p1 = p2))) ∧ Below w.heap.size w w' := by
  have v1 := VRow.new w 38 (⟨e, seq, tok, ph, time, has, a, n, c, i1, p1, ca, 0, k1⟩ : Rep).cells
  obtain ⟨W1, hW1⟩ : ∃ W1, W1 = w.alloc (.cells (⟨e, seq, tok, ph, time, has, a, n, c, i1, p1, ca, 0, k1⟩ : Rep).cells.toArray 38) := ⟨_, rfl⟩
  have z1 : W1.heap.size = w.heap.size + 1 := by rw [hW1]; simp
  have hb1 : Below w.heap.size w W1 := by rw [hW1]; exact (Below.refl _ _).alloc (Nat.le_refl _) _
  rw [← hW1] at v1
  have v2 := VRow.new W1 38 (⟨e, seq, tok, ph, time, has, b, n, d, i2, p2, cb, 0, k2⟩ : Rep).cells
  obtain ⟨W2, hW2⟩ : ∃ W2, W2 = W1.alloc (.cells (⟨e, seq, tok, ph, time, has, b, n, d, i2, p2, cb, 0, k2⟩ : Rep).cells.toArray 38) := ⟨_, rfl⟩
  have hb2 : Below W1.heap.size W1 W2 := by rw [hW2]; exact (Below.refl _ _).alloc (Nat.le_refl _) _
  rw [← hW2, z1] at v2
  have v1' := v1.step hb2
  have hbw := hb1.trans (hb2.mono (by omega))
  have hw : (w.alloc (.cells #[.int .i64 e, .int .u32 seq, .int .u64 tok, .int .u8 ph, .int .u64 time, .bool has, .slice a n c, .int .i64 i1, .int .i64 p1, .slice ca 0 k1] 38)).alloc (.cells #[.int .i64 e, .int .u32 seq, .int .u64 tok, .int .u8 ph, .int .u64 time, .bool has, .slice b n d, .int .i64 i2, .int .i64 p2, .slice cb 0 k2] 38) = W2 := by rw [hW2, hW1]; rfl
  have hS := same_any a b n c n d xs xs W2 (h1.below hbw (Nat.le_refl _)) (h2.below hbw (Nat.le_refl _))
  rw [decide_eq_true rfl] at hS
  have HS := Lib.hid hS
  have c0 := v1'.cell (k := 0) rfl
  have c1 := v1'.cell (k := 1) rfl
  have c2 := v1'.cell (k := 2) rfl
  have c3 := v1'.cell (k := 3) rfl
  have c4 := v1'.cell (k := 4) rfl
  have c5 := v1'.cell (k := 5) rfl
  have c6 := v1'.cell (k := 6) rfl
  have d0 := v2.cell (k := 0) rfl
  have d1 := v2.cell (k := 1) rfl
  have d2 := v2.cell (k := 2) rfl
  have d3 := v2.cell (k := 3) rfl
  have d4 := v2.cell (k := 4) rfl
  have d5 := v2.cell (k := 5) rfl
  have d6 := v2.cell (k := 6) rfl
  have e0 : (e == e) = true := by simp
  have e1 : (seq == seq) = true := by simp
  have e2 : (tok == tok) = true := by simp
  have e3 : (ph == ph) = true := by simp
  have e4 : (time == time) = true := by simp
  have e5 : (has == has) = true := by simp
  have H2 := Lib.hid (And.intro v1' (And.intro v2 hbw))
  have HW := Lib.hid hw
  clear hS v1 v1' v2 hb1 hb2 hbw h1 h2 z1 hW1 hW2 hw
  rw [show (⟨e, seq, tok, ph, time, has, a, n, c, i1, p1, ca, 0, k1⟩ : Rep).cells.toArray = #[.int .i64 e, .int .u32 seq, .int .u64 tok, .int .u8 ph, .int .u64 time, .bool has, .slice a n c, .int .i64 i1, .int .i64 p1, .slice ca 0 k1] from rfl,
    show (⟨e, seq, tok, ph, time, has, b, n, d, i2, p2, cb, 0, k2⟩ : Rep).cells.toArray = #[.int .i64 e, .int .u32 seq, .int .u64 tok, .int .u8 ph, .int .u64 time, .bool has, .slice b n d, .int .i64 i2, .int .i64 p2, .slice cb 0 k2] from rfl]
  go_enter Tryz.func18, Tryz.ntmps18
  go_wp2_with fail
  rw [HW.out]
  refine HS.out.mono ?_
  rintro e' w3 ⟨rfl, hb3⟩
  have v1 := H2.out.1.step hb3
  have v2 := H2.out.2.1.step hb3
  have hbw := H2.out.2.2.trans (hb3.mono H2.out.2.2.size)
  clear c0 c1 c2 c3 c4 c5 c6 d0 d1 d2 d3 d4 d5 d6
  have c7 := v1.cell (k := 7) rfl
  have c8 := v1.cell (k := 8) rfl
  have c9 := v1.cell (k := 9) rfl
  have d7 := v2.cell (k := 7) rfl
  have d8 := v2.cell (k := 8) rfl
  have d9 := v2.cell (k := 9) rfl
  have H3 := Lib.hid hbw; clear v1 v2 hbw hb3 HS H2
  by_cases hi : i1 = i2
  · have f7 : (i1 == i2) = true := by simpa using hi
    by_cases hp : p1 = p2
    · have f8 : (p1 == p2) = true := by simpa using hp
      have HI := Lib.hid (And.intro hi hp); clear hi hp
      go_wp2_with fail
      refine (same0bytes_any ca cb k1 k2 w3).mono ?_
      rintro e' w4 ⟨rfl, hb4⟩
      have H4 := Lib.hid (H3.out.trans (hb4.mono H3.out.size)); clear hb4
      go_wp2_with fail
      go_ret
      exact ⟨ret_bool (by simp [HI.out.1, HI.out.2]), H4.out⟩
    · have f8 : (p1 == p2) = false := by simpa using hp
      have HI := Lib.hid (And.intro hi hp); clear hi hp
      go_wp2_with fail
      go_ret
      exact ⟨ret_bool (by simp [HI.out.2]), H3.out⟩
  · have f7 : (i1 == i2) = false := by simpa using hi
    have HI := Lib.hid hi; clear hi
    go_wp2_with fail
    go_ret
    exact ⟨ret_bool (by simp [HI.out]), H3.out⟩
end Go.Proofs.YtbnjeegicbffeaaGreat

/- Walks: the law ViewsOwn. -/
namespace Go.Proofs.YtbnjeegicbffeaaGreat
open Go.RowKit Sale

theorem payo_kept {w0 : World} {ha pa : Option Addr} {hn hc pn pc : Nat} {o : Outc} (i : Int) (ho : OutAt w0 ha pa hn hc pn pc o) (y : Kept (Below w0.heap.size w0)) :
    Calls Tryz.prog 17 #[.agg #[.slice ha hn hc, .slice pa pn pc], .int .i64 i] y.w fun e w' => e = .returned (.int .i64 (paysV o i)) ∧ ∃ z : Kept (Below w0.heap.size w0), w' = z.w :=
  Kept.call ((pays_any ha pa hn hc pn pc o i y.w (ho.below y.h (Nat.le_refl _))).mono fun _ _ ⟨h3, h4⟩ => ⟨h3, y.h.trans (h4.mono y.h.size)⟩)

structure SeenAt (w : World) (ea ra ba oa za ya ha pa : Option Addr) (en ec rn rc bn bc on oc zn zc yn yc hn hc pn pc : Nat) (seq : Int) (st : Bool) (m : Mkt) (zo : Outc) (zi ph now : Int) (o : Outc) (W : World) : Prop where
  v : VRow W w.heap.size 34 [.int .u32 seq, .bool st, .slice ea en ec, .slice ra rn rc, .slice ba bn bc, .slice oa on oc, .slice za zn zc, .slice ya yn yc, .int .i64 zi, .int .u8 ph, .int .u64 now]
  o : BoxO (w.heap.size + 1) ha pa hn hc pn pc o W
  mkt : MktAt W ra ba oa rn rc bn bc on oc m
  zo : OutAt W za ya zn zc yn yc zo
  below : Below w.heap.size w W
theorem SeenAt.step {w : World} {ea ra ba oa za ya ha pa : Option Addr} {en ec rn rc bn bc on oc zn zc yn yc hn hc pn pc : Nat} {seq : Int} {st : Bool} {m : Mkt} {zo : Outc} {zi ph now : Int} {o : Outc} {W W' : World}
    (h : SeenAt w ea ra ba oa za ya ha pa en ec rn rc bn bc on oc zn zc yn yc hn hc pn pc seq st m zo zi ph now o W) (hb : Below W.heap.size W W') : SeenAt w ea ra ba oa za ya ha pa en ec rn rc bn bc on oc zn zc yn yc hn hc pn pc seq st m zo zi ph now o W' :=
  ⟨h.v.step hb, h.o.step hb, h.mkt.below hb (Nat.le_refl _), h.zo.below hb (Nat.le_refl _), h.below.trans (hb.mono h.below.size)⟩

theorem res_cells (o : Outc) (i : Int) : (resRep o i).cells.toArray = #[.int .i64 0, .int .u32 0, .int .u64 0, .int .u8 0, .int .u64 0, .bool false, .slice none 0 0, .int .i64 (o.has.getD i.toNat (-1)), .int .i64 (paysV o i), .slice none 0 0] := rfl

set_option maxRecDepth 100000 in
set_option maxHeartbeats 4000000 in
theorem viewsOwn_any (ea ra ba oa za ya ha pa : Option Addr) (en ec rn rc bn bc on oc zn zc yn yc hn hc pn pc : Nat) (seq : Int) (st : Bool) (bid : List Int) (m : Mkt) (zo : Outc) (zi ph now : Int) (o : Outc) (w : World)
    (_he : Ints w ea en ec bid) (_hen : en < 17592186044000) (hm : MktAt w ra ba oa rn rc bn bc on oc m) (hz : OutAt w za ya zn zc yn yc zo) (hzi : -9223372036854775808 ≤ zi ∧ zi ≤ 9223372036854775807) (ho : OutAt w ha pa hn hc pn pc o) :
    Calls Tryz.prog 3 #[.agg #[.int .u32 seq, .bool st, .slice ea en ec, .slice ra rn rc, .slice ba bn bc, .slice oa on oc, .slice za zn zc, .slice ya yn yc, .int .i64 zi, .int .u8 ph, .int .u64 now], .agg #[.slice ha hn hc, .slice pa pn pc]] w fun e w' => e = .returned (.bool true) ∧ Below w.heap.size w w' := by
  have v1 := VRow.new w 34 [.int .u32 seq, .bool st, .slice ea en ec, .slice ra rn rc, .slice ba bn bc, .slice oa on oc, .slice za zn zc, .slice ya yn yc, .int .i64 zi, .int .u8 ph, .int .u64 now]
  have hb1 : Below w.heap.size w (w.alloc (.cells #[.int .u32 seq, .bool st, .slice ea en ec, .slice ra rn rc, .slice ba bn bc, .slice oa on oc, .slice za zn zc, .slice ya yn yc, .int .i64 zi, .int .u8 ph, .int .u64 now] 34)) := (Below.refl _ _).alloc (Nat.le_refl _) _
  have h2 := BoxO.new (ho.below hb1 (Nat.le_refl _))
  rw [show (w.alloc (.cells #[.int .u32 seq, .bool st, .slice ea en ec, .slice ra rn rc, .slice ba bn bc, .slice oa on oc, .slice za zn zc, .slice ya yn yc, .int .i64 zi, .int .u8 ph, .int .u64 now] 34)).heap.size = w.heap.size + 1 by simp] at h2
  have hb2 : Below w.heap.size w ((w.alloc (.cells #[.int .u32 seq, .bool st, .slice ea en ec, .slice ra rn rc, .slice ba bn bc, .slice oa on oc, .slice za zn zc, .slice ya yn yc, .int .i64 zi, .int .u8 ph, .int .u64 now] 34)).alloc (.cells #[.slice ha hn hc, .slice pa pn pc] 30)) := hb1.alloc (by simp) _
  have hS0 : SeenAt w ea ra ba oa za ya ha pa en ec rn rc bn bc on oc zn zc yn yc hn hc pn pc seq st m zo zi ph now o ((w.alloc (.cells #[.int .u32 seq, .bool st, .slice ea en ec, .slice ra rn rc, .slice ba bn bc, .slice oa on oc, .slice za zn zc, .slice ya yn yc, .int .i64 zi, .int .u8 ph, .int .u64 now] 34)).alloc (.cells #[.slice ha hn hc, .slice pa pn pc] 30)) :=
    ⟨VRow.alloc v1 _, h2, hm.below hb2 (Nat.le_refl _), hz.below hb2 (Nat.le_refl _), hb2⟩
  have hzl := hz.has.len
  have hhl := ho.has.len
  have hR1 := result_any ra ba oa za ya rn rc bn bc on oc zn zc yn yc m zo zi _ hS0.mkt hS0.zo hzi
  have k3 := hS0.v.cell (k := 3) rfl
  have k4 := hS0.v.cell (k := 4) rfl
  have k5 := hS0.v.cell (k := 5) rfl
  have k6 := hS0.v.cell (k := 6) rfl
  have k7 := hS0.v.cell (k := 7) rfl
  have k8 := hS0.v.cell (k := 8) rfl
  have HS0 := Lib.hid hS0
  have HM := Lib.hid (And.intro hzl hhl)
  clear v1 hb1 h2 hb2 hS0 hm hz ho hzl hhl
  obtain ⟨x1, hx1⟩ : ∃ x, x = zo.has.getD zi.toNat (-1) := ⟨_, rfl⟩
  obtain ⟨p1, hp1⟩ : ∃ p, p = paysV zo zi := ⟨_, rfl⟩
  obtain ⟨x2, hx2⟩ : ∃ x, x = o.has.getD zi.toNat (-1) := ⟨_, rfl⟩
  obtain ⟨p2, hp2⟩ : ∃ p, p = paysV o zi := ⟨_, rfl⟩
  cases hs1 : seesB m zo zi with
  | false =>
    rw [hs1] at hR1
    clear hs1
    cases hs2 : seesB m o zi with
    | false =>
      have HE2 := Lib.hid hs2; clear hs2
      rw [if_neg (by simp), if_neg (by simp), show rep00.cells.toArray = #[.int .i64 0, .int .u32 0, .int .u64 0, .int .u8 0, .int .u64 0, .bool false, .slice none 0 0, .int .i64 0, .int .i64 0, .slice none 0 0] from rfl] at hR1
      have HR1 := Lib.hid hR1; clear hR1
      have HXP := Lib.hid (And.intro hx1 (And.intro hp1 (And.intro hx2 hp2))); clear hx1 hp1 hx2 hp2
      go_enter Tryz.func3, Tryz.ntmps3
      go_wp2_with fail
      refine HR1.out.mono ?_
      rintro e w2 ⟨rfl, hb⟩
      have hal : Below w2.heap.size w2 (w2.alloc (.cells #[.int .i64 0, .int .u32 0, .int .u64 0, .int .u8 0, .int .u64 0, .bool false, .slice none 0 0, .int .i64 0, .int .i64 0, .slice none 0 0] 38)) := (Below.refl _ _).alloc (Nat.le_refl _) _
      have hS := (HS0.out.step hb).step hal
      have hA := VRow.new w2 38 [.int .i64 0, .int .u32 0, .int .u64 0, .int .u8 0, .int .u64 0, .bool false, .slice none 0 0, .int .i64 0, .int .i64 0, .slice none 0 0]
      have hR2 := result_any ra ba oa ha pa rn rc bn bc on oc hn hc pn pc m o zi _ hS.mkt hS.o.out hzi
      rw [HE2.out, if_neg (by simp), if_neg (by simp), show rep00.cells.toArray = #[.int .i64 0, .int .u32 0, .int .u64 0, .int .u8 0, .int .u64 0, .bool false, .slice none 0 0, .int .i64 0, .int .i64 0, .slice none 0 0] from rfl] at hR2
      clear k3 k4 k5 k6 k7 k8
      have k3 := hS.v.cell (k := 3) rfl
      have k4 := hS.v.cell (k := 4) rfl
      have k5 := hS.v.cell (k := 5) rfl
      have k8 := hS.v.cell (k := 8) rfl
      have p0 := hS.o.row.cell (k := 0) rfl
      have q0 := hS.o.row.cell (k := 1) rfl
      have HR2 := Lib.hid hR2
      have HS2 := Lib.hid (And.intro hS hA); clear hS hA hR2 hb hal HR1 HS0
      go_wp2_with fail
      refine HR2.out.mono ?_
      rintro e w4 ⟨rfl, hb⟩
      have hal : Below w4.heap.size w4 (w4.alloc (.cells #[.int .i64 0, .int .u32 0, .int .u64 0, .int .u8 0, .int .u64 0, .bool false, .slice none 0 0, .int .i64 0, .int .i64 0, .slice none 0 0] 38)) := (Below.refl _ _).alloc (Nat.le_refl _) _
      have hS := (HS2.out.1.step hb).step hal
      clear k3 k4 k5 k8 p0 q0
      have HS4 := Lib.hid hS.below; clear hS hb hal HR2 HS2
      go_wp2_with fail
      refine (lives24_any _).mono ?_
      rintro e w6 ⟨rfl, hb⟩
      have H6 := Lib.hid (HS4.out.trans (hb.mono HS4.out.size)); clear hb
      go_wp2_with fail
      go_ret
      exact ⟨rfl, H6.out⟩
    | true =>
      have HE2 := Lib.hid hs2; clear hs2
      rw [if_neg (by simp), if_neg (by simp), show rep00.cells.toArray = #[.int .i64 0, .int .u32 0, .int .u64 0, .int .u8 0, .int .u64 0, .bool false, .slice none 0 0, .int .i64 0, .int .i64 0, .slice none 0 0] from rfl] at hR1
      have HR1 := Lib.hid hR1; clear hR1
      have HXP := Lib.hid (And.intro hx1 (And.intro hp1 (And.intro hx2 hp2))); clear hx1 hp1 hx2 hp2
      go_enter Tryz.func3, Tryz.ntmps3
      go_wp2_with fail
      refine HR1.out.mono ?_
      rintro e w2 ⟨rfl, hb⟩
      have hal : Below w2.heap.size w2 (w2.alloc (.cells #[.int .i64 0, .int .u32 0, .int .u64 0, .int .u8 0, .int .u64 0, .bool false, .slice none 0 0, .int .i64 0, .int .i64 0, .slice none 0 0] 38)) := (Below.refl _ _).alloc (Nat.le_refl _) _
      have hS := (HS0.out.step hb).step hal
      have hA := VRow.new w2 38 [.int .i64 0, .int .u32 0, .int .u64 0, .int .u8 0, .int .u64 0, .bool false, .slice none 0 0, .int .i64 0, .int .i64 0, .slice none 0 0]
      have hR2 := result_any ra ba oa ha pa rn rc bn bc on oc hn hc pn pc m o zi _ hS.mkt hS.o.out hzi
      rw [HE2.out, if_pos rfl, if_pos rfl, res_cells, ← HXP.out.2.2.1, ← HXP.out.2.2.2] at hR2
      clear k3 k4 k5 k6 k7 k8
      have k3 := hS.v.cell (k := 3) rfl
      have k4 := hS.v.cell (k := 4) rfl
      have k5 := hS.v.cell (k := 5) rfl
      have k8 := hS.v.cell (k := 8) rfl
      have p0 := hS.o.row.cell (k := 0) rfl
      have q0 := hS.o.row.cell (k := 1) rfl
      have HR2 := Lib.hid hR2
      have HS2 := Lib.hid (And.intro hS hA); clear hS hA hR2 hb hal HR1 HS0
      go_wp2_with fail
      refine HR2.out.mono ?_
      rintro e w4 ⟨rfl, hb⟩
      have hal : Below w4.heap.size w4 (w4.alloc (.cells #[.int .i64 0, .int .u32 0, .int .u64 0, .int .u8 0, .int .u64 0, .bool false, .slice none 0 0, .int .i64 x2, .int .i64 p2, .slice none 0 0] 38)) := (Below.refl _ _).alloc (Nat.le_refl _) _
      have hS := (HS2.out.1.step hb).step hal
      clear k3 k4 k5 k8 p0 q0
      have HS4 := Lib.hid hS.below; clear hS hb hal HR2 HS2
      go_wp2_with fail
      refine (lives24_any _).mono ?_
      rintro e w6 ⟨rfl, hb⟩
      have H6 := Lib.hid (HS4.out.trans (hb.mono HS4.out.size)); clear hb
      go_wp2_with fail
      go_ret
      exact ⟨rfl, H6.out⟩
  | true =>
    rw [hs1] at hR1
    cases hs2 : seesB m o zi with
    | false =>
      have HE2 := Lib.hid hs2; clear hs2 hs1
      rw [if_pos rfl, if_pos rfl, res_cells, ← hx1, ← hp1] at hR1
      have HR1 := Lib.hid hR1; clear hR1
      have HXP := Lib.hid (And.intro hx1 (And.intro hp1 (And.intro hx2 hp2))); clear hx1 hp1 hx2 hp2
      go_enter Tryz.func3, Tryz.ntmps3
      go_wp2_with fail
      refine HR1.out.mono ?_
      rintro e w2 ⟨rfl, hb⟩
      have hal : Below w2.heap.size w2 (w2.alloc (.cells #[.int .i64 0, .int .u32 0, .int .u64 0, .int .u8 0, .int .u64 0, .bool false, .slice none 0 0, .int .i64 x1, .int .i64 p1, .slice none 0 0] 38)) := (Below.refl _ _).alloc (Nat.le_refl _) _
      have hS := (HS0.out.step hb).step hal
      have hA := VRow.new w2 38 [.int .i64 0, .int .u32 0, .int .u64 0, .int .u8 0, .int .u64 0, .bool false, .slice none 0 0, .int .i64 x1, .int .i64 p1, .slice none 0 0]
      have hR2 := result_any ra ba oa ha pa rn rc bn bc on oc hn hc pn pc m o zi _ hS.mkt hS.o.out hzi
      rw [HE2.out, if_neg (by simp), if_neg (by simp), show rep00.cells.toArray = #[.int .i64 0, .int .u32 0, .int .u64 0, .int .u8 0, .int .u64 0, .bool false, .slice none 0 0, .int .i64 0, .int .i64 0, .slice none 0 0] from rfl] at hR2
      clear k3 k4 k5 k6 k7 k8
      have k3 := hS.v.cell (k := 3) rfl
      have k4 := hS.v.cell (k := 4) rfl
      have k5 := hS.v.cell (k := 5) rfl
      have k8 := hS.v.cell (k := 8) rfl
      have p0 := hS.o.row.cell (k := 0) rfl
      have q0 := hS.o.row.cell (k := 1) rfl
      have HR2 := Lib.hid hR2
      have HS2 := Lib.hid (And.intro hS hA); clear hS hA hR2 hb hal HR1 HS0
      go_wp2_with fail
      refine HR2.out.mono ?_
      rintro e w4 ⟨rfl, hb⟩
      have hal : Below w4.heap.size w4 (w4.alloc (.cells #[.int .i64 0, .int .u32 0, .int .u64 0, .int .u8 0, .int .u64 0, .bool false, .slice none 0 0, .int .i64 0, .int .i64 0, .slice none 0 0] 38)) := (Below.refl _ _).alloc (Nat.le_refl _) _
      have hS := (HS2.out.1.step hb).step hal
      clear k3 k4 k5 k8 p0 q0
      have HS4 := Lib.hid hS.below; clear hS hb hal HR2 HS2
      go_wp2_with fail
      refine (lives24_any _).mono ?_
      rintro e w6 ⟨rfl, hb⟩
      have H6 := Lib.hid (HS4.out.trans (hb.mono HS4.out.size)); clear hb
      go_wp2_with fail
      go_ret
      exact ⟨rfl, H6.out⟩
    | true =>
      have HE2 := Lib.hid hs2
      unfold seesB at hs1 hs2
      rw [decide_eq_true_eq] at hs1 hs2
      obtain ⟨h0, _, h1⟩ := hs1
      obtain ⟨_, _, h2⟩ := hs2
      rw [HM.out.1] at h1
      rw [HM.out.2] at h2
      obtain ⟨i, rfl⟩ := Int.eq_ofNat_of_zero_le h0
      clear h0
      have d0 : decide ((i : Int) < 0) = false := by simp
      have d1 : decide ((zn : Int) ≤ (i : Int)) = false := by simp; omega
      have d2 : decide ((hn : Int) ≤ (i : Int)) = false := by simp; omega
      have d3 : decide (zn ≤ i) = false := by simp; omega
      have d4 : decide (hn ≤ i) = false := by simp; omega
      rw [if_pos rfl, if_pos rfl, res_cells, ← hx1, ← hp1] at hR1
      have HR1 := Lib.hid hR1; clear hR1
      have HXP := Lib.hid (And.intro hx1 (And.intro hp1 (And.intro hx2 hp2))); clear hx1 hp1 hx2 hp2
      go_enter Tryz.func3, Tryz.ntmps3
      go_wp2_with fail
      refine HR1.out.mono ?_
      rintro e w2 ⟨rfl, hb⟩
      have hal : Below w2.heap.size w2 (w2.alloc (.cells #[.int .i64 0, .int .u32 0, .int .u64 0, .int .u8 0, .int .u64 0, .bool false, .slice none 0 0, .int .i64 x1, .int .i64 p1, .slice none 0 0] 38)) := (Below.refl _ _).alloc (Nat.le_refl _) _
      have hS := (HS0.out.step hb).step hal
      have hA := VRow.new w2 38 [.int .i64 0, .int .u32 0, .int .u64 0, .int .u8 0, .int .u64 0, .bool false, .slice none 0 0, .int .i64 x1, .int .i64 p1, .slice none 0 0]
      have hR2 := result_any ra ba oa ha pa rn rc bn bc on oc hn hc pn pc m o (i : Int) _ hS.mkt hS.o.out hzi
      rw [HE2.out, if_pos rfl, if_pos rfl, res_cells, ← HXP.out.2.2.1, ← HXP.out.2.2.2] at hR2
      clear k3 k4 k5 k6 k7 k8
      have k3 := hS.v.cell (k := 3) rfl
      have k4 := hS.v.cell (k := 4) rfl
      have k5 := hS.v.cell (k := 5) rfl
      have k8 := hS.v.cell (k := 8) rfl
      have p0 := hS.o.row.cell (k := 0) rfl
      have q0 := hS.o.row.cell (k := 1) rfl
      have HR2 := Lib.hid hR2
      have HS2 := Lib.hid (And.intro hS hA); clear hS hA hR2 hb hal HR1 HS0
      go_wp2_with fail
      refine HR2.out.mono ?_
      rintro e w4 ⟨rfl, hb⟩
      have hal : Below w4.heap.size w4 (w4.alloc (.cells #[.int .i64 0, .int .u32 0, .int .u64 0, .int .u8 0, .int .u64 0, .bool false, .slice none 0 0, .int .i64 x2, .int .i64 p2, .slice none 0 0] 38)) := (Below.refl _ _).alloc (Nat.le_refl _) _
      have hS := (HS2.out.1.step hb).step hal
      clear k3 k4 k5 k8 p0 q0
      have hA := (HS2.out.2.step hb).step hal
      have hB := VRow.new w4 38 [.int .i64 0, .int .u32 0, .int .u64 0, .int .u8 0, .int .u64 0, .bool false, .slice none 0 0, .int .i64 x2, .int .i64 p2, .slice none 0 0]
      have k6 := hS.v.cell (k := 6) rfl
      have k7 := hS.v.cell (k := 7) rfl
      have k8 := hS.v.cell (k := 8) rfl
      have p0 := hS.o.row.cell (k := 0) rfl
      have HS4 := Lib.hid (And.intro hS (And.intro hA hB)); clear hS hA hB hb hal HR2 HS2
      obtain ⟨W4, hW4⟩ : ∃ W4, W4 = w4.alloc (.cells #[.int .i64 0, .int .u32 0, .int .u64 0, .int .u8 0, .int .u64 0, .bool false, .slice none 0 0, .int .i64 x2, .int .i64 p2, .slice none 0 0] 38) := ⟨_, rfl⟩
      rw [← hW4] at HS4
      go_wp2_with fail
      rw [← hW4]
      clear hW4 k6 k7 k8 p0
      have hbd : Below W4.heap.size W4 W4.drew := (Below.refl _ _).drew
      have hne : Nonempty (Kept (Below W4.heap.size W4)) := ⟨⟨_, hbd⟩⟩
      have hS := HS4.out.1
      have hg1 : zo.has[i]? = some x1 := by
        have := getD_some (l := zo.has) (k := i) (by rw [HM.out.1]; omega) (-1)
        rw [this, HXP.out.1, Int.toNat_natCast]
      have hg2 : o.has[i]? = some x2 := by
        have := getD_some (l := o.has) (k := i) (by rw [HM.out.2]; omega) (-1)
        rw [this, HXP.out.2.2.1, Int.toNat_natCast]
      obtain ⟨zb, zf, hze⟩ := hS.zo.has.addr (by omega)
      subst hze
      obtain ⟨hb', hf', hhe⟩ := hS.o.out.has.addr (by omega)
      subst hhe
      have k6 : ∀ z : Kept (Below W4.heap.size W4), z.w.cell? ⟨w.heap.size, 6, none⟩ = some (.slice (some ⟨zb, zf, none⟩) zn zc) := fun z => (hS.step z.h).v.cell (k := 6) rfl
      have k7 : ∀ z : Kept (Below W4.heap.size W4), z.w.cell? ⟨w.heap.size, 7, none⟩ = some (.slice ya yn yc) := fun z => (hS.step z.h).v.cell (k := 7) rfl
      have k8 : ∀ z : Kept (Below W4.heap.size W4), z.w.cell? ⟨w.heap.size, 8, none⟩ = some (.int .i64 (i : Int)) := fun z => (hS.step z.h).v.cell (k := 8) rfl
      have p0 : ∀ z : Kept (Below W4.heap.size W4), z.w.cell? ⟨w.heap.size + 1, 0, none⟩ = some (.slice (some ⟨hb', hf', none⟩) hn hc) := fun z => (hS.step z.h).o.row.cell (k := 0) rfl
      have q0 : ∀ z : Kept (Below W4.heap.size W4), z.w.cell? ⟨w.heap.size + 1, 1, none⟩ = some (.slice pa pn pc) := fun z => (hS.step z.h).o.row.cell (k := 1) rfl
      have cx1 : ∀ z : Kept (Below W4.heap.size W4), z.w.cell? ⟨zb, zf + i, none⟩ = some (.int .i64 x1) := fun z => (hS.step z.h).zo.has.cell zb zf rfl i x1 hg1
      have cx2 : ∀ z : Kept (Below W4.heap.size W4), z.w.cell? ⟨hb', hf' + i, none⟩ = some (.int .i64 x2) := fun z => (hS.step z.h).o.out.has.cell hb' hf' rfl i x2 hg2
      have hk1 := fun (z : Kept (Below W4.heap.size W4)) => payo_kept (i : Int) hS.zo z
      have hk2 := fun (z : Kept (Below W4.heap.size W4)) => payo_kept (i : Int) hS.o.out z
      rw [← HXP.out.2.1] at hk1
      rw [← HXP.out.2.2.2] at hk2
      clear hS hg1 hg2
      have i0 : (0 : Int) ≤ (i : Int) := by omega
      have i1 : (i : Int) < (zn : Int) := by omega
      have i2 : (i : Int) < (hn : Int) := by omega
      by_cases hx : x1 = x2
      · have f1 : (x1 == x2) = true := by simpa using hx
        by_cases hp : p1 = p2
        · have f2 : (p1 == p2) = true := by simpa using hp
          have HXX := Lib.hid (And.intro hx hp); clear hx hp
          refine wp_region_kept (Below W4.heap.size W4) (by kernel_rfl) (by kernel_rfl) hbd ?_
          repeat (go_big_quiet_step ((go_at_call 17; first | (with_reducible exact hk1 _) | (with_reducible exact hk2 _))))
          refine wpQuiet_nil ?_
          intro w5 hw'
          obtain ⟨⟨wz, hb5⟩, hwz⟩ := hw'
          obtain rfl : w5 = wz := hwz
          clear k6 k7 k8 p0 q0 cx1 cx2 hk1 hk2 hne
          have hA := HS4.out.2.1.step hb5
          have hB := HS4.out.2.2.step hb5
          have hbw := HS4.out.1.below.trans (hb5.mono HS4.out.1.below.size)
          have a0 := hA.cell (k := 0) rfl
          have a1 := hA.cell (k := 1) rfl
          have a2 := hA.cell (k := 2) rfl
          have a3 := hA.cell (k := 3) rfl
          have a4 := hA.cell (k := 4) rfl
          have a5 := hA.cell (k := 5) rfl
          have a6 := hA.cell (k := 6) rfl
          have a7 := hA.cell (k := 7) rfl
          have a8 := hA.cell (k := 8) rfl
          have a9 := hA.cell (k := 9) rfl
          have b0 := hB.cell (k := 0) rfl
          have b1 := hB.cell (k := 1) rfl
          have b2 := hB.cell (k := 2) rfl
          have b3 := hB.cell (k := 3) rfl
          have b4 := hB.cell (k := 4) rfl
          have b5 := hB.cell (k := 5) rfl
          have b6 := hB.cell (k := 6) rfl
          have b7 := hB.cell (k := 7) rfl
          have b8 := hB.cell (k := 8) rfl
          have b9 := hB.cell (k := 9) rfl
          have hSR := sameReply_any 0 0 0 0 0 false [] none none none none 0 0 0 0 0 x1 x2 p1 p2 w5 (Ints.empty _ _ _) (Ints.empty _ _ _)
          rw [decide_eq_true HXX.out.1, decide_eq_true HXX.out.2, Bool.and_self] at hSR
          have HSR := Lib.hid hSR
          have H5 := Lib.hid hbw; clear hA hB hbw hb5 hSR HS4
          go_wp2_with fail
          refine HSR.out.mono ?_
          rintro e w6 ⟨rfl, hb⟩
          have H6 := Lib.hid (H5.out.trans (hb.mono H5.out.size)); clear hb
          go_wp2_with fail
          refine (lives24_any _).mono ?_
          rintro e w7 ⟨rfl, hb⟩
          have H7 := Lib.hid (H6.out.trans (hb.mono H6.out.size)); clear hb
          go_wp2_with fail
          go_ret
          exact ⟨rfl, H7.out⟩
        · have f2 : (p1 == p2) = false := by simpa using hp
          have HXX := Lib.hid (And.intro hx hp); clear hx hp
          refine wp_region_kept (Below W4.heap.size W4) (by kernel_rfl) (by kernel_rfl) hbd ?_
          repeat (go_big_quiet_step ((go_at_call 17; first | (with_reducible exact hk1 _) | (with_reducible exact hk2 _))))
          refine wpQuiet_nil ?_
          intro w5 hw'
          obtain ⟨⟨wz, hb5⟩, hwz⟩ := hw'
          obtain rfl : w5 = wz := hwz
          clear k6 k7 k8 p0 q0 cx1 cx2 hk1 hk2 hne
          have hA := HS4.out.2.1.step hb5
          have hB := HS4.out.2.2.step hb5
          have hbw := HS4.out.1.below.trans (hb5.mono HS4.out.1.below.size)
          have a0 := hA.cell (k := 0) rfl
          have a1 := hA.cell (k := 1) rfl
          have a2 := hA.cell (k := 2) rfl
          have a3 := hA.cell (k := 3) rfl
          have a4 := hA.cell (k := 4) rfl
          have a5 := hA.cell (k := 5) rfl
          have a6 := hA.cell (k := 6) rfl
          have a7 := hA.cell (k := 7) rfl
          have a8 := hA.cell (k := 8) rfl
          have a9 := hA.cell (k := 9) rfl
          have b0 := hB.cell (k := 0) rfl
          have b1 := hB.cell (k := 1) rfl
          have b2 := hB.cell (k := 2) rfl
          have b3 := hB.cell (k := 3) rfl
          have b4 := hB.cell (k := 4) rfl
          have b5 := hB.cell (k := 5) rfl
          have b6 := hB.cell (k := 6) rfl
          have b7 := hB.cell (k := 7) rfl
          have b8 := hB.cell (k := 8) rfl
          have b9 := hB.cell (k := 9) rfl
          have hSR := sameReply_any 0 0 0 0 0 false [] none none none none 0 0 0 0 0 x1 x2 p1 p2 w5 (Ints.empty _ _ _) (Ints.empty _ _ _)
          rw [decide_eq_true HXX.out.1, decide_eq_false HXX.out.2, Bool.and_false] at hSR
          have HSR := Lib.hid hSR
          have H5 := Lib.hid hbw; clear hA hB hbw hb5 hSR HS4
          go_wp2_with fail
          refine HSR.out.mono ?_
          rintro e w6 ⟨rfl, hb⟩
          have H6 := Lib.hid (H5.out.trans (hb.mono H5.out.size)); clear hb
          go_wp2_with fail
          refine (lives24_any _).mono ?_
          rintro e w7 ⟨rfl, hb⟩
          have H7 := Lib.hid (H6.out.trans (hb.mono H6.out.size)); clear hb
          go_wp2_with fail
          go_ret
          exact ⟨rfl, H7.out⟩
      · have f1 : (x1 == x2) = false := by simpa using hx
        have HXX := Lib.hid hx; clear hx
        refine wp_region_kept (Below W4.heap.size W4) (by kernel_rfl) (by kernel_rfl) hbd ?_
        repeat (go_big_quiet_step ((go_at_call 17; first | (with_reducible exact hk1 _) | (with_reducible exact hk2 _))))
        refine wpQuiet_nil ?_
        intro w5 hw'
        obtain ⟨⟨wz, hb5⟩, hwz⟩ := hw'
        obtain rfl : w5 = wz := hwz
        clear k6 k7 k8 p0 q0 cx1 cx2 hk1 hk2 hne
        have hA := HS4.out.2.1.step hb5
        have hB := HS4.out.2.2.step hb5
        have hbw := HS4.out.1.below.trans (hb5.mono HS4.out.1.below.size)
        have a0 := hA.cell (k := 0) rfl
        have a1 := hA.cell (k := 1) rfl
        have a2 := hA.cell (k := 2) rfl
        have a3 := hA.cell (k := 3) rfl
        have a4 := hA.cell (k := 4) rfl
        have a5 := hA.cell (k := 5) rfl
        have a6 := hA.cell (k := 6) rfl
        have a7 := hA.cell (k := 7) rfl
        have a8 := hA.cell (k := 8) rfl
        have a9 := hA.cell (k := 9) rfl
        have b0 := hB.cell (k := 0) rfl
        have b1 := hB.cell (k := 1) rfl
        have b2 := hB.cell (k := 2) rfl
        have b3 := hB.cell (k := 3) rfl
        have b4 := hB.cell (k := 4) rfl
        have b5 := hB.cell (k := 5) rfl
        have b6 := hB.cell (k := 6) rfl
        have b7 := hB.cell (k := 7) rfl
        have b8 := hB.cell (k := 8) rfl
        have b9 := hB.cell (k := 9) rfl
        have hSR := sameReply_any 0 0 0 0 0 false [] none none none none 0 0 0 0 0 x1 x2 p1 p2 w5 (Ints.empty _ _ _) (Ints.empty _ _ _)
        rw [decide_eq_false HXX.out, Bool.false_and] at hSR
        have HSR := Lib.hid hSR
        have H5 := Lib.hid hbw; clear hA hB hbw hb5 hSR HS4
        go_wp2_with fail
        refine HSR.out.mono ?_
        rintro e w6 ⟨rfl, hb⟩
        have H6 := Lib.hid (H5.out.trans (hb.mono H5.out.size)); clear hb
        go_wp2_with fail
        refine (lives24_any _).mono ?_
        rintro e w7 ⟨rfl, hb⟩
        have H7 := Lib.hid (H6.out.trans (hb.mono H6.out.size)); clear hb
        go_wp2_with fail
        go_ret
        exact ⟨rfl, H7.out⟩
end Go.Proofs.YtbnjeegicbffeaaGreat
