/- FirstsOf: what First and its reference answer; what the law's state keeps. Walks: the law FirstsOf. -/
import Derived.Test.YtkddkkcfpnndlaaGreatDoorFf23
import Derived.Test.YtkddkkcfpnndlaaGreatDoorFf19
import Derived.Test.YtkddkkcfpnndlaaGreatDoorFf27
import Derived.Test.YtkddkkcfpnndlaaGreatDoorFf41
import Derived.Test.YtkddkkcfpnndlaaGreatDoorFf42
import Derived.Test.YtkddkkcfpnndlaaGreatDoorFf43
import Derived.Test.YtkddkkcfpnndlaaGreatDoorFf31
namespace Go.Proofs.YtkddkkcfpnndlaaGreatDoor
open Go.RowKit Sale

/-- what First answers -/
def ansF (gains : List (List Int)) (items : Int) (order : List Int) : List Int := if firstOk gains items order = true then firstOf gains items.toNat (order.map Int.toNat) else []
def ansFE (gains : List (List Int)) (items : Int) (order : List Int) : Int := if firstOk gains items order = true then 0 else 1
/-- an answer in new memory of its own -/
def AnsL (xs : List Int) (err : Int) (w : World) (e : Ending) (w' : World) : Prop :=
  ∃ a n c, e = .returned (.tuple #[.slice a n c, .int .i64 err]) ∧ Ints w' a n c xs ∧ Seg 3 w' w.heap.size w'.heap.size [⟨a, n, c⟩] ∧ n ≤ 8 ∧ Below w.heap.size w w'
theorem ansL_none {w w' : World} {e : Ending} (h : e = .returned (.tuple #[.slice none 0 0, .int .i64 1]) ∧ Below w.heap.size w w') : AnsL [] 1 w e w' :=
  ⟨none, 0, 0, h.1, Ints.empty _ _ _, Seg.one (.inl ⟨rfl, rfl⟩), by omega, h.2⟩
theorem ansL_row {xs : List Int} {n : Nat} {err : Int} {w w' : World} {e : Ending} (h : RetRow err xs n w e w') (hn : n ≤ 8) : AnsL xs err w e w' := by
  obtain ⟨hl, B, rfl, hR, hB, hbd, hb⟩ := h
  have hi := hR.ints (by omega) hbd
  rw [hl] at hi
  exact ⟨_, _, _, rfl, hi, Seg.one (.inr ⟨B, 0, iarr xs, rfl, hB, hR, by simp [iarr, hl], Nat.le_refl _⟩), hn, hb⟩
theorem toNat_back (on : List Nat) : (on.map fun k : Nat => (k : Int)).map Int.toNat = on := by
  rw [List.map_map]
  conv => rhs; rw [← List.map_id on]
  exact List.map_congr_left fun x _ => by simp
theorem first_ans (ga oa : Option Addr) (gn gc o_n oc : Nat) (gains : List (List Int)) (items : Int) (order : List Int) (w : World) (hg : Rows w ga gn gc gains) (ho : Ints w oa o_n oc order) (hsz : o_n ≤ 1000) :
    Calls Tryz.prog 11 #[.slice ga gn gc, .int .i64 items, .slice oa o_n oc] w (AnsL (ansF gains items order) (ansFE gains items order) w) := by
  unfold ansF ansFE
  cases hok : firstOk gains items order with
  | false =>
    rw [if_neg (by decide), if_neg (by decide)]
    exact (First_none ga oa gn gc o_n oc gains items order w hg ho (by omega) hok).mono fun _ _ h => ansL_none h
  | true =>
    rw [if_pos rfl, if_pos rfl]
    simp only [firstOk, Bool.and_eq_true] at hok
    obtain ⟨on, rfl⟩ := order_nat hok.2
    have hw := wcheck_parts hok.1
    obtain ⟨n, rfl⟩ := Int.eq_ofNat_of_zero_le (show 0 ≤ items by omega)
    rw [toNat_back]
    exact (First_row ga oa gn gc o_n oc gains n on w hg ho hok.1 hok.2).mono fun _ _ h => ansL_row h hw.2.2.1
theorem first11_ans (ga oa : Option Addr) (gn gc o_n oc : Nat) (gains : List (List Int)) (items : Int) (order : List Int) (w : World) (hg : Rows w ga gn gc gains) (ho : Ints w oa o_n oc order) (hsz : gn ≤ 17592186044416) :
    Calls Tryz.prog 12 #[.slice ga gn gc, .int .i64 items, .slice oa o_n oc] w (AnsL (ansF gains items order) (ansFE gains items order) w) := by
  unfold ansF ansFE
  have hgl := hg.len
  cases hok : firstOk gains items order with
  | false =>
    rw [if_neg (by decide), if_neg (by decide)]
    exact (first11_no ga oa gn gc o_n oc gains items order w hg ho hsz hok).mono fun _ _ h => ansL_none h
  | true =>
    rw [if_pos rfl, if_pos rfl]
    simp only [firstOk, Bool.and_eq_true] at hok
    obtain ⟨on, rfl⟩ := order_nat hok.2
    have hw := wcheck_parts hok.1
    obtain ⟨n, rfl⟩ := Int.eq_ofNat_of_zero_le (show 0 ≤ items by omega)
    rw [toNat_back]
    exact (first11_yes ga oa gn gc o_n oc gains n on w hg ho hok.1 hok.2).mono fun _ _ h => ansL_row h (by have := hw.2.2.1; omega)

/-- what the law is given, in memory -/
structure FSt (w0 : World) (B1 : Nat) (ga oa : Option Addr) (gn gc o_n oc : Nat) (gains : List (List Int)) (items : Int) (order : List Int) (wr : World) : Prop where
  v : VRow wr B1 24 [.slice ga gn gc, .int .i64 items]
  g : Rows wr ga gn gc gains
  o : Ints wr oa o_n oc order
  below : Below w0.heap.size w0 wr
theorem FSt.step {w0 : World} {B1 : Nat} {ga oa : Option Addr} {gn gc o_n oc : Nat} {gains : List (List Int)} {items : Int} {order : List Int} {wr wr' : World} (h : FSt w0 B1 ga oa gn gc o_n oc gains items order wr) (hb : Below wr.heap.size wr wr') : FSt w0 B1 ga oa gn gc o_n oc gains items order wr' :=
  ⟨h.v.below hb h.v.lt, h.g.below hb (Nat.le_refl _), h.o.below hb (Nat.le_refl _), h.below.trans (hb.mono h.below.size)⟩
/-- the law's copies -/
structure TSt (l5 B c M : Nat) (vals : List Value) (gs : List Nat) (gains : List (List Int)) (l6 g6 c6 : Nat) (order : List Int) (wr : World) : Prop where
  x : RowsF wr l5 B c M vals gs gains
  y : RowF wr l6 g6 c6 order
theorem TSt.step {l5 B c M : Nat} {vals : List Value} {gs : List Nat} {gains : List (List Int)} {l6 g6 c6 : Nat} {order : List Int} {wr wr' : World} (h : TSt l5 B c M vals gs gains l6 g6 c6 order wr) (hb : Below wr.heap.size wr wr') : TSt l5 B c M vals gs gains l6 g6 c6 order wr' :=
  ⟨h.x.below hb (Nat.le_refl _), h.y.below hb (Nat.le_refl _)⟩
/-- lists that lie apart, below a bound -/
structure GSt (lo hi : Nat) (rs : List Slc) (x : Slc) (wr : World) : Prop where
  a : Seg 3 wr lo hi rs
  b : Seg 25 wr lo hi [x]
  le : hi ≤ wr.heap.size
theorem GSt.step {lo hi : Nat} {rs : List Slc} {x : Slc} {wr wr' : World} (h : GSt lo hi rs x wr) (hb : Below wr.heap.size wr wr') : GSt lo hi rs x wr' :=
  ⟨h.a.keep (hb.mono h.le), h.b.keep (hb.mono h.le), Nat.le_trans h.le hb.size⟩
theorem GSt.more {lo hi : Nat} {rs : List Slc} {x y : Slc} {wr : World} (h : GSt lo hi rs x wr) (h2 : Seg 3 wr hi wr.heap.size [y]) (hl : lo ≤ hi) : GSt lo wr.heap.size (rs ++ [y]) x wr :=
  ⟨h.a.append h2 hl h.le, h.b.wide (Nat.le_refl _) h.le, Nat.le_refl _⟩
theorem GSt.wide {lo hi : Nat} {rs : List Slc} {x : Slc} {wr : World} (h : GSt lo hi rs x wr) : GSt lo wr.heap.size rs x wr :=
  ⟨h.a.wide (Nat.le_refl _) h.le, h.b.wide (Nat.le_refl _) h.le, Nat.le_refl _⟩
theorem RowsF.gst {w : World} {base B c M n : Nat} {vals : List Value} {gs : List Nat} {xss : List (List Int)} (h : RowsF w base B c M vals gs xss) (hn : xss.length = n) : GSt base w.heap.size (vals.map toSlc) ⟨some ⟨B, 0, none⟩, n, c⟩ w :=
  ⟨h.seg fun g hg => (h.rows.at' g hg).2.2, h.seg2 hn, Nat.le_refl _⟩
end Go.Proofs.YtkddkkcfpnndlaaGreatDoor

namespace Go.Proofs.YtkddkkcfpnndlaaGreatDoor
open Go.RowKit Sale

set_option maxRecDepth 100000 in
set_option maxHeartbeats 6000000 in
theorem firstsOf_any (ga oa : Option Addr) (gn gc o_n oc : Nat) (gains : List (List Int)) (items : Int) (order : List Int) (w : World) (hg : Rows w ga gn gc gains) (ho : Ints w oa o_n oc order)
    (h1 : gn ≤ 17592186044416) (h2 : o_n ≤ 17592186044416) (hx : ∀ xs, xs ∈ gains → xs.length ≤ 17592186044416) :
    Calls Tryz.prog 3 #[.agg #[.slice ga gn gc, .int .i64 items], .slice oa o_n oc] w fun e w' => e = .returned (.bool true) ∧ Below w.heap.size w w' := by
  have hgl := hg.len
  have hol := ho.len
  have HGL := Lib.hid (And.intro hgl hol); clear hgl hol
  obtain ⟨w1, hw1⟩ : ∃ w1, w1 = w.alloc (.cells #[.slice ga gn gc, .int .i64 items] 24) := ⟨_, rfl⟩
  have hb1 : Below w.heap.size w w1 := by rw [hw1]; exact (Below.refl _ _).alloc (Nat.le_refl _) _
  have hv1 : VRow w1 w.heap.size 24 [.slice ga gn gc, .int .i64 items] := by rw [hw1]; exact heap_alloc_new w _
  have HS1 := Lib.hid (show FSt w w.heap.size ga oa gn gc o_n oc gains items order w1 from ⟨hv1, hg.below hb1 (Nat.le_refl _), ho.below hb1 (Nat.le_refl _), hb1⟩)
  clear hb1 hv1 hg ho
  have hw1' := hw1.symm
  clear hw1
  have hww := HS1.out.below.size
  have HX := Lib.hid hx; clear hx
  have p0 := HS1.out.v.cell (k := 0) rfl
  have p1 := HS1.out.v.cell (k := 1) rfl
  go_enter Tryz.func3, Tryz.ntmps3
  go_wp2_with fail
  try rw [hw1']
  clear hw1'
  go_wp2_with fail
  refine (intListsSize_any ga gn gc gains w1 HS1.out.g h1 HX.out).mono ?_
  rintro e w2 ⟨s, rfl, ⟨hs1, hs2, hs3⟩, hw⟩
  subst hw
  have HS := Lib.hid hs3; clear hs3 p0 p1
  obtain ⟨B1, hB1⟩ : ∃ B1, B1 = w.heap.size := ⟨_, rfl⟩
  have HS1' := Lib.hid (show FSt w B1 ga oa gn gc o_n oc gains items order w1 by rw [hB1]; exact HS1.out)
  rw [← hB1]
  clear hB1 HS1
  have HS1 := HS1'; clear HS1'
  have p0 := HS1.out.v.cell (k := 0) rfl
  have p1 := HS1.out.v.cell (k := 1) rfl
  by_cases g1 : 3000 < s
  · have e1 : decide (3000 < s) = true := by simpa using g1
    go_wp2_with fail
    go_ret
    exact ⟨rfl, HS1.out.below⟩
  have e1 : decide (3000 < s) = false := by simpa using g1
  by_cases g2 : 300 < (o_n : Int)
  · have e2 : decide (300 < (o_n : Int)) = true := by simpa using g2
    go_wp2_with fail
    go_ret
    exact ⟨rfl, HS1.out.below⟩
  have e2 : decide (300 < (o_n : Int)) = false := by simpa using g2
  obtain ⟨z1, z2⟩ := HS.out (by omega)
  rw [HGL.out.1] at z1
  have z3 : ∀ xs, xs ∈ gains → xs.length ≤ 3000 := fun xs hx => by have := z2 xs hx; omega
  have HZ := Lib.hid z3; clear z2 z3 HS
  have y1 : gn ≤ 3000 := by omega
  have y2 : o_n ≤ 300 := by omega
  go_wp2_with fail
  clear e1 e2 g1 g2 hs1 hs2 z1
  refine (twinListsF_any ga gn gc gains w1 HS1.out.g (by omega) (fun xs hx => by have := HZ.out xs hx; omega)).mono ?_
  rintro e w3 ⟨B, c, M, vals, gs, rfl, hX, hb3⟩
  have HS3 := Lib.hid (HS1.out.step hb3)
  have hX3 := hX.gst HGL.out.1
  have HX3 := Lib.hid hX; clear hX
  have HG3 := Lib.hid hX3; clear hX3 HS1 p0 p1
  have hz3 := hb3.size
  clear hb3
  go_wp2_with fail
  refine (twinIntsF_any oa o_n oc order w3 HS3.out.o (by omega)).mono ?_
  rintro e w4 ⟨g6, c6, rfl, hY, hb4⟩
  have HS4 := Lib.hid (HS3.out.step hb4)
  have HT4 := Lib.hid (TSt.mk (HX3.out.below hb4 (Nat.le_refl _)) hY)
  have HG4 := Lib.hid ((HG3.out.step hb4).more (TwinF.seg hY HGL.out.2) hz3)
  have hz4 := hb4.size
  clear hY hb4 HS3 HX3 HG3
  have p0 := HS4.out.v.cell (k := 0) rfl
  have p1 := HS4.out.v.cell (k := 1) rfl
  obtain ⟨er, her⟩ : ∃ er, er = ansFE gains items order := ⟨_, rfl⟩
  obtain ⟨al, hal⟩ : ∃ al, al = ansF gains items order := ⟨_, rfl⟩
  have hgx := HT4.out.x.rows' HGL.out.1 (by omega) (fun xs hx => ⟨by have := HZ.out xs hx; omega, ?bd⟩)
  case bd =>
    obtain ⟨k, hk⟩ := List.getElem?_of_mem hx
    have hkl := (List.getElem?_eq_some_iff.1 hk).1
    obtain ⟨b, o, e⟩ := HS4.out.g.addr (by have := HGL.out.1; omega)
    obtain ⟨_, _, _, _, hi⟩ := HS4.out.g.cell b o e k xs hk
    exact hi.bd
  have hoy := HT4.out.y.ints (by have := HGL.out.2; omega) HS4.out.o.bd
  rw [HGL.out.2] at hoy
  have HGX := Lib.hid hgx; clear hgx
  have HOY := Lib.hid hoy; clear hoy
  go_wp2_with fail
  refine (first_ans (some ⟨B, 0, none⟩) (some ⟨g6, 0, none⟩) gn c o_n c6 gains items order w4 HGX.out HOY.out (by omega)).mono ?_
  rw [← her, ← hal]
  rintro e w5 ⟨aa, an, ac, rfl, hA, hSa, ha8, hb5⟩
  have HS5 := Lib.hid (HS4.out.step hb5)
  have HT5 := Lib.hid (HT4.out.step hb5)
  have HG5 := Lib.hid ((HG4.out.step hb5).more hSa (by omega))
  have HA5 := Lib.hid hA
  have hz5 := hb5.size
  have HER := Lib.hid (And.intro her hal); clear her hal
  clear hA hSa hb5 HS4 HT4 HG4 HGX HOY p0 p1
  have p0 := HS5.out.v.cell (k := 0) rfl
  have p1 := HS5.out.v.cell (k := 1) rfl
  go_wp2_with fail
  refine (first11_ans ga oa gn gc o_n oc gains items order w5 HS5.out.g HS5.out.o (by omega)).mono ?_
  rw [← HER.out.1, ← HER.out.2]
  rintro e w6 ⟨ba, bn, bc, rfl, hB, -, -, hb6⟩
  have HS6 := Lib.hid (HS5.out.step hb6)
  have HT6 := Lib.hid (HT5.out.step hb6)
  have HG6 := Lib.hid (HG5.out.step hb6)
  have HA6 := Lib.hid (HA5.out.below hb6 (Nat.le_refl _))
  have HB6 := Lib.hid hB
  have hz6 := hb6.size
  clear hB hb6 HS5 HT5 HG5 HA5 HER p0 p1
  go_wp2_with fail
  refine (same_any aa ba an ac bn bc al al w6 HA6.out HB6.out).mono ?_
  rintro e w16 ⟨he, hb16⟩
  rw [decide_eq_true rfl] at he
  subst he
  have HS16 := Lib.hid (HS6.out.step hb16)
  have HT16 := Lib.hid (HT6.out.step hb16)
  have HG16 := Lib.hid (HG6.out.step hb16)
  have hz16 := hb16.size
  clear hb16 HS6 HT6 HG6 HA6 HB6
  have p0 := HS16.out.v.cell (k := 0) rfl
  go_wp2_with fail
  refine (leftIntLists_any B c M gn gc ga gn _ vals gs gains w16 HT16.out.x HGL.out.1 HS16.out.g (by omega) (fun xs hx => by have := HZ.out xs hx; omega)).mono ?_
  rintro e w17 ⟨rfl, hb17⟩
  have HS17 := Lib.hid (HS16.out.step hb17)
  have HT17 := Lib.hid (HT16.out.step hb17)
  have HG17 := Lib.hid (HG16.out.step hb17)
  have hz17 := hb17.size
  clear hb17 HS16 HT16 HG16 p0
  go_wp2_with fail
  refine (leftInts_any g6 c6 o_n oc oa o_n _ order w17 HT17.out.y HGL.out.2 HS17.out.o (by omega)).mono ?_
  rintro e w7 ⟨rfl, hb7⟩
  have HS7 := Lib.hid (HS17.out.step hb7)
  have HT7 := Lib.hid (HT17.out.step hb7)
  have HG7 := Lib.hid (HG17.out.step hb7).wide
  have hz7 := hb7.size
  clear hb7 HS17 HT17 HG17
  have hlies := HT7.out.x.lies HGL.out.1
  have hbk := BookHas.new w7
  obtain ⟨w8, hw8⟩ : ∃ w8, w8 = w7.alloc (.cells #[.int .i64 0, .slice none 0 0, .slice none 0 0, .slice none 0 0, .slice none 0 0, .slice none 0 0, .slice none 0 0, .slice none 0 0, .slice none 0 0, .slice none 0 0] 44) := ⟨_, rfl⟩
  rw [← hw8] at hbk
  have hb8 : Below w7.heap.size w7 w8 := by rw [hw8]; exact (Below.refl _ _).alloc (Nat.le_refl _) _
  have HLI := Lib.hid (hlies.keep hb8); clear hlies
  have HK8 := Lib.hid hbk; clear hbk
  obtain ⟨Bk, hBk⟩ : ∃ Bk, Bk = w7.heap.size := ⟨_, rfl⟩
  rw [← hBk] at HK8 HLI
  have HB8 := Lib.hid hb8; clear hb8
  have hw8' := hw8.symm
  clear hw8
  have HBK := Lib.hid hBk
  go_wp2_with fail
  try rw [hw8']
  try rw [← hBk]
  clear hw8' hBk
  refine (bIntLists_any Bk 0 (some ⟨B, 0, none⟩) gn c (vals.map toSlc) [] [] [] w8 HK8.out HLI.out (by omega)).mono ?_
  rintro e w9 ⟨⟨v, rfl⟩, hk9, hf9⟩
  have HB9 := Lib.hid (show Below w7.heap.size w7 w9 from HB8.out.trans (by rw [← HBK.out]; exact hf9.low))
  have HK9 := Lib.hid hk9
  clear hk9 hf9 HB8 HK8 HLI
  go_wp2_with fail
  refine (bInts_any Bk (0 + gn + 1) (some ⟨g6, 0, none⟩) o_n c6 _ _ _ w9 HK9.out (by omega)).mono ?_
  rintro e w10 ⟨⟨v, rfl⟩, hk10, hf10⟩
  have HB10 := Lib.hid (show Below w7.heap.size w7 w10 from HB9.out.trans (by rw [← HBK.out]; exact hf10.low))
  have HK10 := Lib.hid hk10
  clear hk10 hf10 HB9 HK9
  go_wp2_with fail
  refine (bInts_any Bk (0 + gn + 1 + 1) aa an ac _ _ _ w10 HK10.out (by omega)).mono ?_
  rintro e w11 ⟨⟨v, rfl⟩, hk11, hf11⟩
  have hb11 : Below w7.heap.size w7 w11 := HB10.out.trans (by rw [← HBK.out]; exact hf11.low)
  have HS11 := Lib.hid (HS7.out.step hb11)
  have HG11 := Lib.hid (HG7.out.step hb11)
  have HT11 := Lib.hid (HT7.out.step hb11)
  have HK11 := Lib.hid hk11
  clear hk11 hf11 hb11 HB10 HK10 HS7 HG7 HT7
  have hsA := HG11.out.a
  have hsB := HG11.out.b
  rw [← HBK.out] at hsA hsB
  have HSA := Lib.hid hsA; clear hsA
  have HSB := Lib.hid hsB; clear hsB
  have hlo : w1.heap.size ≤ Bk := by have := HBK.out; omega
  go_wp2_with fail
  refine (apart_any Bk (0 + gn + 1 + 1 + 1) w1.heap.size _ _ _ w11 HK11.out (by omega) hlo (Seg.nil _ _ _ _) (by simpa using HSA.out) (by simpa using HSB.out) ?_).mono ?_
  · intro x hx
    have hrs := toSlc_len HT11.out.x (K := 3000) (fun xs hx => HZ.out xs hx)
    simp only [List.nil_append, List.mem_append, List.mem_cons, List.not_mem_nil, or_false, false_or] at hx
    rcases hx with ((hx | rfl) | rfl) | rfl
    all_goals first | (have := hrs x hx; omega) | (show _ ≤ 900000; simp only []; omega)
  rintro e w12 ⟨rfl, hb12⟩
  have HB12 := Lib.hid (HS11.out.below.trans (hb12.mono hww)); clear hb12
  go_wp2_with fail
  go_ret
  exact ⟨rfl, HB12.out⟩
end Go.Proofs.YtkddkkcfpnndlaaGreatDoor
