/- Walks: slices.ContainsFunc over integers, whatever is asked; halls.Few: how many want nothing else. Walks: halls.Few: of some, how many want nothing but what is in a list. Walks: halls.Few. Walks: halls.Few: the least set that too many want. -/
import Derived.Test.YtkddkkcfpnndlaaGreatDoorOq21
import Derived.Test.YtkddkkcfpnndlaaGreatDoorOq22
import Derived.Laws.EntriesVeiled
namespace Go.Proofs.YtkddkkcfpnndlaaGreatDoor
open Go.RowKit

def AsksI (g : Nat) (v : Value) (w : World) (p : Int → Bool) : Prop :=
 ∀ (w' : World) (x : Int), Below w.heap.size w w' → Calls Tryz.prog g #[.int .i64 x, v] w' fun e w'' => e = .returned (.bool (p x)) ∧ Below w'.heap.size w' w''

set_option maxHeartbeats 400000 in
theorem indexI_any (a : Option Addr) (n c : Nat) (xs : List Int) (g : Nat) (v : Value) (p : Int → Bool) (w : World) (h : Ints w a n c xs) (hg : Enters g) (hp : AsksI g v w p) :
   Calls Tryz.prog 191 #[.slice a n c, .func (.func g) #[] #[v]] w fun e w' => e = .returned (.int .i64 (idxOf (xs.findIdx? p))) ∧ Below w.heap.size w w' := by
 have hb := h.big
 unfold Enters at hg
 go_enter Tryz.func191, Tryz.ntmps191
 go_wp2_with fail
 go_loopg [8] n (fun g' s8 wr => ∃ k : Nat, k + g' = n ∧ s8 = .int .i64 k ∧ Below w.heap.size w wr ∧ (xs.take k).findIdx? p = none)
 case atStart => exact ⟨0, by omega, rfl, Below.refl _ _, rfl⟩
 case round =>
   obtain ⟨k, hk, rfl, hB, hf⟩ := hrel
   by_cases hlt : k < n
   · obtain ⟨x, hx, _⟩ := h.get hlt
     obtain ⟨b, o, rfl⟩ := h.addr (by omega)
     have hc := (h.below hB (Nat.le_refl _)).cell b o rfl k x hx
     have HP := Lib.hid (hp wr x hB)
     have H := Lib.hid h; clear h hp
     have HF := Lib.hid hf; clear hf
     have HX := Lib.hid hx; clear hx
     have HK := Lib.hid hk; clear hk
     have HB := Lib.hid hB; clear hB
     cases hpx : p x with
     | true =>
       have HQ := Lib.hid hpx; clear hpx
       go_wp2_with fail
       refine HP.out.mono ?_
       rw [HQ.out]
       rintro e w1 ⟨rfl, hb1⟩
       have HB1 := Lib.hid hb1; clear hb1
       go_wp2_with fail
       go_ret
       refine ⟨ret_int ?_, HB.out.trans (HB1.out.mono HB.out.size)⟩
       rw [findIdx_at HX.out HF.out HQ.out]; rfl
     | false =>
       have HQ := Lib.hid hpx; clear hpx
       go_wp2_with fail
       refine HP.out.mono ?_
       rw [HQ.out]
       rintro e w1 ⟨rfl, hb1⟩
       have HB1 := Lib.hid hb1; clear hb1
       go_wp2_with fail
       go_roundg (gk - 1)
       case measure => have := HK.out; omega
       case rel => exact ⟨k + 1, by have := HK.out; omega, by go_num, HB.out.trans (HB1.out.mono HB.out.size), findIdx_on HX.out HF.out HQ.out⟩
   · obtain rfl : k = n := by omega
     have HF := Lib.hid hf; clear hf
     have HB := Lib.hid hB; clear hB
     have H := Lib.hid h; clear h hp
     go_wp2_with fail
     go_ret
     refine ⟨ret_int ?_, HB.out⟩
     have hl := H.out.len
     have hf := HF.out
     rw [List.take_of_length_le (by omega)] at hf
     rw [hf]; rfl
set_option maxHeartbeats 400000 in
theorem containsI_any (a : Option Addr) (n c : Nat) (xs : List Int) (g : Nat) (v : Value) (p : Int → Bool) (w : World) (h : Ints w a n c xs) (hg : Enters g) (hp : AsksI g v w p) :
   Calls Tryz.prog 163 #[.slice a n c, .func (.func g) #[] #[v]] w fun e w' => e = .returned (.bool (xs.any p)) ∧ Below w.heap.size w w' := by
 have HH := Lib.hid h; clear h
 have HG := Lib.hid hg; clear hg
 have HP := Lib.hid hp; clear hp
 go_enter Tryz.func163, Tryz.ntmps163
 go_wp2_with fail
 refine (indexI_any a n c xs g v p w HH.out HG.out HP.out).mono ?_
 rintro e w1 ⟨rfl, hb1⟩
 have HB1 := Lib.hid hb1; clear hb1
 go_wp2_with fail
 go_ret
 refine ⟨ret_bool ?_, HB1.out⟩
 rw [idxOf_ge, ← List.findIdx?_isSome]

theorem outside_any (B : Nat) (a : Option Addr) (n c : Nat) (l : List Nat) (x : Int) (w : World) (hB : w.cell? ⟨B, 0, none⟩ = some (.slice a n c)) (h : Ints w a n c (nats l)) :
   Calls Tryz.prog 216 #[.int .i64 x, .pointer (some ⟨B, 0, none⟩)] w fun e w' => e = .returned (.bool (!(nats l).contains x)) ∧ Below w.heap.size w w' := by
 have H := Lib.hid h; clear h
 go_enter Tryz.func216, Tryz.ntmps216
 go_wp2_with fail
 refine (contains_any a n c (nats l) x w H.out).mono ?_
 rintro e w1 ⟨rfl, rfl⟩
 go_wp2_with fail
 go_ret
 exact ⟨(ret_bool (by simp) : Ending.returned (.bool !decide (x ∈ nats l)) = _), Below.refl _ _⟩

theorem within_step (nb : Nat → List Nat) (sm X : List Nat) {j i : Nat} (h : sm[j]? = some i) : (Sale.within nb (sm.take (j + 1)) X).length = (Sale.within nb (sm.take j) X).length + if (nb i).all fun k => X.contains k then 1 else 0 := by
 unfold Sale.within
 rw [List.take_add_one, h, List.filter_append, List.length_append]
 congr 1
 show (List.filter (fun i => (nb i).all fun k => X.contains k) [i]).length = _
 rw [List.filter_cons]
 cases hh : (nb i).all fun k => X.contains k <;> rfl
theorem near_one {G : List (List Nat)} (h8 : ∀ w, w < G.length → ∀ k, k ∈ nbOf G w → k < 8) {i : Nat} (hi : i < G.length) (l : List Nat) :
   (!(nats (whatOf (nearOf G [i]) 8)).any fun x => !(nats l).contains x) = (nbOf G i).all fun k => l.contains k := by
 rw [Bool.eq_iff_iff]
 simp only [Bool.not_eq_true', List.any_eq_false, List.all_eq_true, List.contains_eq_mem, decide_eq_true_eq]
 constructor
 · intro h k hk
   have hk8 := h8 i hi k hk
   have := h (k : Int) (mem_nats.2 (List.mem_filter.2 ⟨List.mem_range.2 hk8, by simp [nearOf, hk]⟩))
   exact mem_nats.1 (by simpa using this)
 · intro h x hx
   obtain ⟨k, hk, rfl⟩ := List.mem_map.1 hx
   obtain ⟨_, h2⟩ := List.mem_filter.1 hk
   have hk2 : k ∈ nbOf G i := by
     by_cases e : k ∈ nbOf G i
     · exact e
     · simp [nearOf, e] at h2
   simpa using mem_nats.2 (h k hk2)
end Go.Proofs.YtkddkkcfpnndlaaGreatDoor

namespace Go.Proofs.YtkddkkcfpnndlaaGreatDoor
open Go.RowKit

structure InAt (W : World) (B5 B3 B4 : Nat) (sa : Option Addr) (sn sc : Nat) (ga : Option Addr) (gn gc : Nat) (items : Int) : Prop where
 b5 : Boxed W B5 25 (.slice sa sn sc)
 b3 : Boxed W B3 22 (.slice ga gn gc)
 b4 : Boxed W B4 3 (.int .i64 items)
theorem InAt.step {W W' : World} {B5 B3 B4 : Nat} {sa : Option Addr} {sn sc : Nat} {ga : Option Addr} {gn gc : Nat} {items : Int} (h : InAt W B5 B3 B4 sa sn sc ga gn gc items) (hb : Below W.heap.size W W') : InAt W' B5 B3 B4 sa sn sc ga gn gc items :=
 ⟨boxed_on h.b5 hb, boxed_on h.b3 hb, boxed_on h.b4 hb⟩

set_option maxRecDepth 100000 in
set_option maxHeartbeats 2000000 in
theorem within_fn (B5 B3 B4 : Nat) (sa ga la : Option Addr) (sn sc gn gc ln lc : Nat) (G : List (List Nat)) (items : Int) (sm l : List Nat) (W : World) (hA : InAt W B5 B3 B4 sa sn sc ga gn gc items)
   (hg : Rows W ga gn gc (G.map nats)) (hs : Ints W sa sn sc (nats sm)) (hl : Ints W la ln lc (nats l)) (hgc : gcheck (G.map nats) items = true) (hsM : ∀ i, i ∈ sm → i < gn) (hs8 : sn ≤ 8) :
   Calls Tryz.prog 214 #[.slice la ln lc, .pointer (some ⟨B5, 0, none⟩), .pointer (some ⟨B3, 0, none⟩), .pointer (some ⟨B4, 0, none⟩)] W fun e W' => e = .returned (.int .i64 ((Sale.within (nbOf G) sm l).length : Nat)) ∧ Below W.heap.size W W' := by
 have hgl : G.length = gn := by have := hg.len; simpa using this
 have hsl : sm.length = sn := by have := hs.len; simpa [nats] using this
 have hb0 : Below W.heap.size W (W.alloc (.cells #[.slice la ln lc] 25)) := (Below.refl _ _).alloc (Nat.le_refl _) _
 have hx0 : Boxed (W.alloc (.cells #[.slice la ln lc] 25)) W.heap.size 25 (.slice la ln lc) := Boxed.new W _ _
 have hA0 := hA.step hb0
 have c5 := hA0.b5.cell
 have HX0 := Lib.hid (And.intro hx0 (And.intro hA0 hb0)); clear hx0 hA0 hb0
 have HG := Lib.hid hg; clear hg
 have HS := Lib.hid hs; clear hs
 have HLL := Lib.hid hl; clear hl
 have HGL := Lib.hid hgl; clear hgl
 have HSL := Lib.hid hsl; clear hsl
 have HGC := Lib.hid hgc; clear hgc
 have HSM := Lib.hid hsM; clear hsM
 clear hA
 go_enter Tryz.func214, Tryz.ntmps214
 go_wp2_with fail
 go_loopg [5, 12] sn (fun g s5 s12 wr => ∃ j : Nat, j + g = sn ∧ s12 = .int .i64 j ∧ s5 = .int .i64 ((Sale.within (nbOf G) (sm.take j) l).length : Nat) ∧ Below W.heap.size W wr ∧ InAt wr B5 B3 B4 sa sn sc ga gn gc items ∧ Boxed wr W.heap.size 25 (.slice la ln lc))
 case atStart => exact ⟨0, by omega, rfl, by simp [Sale.within], HX0.out.2.2, HX0.out.2.1, HX0.out.1⟩
 case round =>
   obtain ⟨j, hj, rfl, rfl, hb, hA, hx⟩ := hrel
   have HJ := Lib.hid hj; clear hj
   have hwl : (Sale.within (nbOf G) (sm.take j) l).length ≤ 8 := by
     refine Nat.le_trans (List.length_filter_le _ _) ?_
     rw [List.length_take]; have := HSL.out; omega
   by_cases hlt : j < sn
   · obtain ⟨i, hi⟩ : ∃ i, sm[j]? = some i := ⟨_, List.getElem?_eq_getElem (by rw [HSL.out]; exact hlt)⟩
     have hig := HSM.out i (List.mem_of_getElem? hi)
     have hws := within_step (nbOf G) sm l hi
     rw [← near_one (g8_of HGC.out) (by rw [HGL.out]; exact hig) l] at hws
     obtain ⟨sb, so, rfl⟩ := HS.out.addr (by omega)
     have cs := (HS.out.below hb (Nat.le_refl _)).cell sb so rfl j (i : Int) (by simp [nats, hi])
     have k3 := hA.b3.cell
     have k4 := hA.b4.cell
     have hb1 : Below wr.heap.size wr (wr.alloc (.cells #[.int .i64 (i : Int)] 3)) := (Below.refl _ _).alloc (Nat.le_refl _) _
     have HNR := Lib.hid (Near_yes ga (some ⟨wr.heap.size, 0, none⟩) gn gc 1 1 G items [i] (wr.alloc (.cells #[.int .i64 (i : Int)] 3)) ((HG.out.below hb (Nat.le_refl _)).below hb1 (Nat.le_refl _)) (Ints.one (w := wr) (i : Int) (by have := HS.out.bd (i : Int) (by simp only [nats, List.mem_map]; exact ⟨i, List.mem_of_getElem? hi, rfl⟩); exact this)) (by
       simp only [nearOk, HGC.out, Bool.true_and, List.length_map, HGL.out]
       simp [nats, risesFrom]; omega))
     have HB := Lib.hid (hb.trans (hb1.mono hb.size))
     have HA1 := Lib.hid (hA.step hb1)
     have HX1 := Lib.hid (boxed_on hx hb1)
     have HWS := Lib.hid hws; clear hws
     have HI := Lib.hid hi; clear hi
     clear hb hA hx hb1
     obtain ⟨wl, hwl'⟩ : ∃ wl, wl = (Sale.within (nbOf G) (sm.take j) l).length := ⟨_, rfl⟩
     rw [← hwl'] at hwl HWS ⊢
     clear hwl'
     go_wp2_with fail
     refine HNR.out.mono ?_
     rintro e w2 ⟨na, nn, nc, rfl, hni, hb2⟩
     have HA2 := Lib.hid (HA1.out.step hb2)
     have hx2 := boxed_on HX1.out hb2
     have kx := hx2.cell
     have HB2 := Lib.hid (HB.out.trans (hb2.mono HB.out.size)); clear hb2
     have HCF := Lib.hid (containsI_any na nn nc (nats (whatOf (nearOf G [i]) 8)) 216 (.pointer (some ⟨W.heap.size, 0, none⟩)) (fun x => !(nats l).contains x) w2 hni (fun _ _ => enters_of Tryz.func216 (by kernel_rfl) rfl _ _) (fun w' x hb' => outside_any W.heap.size la ln lc l x w' (boxed_on hx2 hb').cell ((HLL.out.below HB2.out (Nat.le_refl _)).below hb' (Nat.le_refl _))))
     have HX2 := Lib.hid hx2; clear hx2 hni
     cases hcf : (nats (whatOf (nearOf G [i]) 8)).any fun x => !(nats l).contains x with
     | true =>
       have HCC := Lib.hid hcf; clear hcf
       go_wp2_with fail
       refine HCF.out.mono ?_
       rw [HCC.out]
       rintro e w3 ⟨rfl, hb3⟩
       have HA3 := Lib.hid (HA2.out.step hb3)
       have HX3 := Lib.hid (boxed_on HX2.out hb3)
       have HB3 := Lib.hid (HB2.out.trans (hb3.mono HB2.out.size)); clear hb3
       go_wp2_with fail
       go_roundg (gk - 1)
       case measure => have := HJ.out; omega
       case rel => exact ⟨j + 1, by have := HJ.out; omega, by go_num, by rw [HWS.out, HCC.out]; rfl, HB3.out, HA3.out, HX3.out⟩
     | false =>
       have HCC := Lib.hid hcf; clear hcf
       go_wp2_with fail
       refine HCF.out.mono ?_
       rw [HCC.out]
       rintro e w3 ⟨rfl, hb3⟩
       have HA3 := Lib.hid (HA2.out.step hb3)
       have HX3 := Lib.hid (boxed_on HX2.out hb3)
       have HB3 := Lib.hid (HB2.out.trans (hb3.mono HB2.out.size)); clear hb3
       go_wp2_with fail
       go_roundg (gk - 1)
       case measure => have := HJ.out; omega
       case rel => exact ⟨j + 1, by have := HJ.out; omega, by go_num, by rw [HWS.out, HCC.out]; rfl, HB3.out, HA3.out, HX3.out⟩
   · obtain rfl : j = sn := by have := HJ.out; omega
     rw [List.take_of_length_le (by rw [HSL.out]; exact Nat.le_refl _)]
     have HB := Lib.hid hb; clear hb hA hx
     go_wp2_with fail
     go_ret
     exact ⟨rfl, HB.out⟩
end Go.Proofs.YtkddkkcfpnndlaaGreatDoor

namespace Go.Proofs.YtkddkkcfpnndlaaGreatDoor
open Go.RowKit Go.Shelf

attribute [local go_sem] Oper.semAt_some

def FewRes (r : Option (List Nat)) (w : World) (e : Ending) (w' : World) : Prop := Below w.heap.size w w' ∧ match r with
 | none => e = .returned (.tuple #[.slice none 0 0, .bool false, .int .i64 0])
 | some X => ∃ a n, e = .returned (.tuple #[.slice a n n, .bool true, .int .i64 0]) ∧ Ints w' a n n (nats X) ∧ ∀ b o, a = some ⟨b, o, none⟩ → w.heap.size ≤ b

structure FewAt (w : World) (h : Nat) (ga sa : Option Addr) (gn gc sn sc : Nat) (N : Nat) (W : World) : Prop where
 inn : InAt W (h + 1 + 1) h (h + 1) sa sn sc ga gn gc (N : Int)
 below : Below w.heap.size w W
structure OutAt3 (W : World) (h : Nat) (v : Value) (b : Bool) (e : Int) : Prop where
 b6 : Boxed W (h + 1 + 1 + 1) 25 v
 b7 : Boxed W (h + 1 + 1 + 1 + 1) 4 (.bool b)
 b8 : Boxed W (h + 1 + 1 + 1 + 1 + 1) 29 (.int .i64 e)
def few0 (w : World) (ga sa : Option Addr) (gn gc sn sc : Nat) (N : Nat) : World := (((((w.alloc (.cells #[.slice ga gn gc] 22)).alloc (.cells #[.int .i64 (N : Int)] 3)).alloc (.cells #[.slice sa sn sc] 25)).alloc (.cells #[.slice none 0 0] 25)).alloc (.cells #[.bool false] 4)).alloc (.cells #[.int .i64 0] 29)
theorem boxed_new (w : World) (N : Nat) (hN : w.heap.size = N) (t : TypeId) (v : Value) : Boxed (w.alloc (.cells #[v] t)) N t v := by subst hN; exact Boxed.new w t v
theorem few0_at (w : World) (ga sa : Option Addr) (gn gc sn sc : Nat) (N : Nat) : FewAt w w.heap.size ga sa gn gc sn sc N (few0 w ga sa gn gc sn sc N) ∧ OutAt3 (few0 w ga sa gn gc sn sc N) w.heap.size (.slice none 0 0) false 0 := by
 refine ⟨⟨⟨?_, ?_, ?_⟩, ?_⟩, ⟨?_, ?_, ?_⟩⟩
 · exact (((boxed_new _ _ (by simp) _ _).alloc _).alloc _).alloc _
 · exact (((((boxed_new w _ rfl _ _).alloc _).alloc _).alloc _).alloc _).alloc _
 · exact ((((boxed_new _ _ (by simp) _ _).alloc _).alloc _).alloc _).alloc _
 · exact ((((((Below.refl _ _).alloc (Nat.le_refl _) _).alloc (by simp) _).alloc (by simp; omega) _).alloc (by simp; omega) _).alloc (by simp; omega) _).alloc (by simp; omega) _
 · exact ((boxed_new _ _ (by simp) _ _).alloc _).alloc _
 · exact (boxed_new _ _ (by simp) _ _).alloc _
 · exact boxed_new _ _ (by simp) _ _
theorem FewAt.step {w : World} {h : Nat} {ga sa : Option Addr} {gn gc sn sc N : Nat} {W W' : World} (hA : FewAt w h ga sa gn gc sn sc N W) (hb : Below W.heap.size W W') : FewAt w h ga sa gn gc sn sc N W' := ⟨hA.inn.step hb, hA.below.trans (hb.mono hA.below.size)⟩
theorem OutAt3.step {W W' : World} {h : Nat} {v : Value} {b : Bool} {e : Int} (hA : OutAt3 W h v b e) (hb : Below W.heap.size W W') : OutAt3 W' h v b e := ⟨boxed_on hA.b6 hb, boxed_on hA.b7 hb, boxed_on hA.b8 hb⟩
theorem OutAt3.set {W : World} {h : Nat} {v : Value} {b : Bool} {e : Int} (hA : OutAt3 W h v b e) (v' : Value) (b' : Bool) (e' : Int) :
   OutAt3 (((W.setCell ⟨h + 1 + 1 + 1, 0, none⟩ v').setCell ⟨h + 1 + 1 + 1 + 1, 0, none⟩ (.bool b')).setCell ⟨h + 1 + 1 + 1 + 1 + 1, 0, none⟩ (.int .i64 e')) h v' b' e' :=
 ⟨((hA.b6.set v').other (by omega) _).other (by omega) _, ((hA.b7.other (by omega) _).set _).other (by omega) _, ((hA.b8.other (by omega) _).other (by omega) _).set _⟩
theorem few_results {h : Nat} {v : Value} {b : Bool} {e : Int} {tmps : Array Value} (t6 : tmps[6]?.getD undef = .pointer (some ⟨h + 1 + 1 + 1, 0, none⟩)) (t7 : tmps[7]?.getD undef = .pointer (some ⟨h + 1 + 1 + 1 + 1, 0, none⟩)) (t8 : tmps[8]?.getD undef = .pointer (some ⟨h + 1 + 1 + 1 + 1 + 1, 0, none⟩)) (W : World) (hO : OutAt3 W h v b e) :
   (results Tryz.f204 tmps).run Tryz.prog W = .ok (.tuple #[v, .bool b, .int .i64 e]) W := by
 have c6 := hO.b6.cell
 have c7 := hO.b7.cell
 have c8 := hO.b8.cell
 simp [results, Tryz.results204, go_sem, t6, t7, t8, c6, c7, c8]
theorem sets_boxes (w : World) (aa : Option Addr) (an ac : Nat) (x y z : Int) (H : Nat) (hH : w.heap.size = H) (W : World) (hW : W = (((w.alloc (.cells #[.slice aa an ac] 25)).alloc (.cells #[.int .i64 x] 3)).alloc (.cells #[.int .i64 y] 3)).alloc (.cells #[.int .i64 z] 3)) :
   Boxed W H 25 (.slice aa an ac) ∧ Boxed W (H + 1) 3 (.int .i64 x) ∧ Boxed W (H + 1 + 1) 3 (.int .i64 y) ∧ Boxed W (H + 1 + 1 + 1) 3 (.int .i64 z) ∧ Below w.heap.size w W ∧ W.heap.size = H + 4 := by
 subst hW
 refine ⟨(((boxed_new w _ hH _ _).alloc _).alloc _).alloc _, ((boxed_new _ _ (by simp; omega) _ _).alloc _).alloc _, (boxed_new _ _ (by simp; omega) _ _).alloc _, boxed_new _ _ (by simp; omega) _ _, ?_, by simp; omega⟩
 exact ((((Below.refl _ _).alloc (Nat.le_refl _) _).alloc (by simp) _).alloc (by simp; omega) _).alloc (by simp; omega) _
theorem Ints.away {W : World} {a : Option Addr} {n c : Nat} {xs : List Int} (h : Ints W a n c xs) {p : Addr} (hp : ∀ b o, a = some ⟨b, o, none⟩ → b ≠ p.block) (v : Value) : Ints (W.setCell p v) a n c xs :=
 ⟨h.len, h.cap, h.big, h.addr, fun b o e j x hx => (World.cell?_of_block (Below.heap_setCell W p v b (hp b o e))).trans (h.cell b o e j x hx), h.bd, h.nil⟩
theorem out3_own {β : Type} (B h : Nat) (v : Value) (b : Bool) (e : Int) : OwnFrom B (fun (_ : β) W => OutAt3 W h v b e) := fun _ A C row hs hg hr =>
 ⟨boxed_own (h + 1 + 1 + 1) 25 (fun _ : Unit => v) () A C row hs.b6 hg (fun r e => (hr r e).2), boxed_own _ 4 (fun _ : Unit => .bool b) () A C row hs.b7 hg (fun r e => (hr r e).2), boxed_own _ 29 (fun _ : Unit => .int .i64 e) () A C row hs.b8 hg (fun r e => (hr r e).2)⟩
end Go.Proofs.YtkddkkcfpnndlaaGreatDoor

namespace Go.Proofs.YtkddkkcfpnndlaaGreatDoor
open Go.RowKit Go.Shelf

attribute [local go_sem] Oper.semAt_some

structure FewIn (w : World) (ga sa : Option Addr) (gn gc sn sc : Nat) (G : List (List Nat)) (N : Nat) (sm : List Nat) : Prop where
 g : Rows w ga gn gc (G.map nats)
 s : Ints w sa sn sc (nats sm)
 chk : gcheck (G.map nats) (N : Int) = true
 ris : risesFrom (G.map nats).length (-1) (nats sm) = true
 nd : sm.Nodup
 lt : ∀ i, i ∈ sm → i < gn
 n8 : N ≤ 8
 s8 : sn ≤ 8
 b8 : ∀ w, w < gn → ∀ k, k ∈ nbOf G w → k < N
abbrev fewX (h : Nat) (b : Nat) : Prop := b = h + 1 + 1 + 1 ∨ b = h + 1 + 1 + 1 + 1 ∨ b = h + 1 + 1 + 1 + 1 + 1

theorem find_to {p : List Nat → Bool} {N c : Nat} (h : ∀ c', c' < c → ∀ X, X ∈ Way.sets N c' 0 [] → p X = false) : (List.range c).findSome? (fun c => (Way.sets N c 0 []).find? p) = none := by
 rw [List.findSome?_eq_none_iff]
 intro c' hc'
 rw [List.find?_eq_none]
 intro X hX
 rw [h c' (List.mem_range.1 hc') X hX]; simp
theorem few_at {nb : Nat → List Nat} {sm : List Nat} {N c : Nat} (hc : c < N + 1) (h : ∀ c', c' < c → ∀ X, X ∈ Way.sets N c' 0 [] → Way.viol nb sm X = false) {pre : List (List Nat)} {X : List Nat} (hp : pre ++ [X] <+: Way.sets N c 0 []) (hpre : ∀ Y, Y ∈ pre → Way.viol nb sm Y = false) (hX : Way.viol nb sm X = true) : Way.fewOf nb N sm = some X := by
 unfold Way.fewOf
 have e : List.range (N + 1) = List.range c ++ c :: List.range' (c + 1) (N - c) := by
   rw [List.range_eq_range', List.range_eq_range', show c :: List.range' (c + 1) (N - c) = List.range' c (N + 1 - c) by
     rw [show N + 1 - c = (N - c) + 1 by omega, List.range'_succ]]
   have := List.range'_append_1 (s := 0) (m := c) (n := N + 1 - c)
   rw [Nat.zero_add] at this
   rw [this]
   congr 1; omega
 rw [e, List.findSome?_append, find_to h]
 simp only [Option.none_or, List.findSome?_cons]
 obtain ⟨t, ht⟩ := hp
 rw [← ht, List.append_assoc, List.find?_append, List.find?_eq_none.2 (fun Y hY => by rw [hpre Y hY]; simp)]
 simp [hX]
theorem few_none {nb : Nat → List Nat} {sm : List Nat} {N : Nat} (h : ∀ c', c' < N + 1 → ∀ X, X ∈ Way.sets N c' 0 [] → Way.viol nb sm X = false) : Way.fewOf nb N sm = none := find_to h

set_option maxRecDepth 100000 in
set_option maxHeartbeats 4000000 in
theorem Few_yes (ga sa : Option Addr) (gn gc sn sc : Nat) (G : List (List Nat)) (N : Nat) (sm : List Nat) (w : World) (hin : FewIn w ga sa gn gc sn sc G N sm) :
   Calls Tryz.prog 204 #[.slice ga gn gc, .int .i64 N, .slice sa sn sc] w (FewRes (Way.fewOf (nbOf G) N sm) w) := by
 obtain ⟨hA0, hO0⟩ := few0_at w ga sa gn gc sn sc N
 have hN8 := hin.n8
 have HAll := Lib.hid (All_yes ga sa gn gc sn sc G (N : Int) sm (few0 w ga sa gn gc sn sc N) (hin.g.below hA0.below (Nat.le_refl _)) (hin.s.below hA0.below (Nat.le_refl _)) (by simp only [nearOk, hin.chk, hin.ris, Bool.and_self]) hin.nd hin.lt)
 have hfa := Way.fewOf_all (nb := nbOf G) (M := gn) (N := N) (some' := sm) hin.b8 hin.n8 hin.nd hin.lt
 have HFA := Lib.hid hfa; clear hfa
 have HIN := Lib.hid hin; clear hin
 have HA0 := Lib.hid hA0; clear hA0
 have HO0 := Lib.hid hO0; clear hO0
 refine calls_marks 9 Tryz.func204 rfl ?_
 simp only [Tryz.ntmps204, List.size_toArray, List.length_cons, List.length_nil, Nat.reduceAdd, Nat.reduceSub, Array.replicate_succ, Array.replicate_zero, List.push_toArray, List.append_toArray, List.nil_append, List.cons_append]
 go_wp2_with fail
 refine HAll.out.mono ?_
 rintro e w1 ⟨rfl, hb⟩
 have HA1 := Lib.hid (HA0.out.step hb)
 have hO1 := HO0.out.step hb
 have q6 := hO1.b6.cell
 have q7 := hO1.b7.cell
 have q8 := hO1.b8.cell
 have p6 := hO1.b6.frozen
 have p7 := hO1.b7.frozen
 have p8 := hO1.b8.frozen
 have k4 := HA1.out.inn.b4.cell
 have z8 := hO1.b8.lt
 have HO1 := Lib.hid hO1; clear hO1 hb HAll HA0 HO0
 cases hall : Way.allOf (nbOf G) gn sm with
 | true =>
   have hnone : Way.fewOf (nbOf G) N sm = none := by
     have := HFA.out
     rw [hall] at this
     exact Option.isNone_iff_eq_none.1 this
   have HNONE := Lib.hid hnone; clear hnone hall
   go_wp2_with fail
   refine leaves_marks (B := w.heap.size) (v := .tuple #[.slice none 0 0, .bool false, .int .i64 0]) (Z := fun _ W' => OutAt3 W' w.heap.size (.slice none 0 0) false 0 ∧ Below w.heap.size w W') ?hZ ?hr ?hR _ _ trivial ⟨?hO, ?hB⟩
   case hZ => exact OwnFrom.and (out3_own _ _ _ _ _) (ownFrom_below (Nat.le_refl _) (Nat.le_refl _))
   case hr => exact fun W' h => few_results rfl rfl rfl W' h.1
   case hR => exact fun W' h => ⟨h.2, by rw [HNONE.out]⟩
   case hO => exact HO1.out.set _ _ _
   case hB => exact ((HA1.out.below.setCell (p := ⟨w.heap.size + 1 + 1 + 1, 0, none⟩) (by simp; omega) _).setCell (p := ⟨w.heap.size + 1 + 1 + 1 + 1, 0, none⟩) (by simp; omega) _).setCell (p := ⟨w.heap.size + 1 + 1 + 1 + 1 + 1, 0, none⟩) (by simp; omega) _
 | false =>
   clear hall
   have k4a := cell_step ((Below.refl w1.heap.size w1).alloc (Nat.le_refl _) (.cells #[.func (.func 214) #[] #[.pointer (some ⟨w.heap.size + 1 + 1, 0, none⟩), .pointer (some ⟨w.heap.size, 0, none⟩), .pointer (some ⟨w.heap.size + 1, 0, none⟩)]] 96)) k4
   go_wp2_with fail
   clear k4a
   obtain ⟨W1, hW1⟩ : ∃ W1, W1 = w1.alloc (.cells #[.func (.func 214) #[] #[.pointer (some ⟨w.heap.size + 1 + 1, 0, none⟩), .pointer (some ⟨w.heap.size, 0, none⟩), .pointer (some ⟨w.heap.size + 1, 0, none⟩)]] 96) := ⟨_, rfl⟩
   have hb1 : Below w1.heap.size w1 W1 := by rw [hW1]; exact (Below.refl _ _).alloc (Nat.le_refl _) _
   have hF1 : Boxed W1 w1.heap.size 96 (.func (.func 214) #[] #[.pointer (some ⟨w.heap.size + 1 + 1, 0, none⟩), .pointer (some ⟨w.heap.size, 0, none⟩), .pointer (some ⟨w.heap.size + 1, 0, none⟩)]) := by rw [hW1]; exact Boxed.new w1 _ _
   have HA2 := Lib.hid (HA1.out.step hb1)
   have HO2 := Lib.hid (HO1.out.step hb1)
   have hz2 : W1.heap.size = w1.heap.size + 1 := by rw [hW1]; simp
   have HF1 := Lib.hid hF1; clear hF1
   rw [← hW1]
   clear hb1 hW1 q6 q7 q8 p6 p7 p8 k4 HO1
   have k4 := HA2.out.inn.b4.cell
   refine wp_loop_ghost_k (fun g a' w' => ∃ (c : Nat) (T : Array Value) (ds : List Deferred), c + g = N + 1 ∧ a' = { tmps := T, defers := ds } ∧ T.size = 46 ∧ T.getD 4 undef = .pointer (some ⟨w.heap.size + 1, 0, none⟩) ∧ T.getD 6 undef = .pointer (some ⟨w.heap.size + 1 + 1 + 1, 0, none⟩) ∧ T.getD 7 undef = .pointer (some ⟨w.heap.size + 1 + 1 + 1 + 1, 0, none⟩) ∧ T.getD 8 undef = .pointer (some ⟨w.heap.size + 1 + 1 + 1 + 1 + 1, 0, none⟩) ∧
     T.getD 11 undef = .pointer (some ⟨w1.heap.size, 0, none⟩) ∧ T.getD 29 undef = .int .i64 ((N : Int) + 1) ∧ T.getD 30 undef = .int .i64 (c : Int) ∧ (∀ c', c' < c → ∀ X, X ∈ Way.sets N c' 0 [] → Way.viol (nbOf G) sm X = false) ∧ Below W1.heap.size W1 w' ∧ Marks W1.heap.size ds w') (N + 1) ?h0 ?round
   case h0 => exact ⟨0, _, _, by omega, rfl, rfl, rfl, rfl, rfl, rfl, rfl, rfl, rfl, fun c' h => absurd h (by omega), Below.refl _ _, trivial⟩
   case round =>
     intro g a' w' hIn J' K' hJJ hK
     obtain ⟨c, T, ds, hc, rfl, hT, t4, t6, t7, t8, t11, t29, t30, hv, hB, hmk⟩ := hIn
     obtain ⟨u, rfl⟩ := frame_of 46 T hT
     replace t4 : u 4 = _ := t4
     replace t6 : u 6 = _ := t6
     replace t7 : u 7 = _ := t7
     replace t8 : u 8 = _ := t8
     replace t11 : u 11 = _ := t11
     replace t29 : u 29 = _ := t29
     replace t30 : u 30 = _ := t30
     rw [show ((List.range 46).map u).toArray = #[u 0, u 1, u 2, u 3, u 4, u 5, u 6, u 7, u 8, u 9, u 10, u 11, u 12, u 13, u 14, u 15, u 16, u 17, u 18, u 19, u 20, u 21, u 22, u 23, u 24, u 25, u 26, u 27, u 28, u 29, u 30, u 31, u 32, u 33, u 34, u 35, u 36, u 37, u 38, u 39, u 40, u 41, u 42, u 43, u 44, u 45] from rfl, t4, t6, t7, t8, t11, t29, t30]
     clear t4 t6 t7 t8 t11 t29 t30 hT
     have HV := Lib.hid hv; clear hv
     have HB := Lib.hid hB; clear hB
     have HMK := Lib.hid hmk; clear hmk
     have HCC := Lib.hid hc
     have HJK := Lib.hid hJJ; clear hJJ
     have HK := Lib.hid hK; clear hK
     have kb := HB.out.size
     have kn := (HA2.out.step HB.out).inn.b4.cell
     by_cases hlt : c < N + 1
     · have e1 : decide ((c : Int) < (N : Int) + 1) = true := by simp; omega
       have hbm : Below w'.heap.size w' (w'.alloc (.cells #[.int .i64 (c : Int)] 3)) := (Below.refl _ _).alloc (Nat.le_refl _) _
       have kn2 := cell_step hbm kn
       have hbx : Boxed (w'.alloc (.cells #[.int .i64 (c : Int)] 3)) w'.heap.size 3 (.int .i64 (c : Int)) := Boxed.new w' _ _
       have kn3 := hbx.cell
       have HBX := Lib.hid (And.intro hbm hbx); clear hbm hbx
       go_wp2_with fail
       refine (sets_any none 0 0 0 N c _).mono ?_
       rintro e w9 ⟨rfl, rfl⟩
       go_wp2_with fail
       obtain ⟨W9, hW9⟩ : ∃ W9, W9 = ((((w'.alloc (.cells #[.int .i64 (c : Int)] 3)).alloc (.cells #[.slice none 0 0] 25)).alloc (.cells #[.int .i64 0] 3)).alloc (.cells #[.int .i64 (N : Int)] 3)).alloc (.cells #[.int .i64 (c : Int)] 3) := ⟨_, rfl⟩
       obtain ⟨b0, b1, b2, b3, hb9, hs9⟩ := sets_boxes (w'.alloc (.cells #[.int .i64 (c : Int)] 3)) none 0 0 0 N c (w'.heap.size + 1) (by simp) W9 hW9
       rw [← hW9]
       clear hW9 kn2 kn3
       have hx9 := boxed_on HBX.out.2 hb9
       have hB9 : Below W1.heap.size W1 W9 := (HB.out.trans (HBX.out.1.mono HB.out.size)).trans (hb9.mono (by simp; omega))
       have hM9 := (HMK.out.kx (X := fun _ => False) (Kx.below HBX.out.1) (fun _ h => h.elim)).kx (X := fun _ => False) (Kx.below hb9) (fun _ h => h.elim)
       have hXl : ∀ b, fewX w.heap.size b → b < w1.heap.size := fun b h => by unfold fewX at h; omega
       have hseq := sets_ok N hN8 c 0 [] (w'.heap.size + 1 + 1 + 1 + 1) (w'.heap.size + 1) (w'.heap.size + 1 + 1) (w'.heap.size + 1 + 1 + 1) none 0 0 (fewX w.heap.size) W9 b3 b0 b1 b2 (Ints.empty _ _ _) (by simp; omega) (by omega)
         (fun b h => by have := hXl b h; omega) (fun b o e => by cases e) (fun h => by have := hXl _ h; omega) (fun h => by have := hXl _ h; omega) (fun h => by have := hXl _ h; omega) (fun h => by have := hXl _ h; omega)
       have HSQ := Lib.hid hseq; clear hseq b0 b1 b2 b3
       refine wp_rangeFunc_M (fun x : Sl => [(36, .slice x.a x.n x.c), (13, .slice x.a x.n x.c)]) (lb := #[.pointer (some ⟨w'.heap.size + 1 + 1 + 1 + 1, 0, none⟩), .pointer (some ⟨w'.heap.size + 1, 0, none⟩), .pointer (some ⟨w'.heap.size + 1 + 1, 0, none⟩), .pointer (some ⟨w'.heap.size + 1 + 1 + 1, 0, none⟩)]) ?hg
         (enters_of Tryz.func229 (by kernel_rfl) rfl) HSQ.out (fun b h => by have := hXl b h; omega) (Below.refl _ _) (fun _ => rfl) (fun x => own_gs _ _ x)
         (fun pre W' => (Below W1.heap.size W1 W' ∧ Marks W1.heap.size ds W') ∧ Boxed W' w'.heap.size 3 (.int .i64 (c : Int)) ∧ ∀ x, x ∈ pre → Way.viol (nbOf G) sm x.l = false)
         (fun cc pre W' => cc = .ret ∧ ∃ (pre' : List Sl) (x : Sl) (a : Option Addr) (n : Nat), pre = pre' ++ [x] ∧ (∀ y, y ∈ pre' → Way.viol (nbOf G) sm y.l = false) ∧ (Way.viol (nbOf G) sm x.l = true ∧ ∀ b o, a = some ⟨b, o, none⟩ → w.heap.size ≤ b) ∧ (OutAt3 W' w.heap.size (.slice a n n) true 0 ∧ Ints W' a n n (nats x.l)) ∧ Below w.heap.size w W' ∧ Marks W1.heap.size ds W')
         ?hI ?hIx ⟨⟨hB9, hM9⟩, hx9, fun x h => by cases h⟩ ?assign ?body ?done ?stop
       case hg => rfl
       case hI =>
         refine OwnFrom.and (OwnFrom.and (ownFrom_below (Nat.le_refl _) (by omega)) (ownFrom_marks hM9.lt)) (OwnFrom.and (Own.from (boxed_own _ _ _) _) (ownFrom_pure _ _))
       case hIx =>
         rintro cc s A B row ⟨h1, pre', x, a, n, h2, h3, h4, ⟨h5, h6⟩, h7, h8⟩ hg hr
         exact ⟨h1, pre', x, a, n, h2, h3, h4, ⟨out3_own _ _ _ _ _ () A B row h5 hg hr, own_ints _ _ _ _ _ () A B row h6 hg hr⟩, ownFrom_below (β := Unit) (Nat.le_refl _) (by have := HA2.out.below.size; omega) () A B row h7 hg hr, ownFrom_marks (β := Unit) hM9.lt () A B row h8 hg hr⟩
       case assign =>
         intro l' x W5 K hK
         gi_wp2
         exact hK
       case body =>
         rintro l' pre x W5 hG ⟨⟨hB5, hM5⟩, hX5, hpre⟩ hlt5
         have hF5 := boxed_past HF1.out hB5 (Nat.le_refl _)
         have hA5 := HA2.out.step hB5
         have hO5 := HO2.out.step hB5
         have kf := hF5.cell
         have kx := hX5.cell
         have HWI := Lib.hid (show ∀ Wz, Below W5.heap.size W5 Wz → Calls Tryz.prog 214 #[.slice x.a x.n x.c, .pointer (some ⟨w.heap.size + 1 + 1, 0, none⟩), .pointer (some ⟨w.heap.size, 0, none⟩), .pointer (some ⟨w.heap.size + 1, 0, none⟩)] Wz fun e W' => e = .returned (.int .i64 ((Sale.within (nbOf G) sm x.l).length : Nat)) ∧ (Below W5.heap.size W5 W' ∧ W'.cell? ⟨w'.heap.size, 0, none⟩ = some (.int .i64 (c : Int))) from fun Wz hbz =>
           (within_fn _ _ _ sa ga x.a sn sc gn gc x.n x.c G (N : Int) sm x.l Wz (hA5.step hbz).inn (HIN.out.g.below (hA5.step hbz).below (Nat.le_refl _)) (HIN.out.s.below (hA5.step hbz).below (Nat.le_refl _)) (Ints.below hG.1 hbz (Nat.le_refl _)) HIN.out.chk HIN.out.lt HIN.out.s8).mono fun e W' h => ⟨h.1, hbz.trans (h.2.mono hbz.size), (boxed_on (boxed_on hX5 hbz) h.2).cell⟩)
         have hdr : Below W5.heap.size W5 W5.drew := (Below.refl _ _).drew
         have hmx : Tryz.prog.follows .mixedOrders = true := by kernel_rfl
         have HG5 := Lib.hid hG; clear hG
         have HB5 := Lib.hid (And.intro hB5 (And.intro hM5 (And.intro hX5 (And.intro hpre (And.intro hA5 hO5))))); clear hB5 hM5 hX5 hpre hA5 hO5 hF5
         have HDR := Lib.hid hdr; clear hdr
         simp only [List.foldl_cons, List.foldl_nil, List.setIfInBounds_toArray, List.set_cons_zero, List.set_cons_succ]
         gi_wp2
         gi_region_with_o (refine ⟨trivial, ?_⟩; gi_at_call 214; refine (CallsIn.inRound l' (callsIn_wide.2 (HWI.out _ HDR.out))).mono ?_; rintro e W6 ⟨rfl, hb6, hc6⟩)
         all_goals
           have hO6 := HB5.out.2.2.2.2.2.step hb6
           have hA6 := HB5.out.2.2.2.2.1.step hb6
           have hM6 := HB5.out.2.1.kx (X := fun _ => False) (Kx.below hb6) (fun _ h => h.elim)
           have hB6 := HB5.out.1.trans (hb6.mono HB5.out.1.size)
           have hx6 := boxed_on HB5.out.2.2.1 hb6
           have hxn : x.n = c := by rw [← HG5.out.1.len]; simpa [nats] using HG5.out.2
           have HXN := Lib.hid hxn; clear hxn
           have hvl : Way.viol (nbOf G) sm x.l = decide (c < (Sale.within (nbOf G) sm x.l).length) := by unfold Way.viol; rw [HG5.out.2]; simp
           have hG6 := HG5.out.1.below hb6 (Nat.le_refl _)
           cases hvx : decide (c < (Sale.within (nbOf G) sm x.l).length) with
           | true =>
             have HVX := Lib.hid (hvl.trans hvx)
             have q6 := hO6.b6.cell
             have HH := Lib.hid (And.intro hO6 (And.intro hA6 (And.intro hM6 (And.intro hB6 (And.intro hx6 hG6))))); clear hO6 hA6 hM6 hB6 hx6 hG6 hvl
             have HB6 := Lib.hid hb6; clear hb6
             gi_wp2_with fail
             refine ⟨trivial, ?_⟩
             refine (CallsIn.inRound l' (callsIn_wide.2 (clone_any x.a x.n x.c (nats x.l) W6 HH.out.2.2.2.2.2 (by have := HXN.out; omega)))).mono ?_
             rintro e W7 ⟨v7, rfl, hown7, hb7⟩
             have hbase := hown7.base
             have hxl : (nats x.l).length ≤ 4611686018427387904 := by
               have h2 : x.l.length = c := by simpa using HG5.out.2
               simp [nats]; omega
             obtain ⟨a7, c7, rfl, hi7⟩ := hown7.ints hxl HG5.out.1.bd
             clear hxl
             have hO7 := HH.out.1.step hb7
             have q6 := hO7.b6.cell
             have q7 := hO7.b7.cell
             have q8 := hO7.b8.cell
             have p6 := hO7.b6.frozen
             have p7 := hO7.b7.frozen
             have p8 := hO7.b8.frozen
             have h8lt := HH.out.1.b8.lt
             have hfar : ∀ b o, a7 = some ⟨b, o, none⟩ → w.heap.size + 1 + 1 + 1 + 1 + 1 < b := fun b o e => by have := hbase b (by rw [e]; rfl); omega
             have HFAR := Lib.hid hfar; clear hfar
             have HO7 := Lib.hid hO7; clear hO7
             have HB7 := Lib.hid hb7; clear hb7
             have HI7 := Lib.hid hi7; clear hi7 hown7 hbase
             gi_wp2_with fail
             refine ⟨trivial, ?_⟩
             refine (CallsIn.inRound l' (callsIn_wide.2 (clip_any a7 _ c7 W7 HI7.out.cap))).mono ?_
             rintro e W8 ⟨rfl, rfl⟩
             gi_wp2_with fail
             have hks : Kx (fewX w.heap.size) W7 (((W7.setCell ⟨w.heap.size + 1 + 1 + 1, 0, none⟩ (.slice a7 (nats x.l).length (nats x.l).length)).setCell ⟨w.heap.size + 1 + 1 + 1 + 1, 0, none⟩ (.bool true)).setCell ⟨w.heap.size + 1 + 1 + 1 + 1 + 1, 0, none⟩ (.int .i64 0)) :=
               ((Kx.setCell (X := fewX w.heap.size) (.inl rfl) _).trans (Kx.setCell (.inr (.inl rfl)) _)).trans (Kx.setCell (.inr (.inr rfl)) _)
             refine ⟨((Kx.below HB6.out).trans (Kx.below HB7.out)).trans hks, rfl, pre, x, a7, (nats x.l).length, rfl, HB5.out.2.2.2.1, ⟨HVX.out, fun b o e => by have := HFAR.out b o e; omega⟩, ⟨HO7.out.set _ _ _, ((HI7.out.clip.away (fun b o e => by have := HFAR.out b o e; show b ≠ w.heap.size + 1 + 1 + 1; omega) _).away (fun b o e => by have := HFAR.out b o e; show b ≠ w.heap.size + 1 + 1 + 1 + 1; omega) _).away (fun b o e => by have := HFAR.out b o e; show b ≠ w.heap.size + 1 + 1 + 1 + 1 + 1; omega) _⟩, ?_, ?_⟩
             · have hB7 := (HH.out.2.1.step HB7.out).below
               exact ((hB7.setCell (p := ⟨w.heap.size + 1 + 1 + 1, 0, none⟩) (by simp; omega) _).setCell (p := ⟨w.heap.size + 1 + 1 + 1 + 1, 0, none⟩) (by simp; omega) _).setCell (p := ⟨w.heap.size + 1 + 1 + 1 + 1 + 1, 0, none⟩) (by simp; omega) _
             · exact (HH.out.2.2.1.kx (X := fun _ => False) (Kx.below HB7.out) (fun _ h => h.elim)).kx' hks fun D hD hx => by have := HH.out.2.2.1.at' D hD; unfold fewX at hx; omega
           | false =>
             have HVX := Lib.hid (hvl.trans hvx)
             have HH := Lib.hid (And.intro hO6 (And.intro hA6 (And.intro hM6 (And.intro hB6 (And.intro hx6 hG6))))); clear hO6 hA6 hM6 hB6 hx6 hG6 hvl
             have HB6 := Lib.hid hb6; clear hb6
             gi_wp2_with fail
             exact ⟨Kx.below HB6.out, ⟨HH.out.2.2.2.1, HH.out.2.2.1⟩, HH.out.2.2.2.2.1, fun y hy => by
               rcases List.mem_append.1 hy with hy | hy
               · exact HB5.out.2.2.2.1 y hy
               · rw [List.mem_singleton] at hy; subst hy; exact HVX.out⟩
       case done =>
         rintro D xs W5 hD hS ⟨⟨hB5, hM5⟩, hX5, hpre⟩ hK5
         have HM5 := Lib.hid (hM5.new (D := D) (by omega) hK5 fun D' hD' e => by have := hM9.lt D' hD'; omega); clear hM5 hK5
         have HB5 := Lib.hid hB5; clear hB5
         have HPP := Lib.hid (show ∀ c', c' < c + 1 → ∀ X, X ∈ Way.sets N c' 0 [] → Way.viol (nbOf G) sm X = false from fun c' hc' X hX => by
           rcases Nat.lt_or_ge c' c with h | h
           · exact HV.out c' h X hX
           · obtain rfl : c' = c := by omega
             rw [← hS] at hX
             obtain ⟨y, hy, rfl⟩ := List.mem_map.1 hX
             exact hpre y hy)
         clear hS hpre hX5
         go_wp2_with fail
         exact HK.out _ _ (Handed.intro (g - 1) (by omega) (HJK.out _ _ _ ⟨c + 1, _, _, by omega, rfl, rfl, rfl, rfl, rfl, rfl, rfl, rfl, by push_cast; rfl, HPP.out, HB5.out, HM5.out⟩))
       case stop =>
         rintro D c5 pre W5 hD hSp ⟨rfl, pre', x, a, n, rfl, hp', ⟨hvx, hfr⟩, ⟨hO5, hI5⟩, hB5, hM5⟩ hK5
         have HFR := Lib.hid hfr; clear hfr
         have HM5 := Lib.hid (hM5.new (D := D) (by omega) hK5 fun D' hD' e => by have := hM9.lt D' hD'; omega); clear hM5 hK5
         have hfew : Way.fewOf (nbOf G) N sm = some x.l := by
           rw [List.map_append] at hSp
           exact few_at hlt HV.out hSp (fun Y hY => by obtain ⟨y, hy, rfl⟩ := List.mem_map.1 hY; exact hp' y hy) hvx
         have HFEW := Lib.hid hfew; clear hfew
         have HZ := Lib.hid (And.intro (And.intro hO5 hI5) hB5); clear hO5 hI5 hB5 hSp hp' hvx
         go_wp2_with fail
         refine leaves_marks (B := W1.heap.size) (v := .tuple #[.slice a n n, .bool true, .int .i64 0]) (Z := fun _ W' => (OutAt3 W' w.heap.size (.slice a n n) true 0 ∧ Ints W' a n n (nats x.l)) ∧ Below w.heap.size w W') ?hZ ?hr ?hR _ _ HM5.out HZ.out
         case hZ => exact OwnFrom.and (OwnFrom.and (out3_own _ _ _ _ _) (own_ints _ _ _ _ _)) (ownFrom_below (Nat.le_refl _) (by have := HA2.out.below.size; omega))
         case hr => exact fun W' h => few_results rfl rfl rfl W' h.1.1
         case hR => exact fun W' h => ⟨h.2, by rw [HFEW.out]; exact ⟨a, n, rfl, h.1.2, HFR.out⟩⟩
     · have e1 : decide ((c : Int) < (N : Int) + 1) = false := by simp; omega
       have hO6 := HO2.out.step HB.out
       have q6 := hO6.b6.cell
       have q7 := hO6.b7.cell
       have q8 := hO6.b8.cell
       have p6 := hO6.b6.frozen
       have p7 := hO6.b7.frozen
       have p8 := hO6.b8.frozen
       have hB6 := (HA2.out.step HB.out).below
       have HZ := Lib.hid (And.intro hO6 hB6); clear hO6 hB6
       have hnone := few_none (nb := nbOf G) (sm := sm) (N := N) fun c' hc' => HV.out c' (by omega)
       have HNONE := Lib.hid hnone; clear hnone
       go_wp2_with fail
       refine leaves_marks (B := W1.heap.size) (v := .tuple #[.slice none 0 0, .bool false, .int .i64 0]) (Z := fun _ W' => OutAt3 W' w.heap.size (.slice none 0 0) false 0 ∧ Below w.heap.size w W') ?hZ ?hr ?hR _ _ ?hM ⟨?hO, ?hB⟩
       case hZ => exact OwnFrom.and (out3_own _ _ _ _ _) (ownFrom_below (Nat.le_refl _) (by have := HA2.out.below.size; omega))
       case hr => exact fun W' h => few_results rfl rfl rfl W' h.1
       case hR => exact fun W' h => ⟨h.2, by rw [HNONE.out]⟩
       case hM => exact HMK.out.kx' (((Kx.setCell (X := fewX w.heap.size) (.inl rfl) _).trans (Kx.setCell (.inr (.inl rfl)) _)).trans (Kx.setCell (.inr (.inr rfl)) _)) fun D hD hx => by have := HMK.out.at' D hD; unfold fewX at hx; omega
       case hO => exact HZ.out.1.set _ _ _
       case hB => exact ((HZ.out.2.setCell (p := ⟨w.heap.size + 1 + 1 + 1, 0, none⟩) (by simp; omega) _).setCell (p := ⟨w.heap.size + 1 + 1 + 1 + 1, 0, none⟩) (by simp; omega) _).setCell (p := ⟨w.heap.size + 1 + 1 + 1 + 1 + 1, 0, none⟩) (by simp; omega) _
end Go.Proofs.YtkddkkcfpnndlaaGreatDoor
