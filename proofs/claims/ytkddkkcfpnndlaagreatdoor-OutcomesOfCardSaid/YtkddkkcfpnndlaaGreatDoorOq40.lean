/- The book of lists: what the lists of one kind are at each stage, and what keeps that. Walks: lists are told to the book. Walks: what the book is told: lists, markets, outcomes; lists that lie apart. -/
import Derived.Test.YtkddkkcfpnndlaaGreatDoorOq33
import Derived.Deep.RegionLaw
namespace Go.Proofs.YtkddkkcfpnndlaaGreatDoor
open Go.RowKit

theorem cell_step0 {w w' : World} {b o : Nat} {v : Value} (hb : Below w.heap.size w w') (h : w.cell? ⟨b, o, none⟩ = some v) : w'.cell? ⟨b, o, none⟩ = some v := by
 rw [hb.cell (p := ⟨b, o, none⟩) (block_lt_of_cell h)]; exact h
structure Looked (P : World → Nat → Value → Prop) (T : TypeId) (w : World) (base : Nat) (y : Held) : Prop where
 ln : y.ln = y.n + 40
 short : MF P T w base y.a y.n y.c y.no
 long : MF P T w base y.la y.ln y.lc y.no
structure Raw (T HT : TypeId) (w : World) (base B : Nat) (v : Value) (l : List Held) : Prop where
 held : Helds HT w (B + 1) v l
 lots : Lots T w base B l
structure Full (P : World → Nat → Value → Prop) (T HT : TypeId) (w : World) (base B : Nat) (v : Value) (l : List Held) : Prop where
 raw : Raw T HT w base B v l
 full : ∀ (i : Nat) (x : Held), l[i]? = some x → MF P T w base x.a x.n x.c x.no
structure Long (P : World → Nat → Value → Prop) (T HT : TypeId) (w : World) (base B : Nat) (v : Value) (N : Nat) (l : List Held) : Prop where
 held : Helds HT w (B + 1) v l
 len : l.length = N
 looked : ∀ y, y ∈ l → Looked P T w base y
 no : ∀ y, y ∈ l → y.no ≤ 1000000 ∧ y.n ≤ 900000

def Off (S : Nat → Prop) (w : World) (T : TypeId) : Prop := ∀ b cur, w.heap[b]? = some (.cells cur T (0, 0)) → ¬ S b
def OffB (S : Nat → Prop) (w : World) (kb : Nat) : Prop := ∀ b cur, kb ≤ b → w.heap[b]? = some (.cells cur 3 (0, 0)) → ¬ S b

theorem Helds.off {HT : TypeId} {S : Nat → Prop} {w w' : World} {kb : Nat} {v : Value} {l : List Held} (h : Helds HT w kb v l) (hf : Fs S w w') (ho : Off S w HT) : Helds HT w' kb v l :=
 h.fr hf.fr (fun b _ ⟨cur, hc⟩ => ho b cur hc)
theorem MF.off {kb : Nat} {P : World → Nat → Value → Prop} {T : TypeId} (M : MkP kb T P) {S : Nat → Prop} {w w' : World} {base : Nat} {a : Option Addr} {n c no : Nat} (h : MF P T w base a n c no) (hf : Fs S w w') (ho : Off S w T) (hp : OffB S w kb) : MF P T w' base a n c no := by
 refine h.fs M hf (fun b o e hc _ => ?_) hp
 rcases h.lot with ⟨_, h0⟩ | ⟨b', o', cur, e', _, hh, _⟩
 · omega
 · rw [e] at e'; cases e'; exact ho b cur hh
theorem Raw.off {T HT : TypeId} {S : Nat → Prop} {w w' : World} {base B : Nat} {v : Value} {l : List Held} (h : Raw T HT w base B v l) (hf : Fs S w w') (ho : Off S w HT) : Raw T HT w' base B v l := ⟨h.held.off hf ho, h.lots.fs hf⟩
theorem Full.off {P : World → Nat → Value → Prop} {T HT : TypeId} {S : Nat → Prop} {w w' : World} {base B : Nat} {v : Value} {l : List Held} (M : MkP B T P) (h : Full P T HT w base B v l) (hf : Fs S w w') (ho : Off S w HT) (ho2 : Off S w T) (hp : OffB S w B) : Full P T HT w' base B v l :=
 ⟨h.raw.off hf ho, fun i x hx => (h.full i x hx).off M hf ho2 hp⟩
theorem Long.off {P : World → Nat → Value → Prop} {T HT : TypeId} {S : Nat → Prop} {w w' : World} {base B N : Nat} {v : Value} {l : List Held} (M : MkP B T P) (h : Long P T HT w base B v N l) (hf : Fs S w w') (ho : Off S w HT) (ho2 : Off S w T) (hp : OffB S w B) : Long P T HT w' base B v N l :=
 ⟨h.held.off hf ho, h.len, fun y hy => ⟨(h.looked y hy).ln, (h.looked y hy).short.off M hf ho2 hp, (h.looked y hy).long.off M hf ho2 hp⟩, h.no⟩

def Writ (T HT : TypeId) (w : World) (B : Nat) (S : Nat → Prop) : Prop := ∀ b, b < w.heap.size → S b → (b < B ∧ ∃ cur, w.heap[b]? = some (.cells cur T (0, 0))) ∨ ∃ cur, w.heap[b]? = some (.cells cur HT (0, 0))
theorem Writ.off {T HT T' : TypeId} {w : World} {B : Nat} {S : Nat → Prop} (h : Writ T HT w B S) (h1 : T' ≠ T) (h2 : T' ≠ HT) : Off S w T' := by
 intro b cur hb hS
 have hlt := (Array.getElem?_eq_some_iff.1 hb).1
 rcases h b hlt hS with ⟨_, cur', hc⟩ | ⟨cur', hc⟩
 · rw [hb] at hc; injection hc with e; injection e with _ e2; exact h1 e2
 · rw [hb] at hc; injection hc with e; injection e with _ e2; exact h2 e2
theorem Writ.offB {T HT : TypeId} {w : World} {B : Nat} {S : Nat → Prop} (h : Writ T HT w B S) (h2 : HT ≠ 3) : OffB S w B := by
 intro b cur hB hb hS
 have hlt := (Array.getElem?_eq_some_iff.1 hb).1
 rcases h b hlt hS with ⟨hl, _⟩ | ⟨cur', hc⟩
 · omega
 · rw [hb] at hc; injection hc with e; injection e with _ e2; exact h2 e2.symm
theorem Writ.blk {T HT : TypeId} {w : World} {base B : Nat} {l : List Held} (h : Lots T w base B l) : Writ T HT w B (Blk l) := by
 intro b _ ⟨x, hx, hc, o, e⟩
 obtain ⟨i, hi⟩ := List.getElem?_of_mem hx
 refine .inl ⟨h.lt b ⟨x, hx, hc, o, e⟩, ?_⟩
 rcases h.lot i x hi with ⟨_, h0⟩ | ⟨b', o', cur, e', _, hh, _⟩
 · omega
 · rw [e] at e'; cases e'; exact ⟨cur, hh⟩
theorem Writ.grow {T HT : TypeId} {w : World} {base B : Nat} {a : Option Addr} {c n : Nat} {l : List Held} (h : Raw T HT w base B (.slice a n c) l) : Writ T HT w B (fun b => (Blk l b ∨ ∃ o, a = some ⟨b, o, none⟩)) := by
 intro b hb hS
 rcases hS with hS | ⟨o, e⟩
 · exact Writ.blk h.lots b hb hS
 · right
   obtain ⟨h1, h2⟩ := h.held
   rcases h2 with ⟨e2, _⟩ | ⟨g, cap, cur, e2, hg, hh, _⟩
   · cases e2; cases e
   · cases e2; cases e; exact ⟨cur, hh⟩
theorem Lots.under {T : TypeId} {w : World} {base B : Nat} {l : List Held} (h : Lots T w base B l) {b : Nat} (hb : b < base) : ¬ Blk l b := by
 intro ⟨x, hx, hc, o, e⟩
 obtain ⟨i, hi⟩ := List.getElem?_of_mem hx
 rcases h.lot i x hi with ⟨_, h0⟩ | ⟨b', o', cur, e', h2, _⟩
 · omega
 · rw [e] at e'; cases e'; omega
theorem GrewTo.long {P : World → Nat → Value → Prop} {T HT : TypeId} {w wr : World} {base B : Nat} {a : Option Addr} {v : Value} {l l' : List Held} (h : GrewTo P T w wr base B a l l' l.length) (hh : Helds HT wr (B + 1) v l') (hno : ∀ x, x ∈ l → x.no ≤ 1000000 ∧ x.n ≤ 900000) : Long P T HT wr base B v l.length l' := by
 have key : ∀ y, y ∈ l' → ∃ (j : Nat) (x : Held), l[j]? = some x ∧ Grew P T w wr base x y ∧ x ∈ l ∧ MF P T wr base x.a x.n x.c x.no := by
   intro y hy
   obtain ⟨j, hj⟩ := List.getElem?_of_mem hy
   have hjl := (List.getElem?_eq_some_iff.1 hj).1
   rw [h.len] at hjl
   have hx : l[j]? = some l[j] := by simp [hjl]
   exact ⟨j, _, hx, h.done j _ y hjl hx hj, List.getElem_mem hjl, h.old j _ hx⟩
 refine ⟨hh, h.len, fun y hy => ?_, fun y hy => ?_⟩
 · obtain ⟨j, x, _, hg, _, ho⟩ := key y hy
   obtain ⟨e1, e2, e3, e4⟩ := hg.same
   refine ⟨by rw [hg.ln, e2], by rw [e1, e2, e3, e4]; exact ho, by rw [e4]; exact hg.long⟩
 · obtain ⟨j, x, _, hg, hm, _⟩ := key y hy
   obtain ⟨e1, e2, e3, e4⟩ := hg.same
   rw [e2, e4]; exact hno x hm
end Go.Proofs.YtkddkkcfpnndlaaGreatDoor

namespace Go.Proofs.YtkddkkcfpnndlaaGreatDoor
open Go.RowKit

theorem appHeldStep {ops : Array Oper} {o : Oper} {act : Act} {K : Act → World → Prop} {Q : Exit → Act → World → Prop} {E : Prop} {t T : TypeId} {i0 : TypeInfo} {z : Value} {bytes : Nat} (w : World) (hgd : o.guard = none) (s x : Operand)
   (ho : o.op = .call { callee := .builtin .append, args := #[s, x], argTypes := #[t, t] })
   (h1 : Tryz.prog.underlying t = some (.slice T)) (h2 : Tryz.prog.info? T = some i0) (h3 : i0.zero = some z) (h4 : i0.size = 3) (h5 : i0.bytes = bytes) (h6 : z.cells.size = 3) (hby : bytes ≤ 64)
   (kb : Nat) (v : Value) (l : List Held) (hown : Helds T w kb v l) (xb : Nat) (h : Held) (m : Nat) (hm : l.length = m) (hlen : m < 1000000) (hs : act.eval s = v) (hx : act.eval x = .slice (some ⟨xb, 0, none⟩) 1 1)
   (hc0 : w.cell? ⟨xb, 0, none⟩ = some (.slice h.a h.n h.c)) (hc1 : w.cell? ⟨xb, 1, none⟩ = some (.slice h.la h.ln h.lc)) (hc2 : w.cell? ⟨xb, 2, none⟩ = some (.int .i64 (h.no : Int))) (hbase : kb ≤ w.heap.size)
   (k : ∀ va vc w', Helds T w' kb (.slice va (m + 1) vc) (l ++ [h]) → w.grownBy w' v.ownBlock → Below kb w w' → K (act.put o.dst (.slice va (m + 1) vc)) w') : if Region.wanted o (yielded ops act.tmps) = true then Oper.wp Tryz.prog o act w K Q else E := by
 have hw : Region.wanted o (yielded ops act.tmps) = true := by simp [Region.wanted, hgd]
 rw [if_pos hw]
 subst hm
 have hbx : (l.length + 1) * bytes ≤ 140737488355328 := by
   have : (l.length + 1) * bytes ≤ 1000000 * 64 := Nat.mul_le_mul (by omega) hby
   omega
 have hnews : ∀ j u, h.cells[j]? = some u → w.cell? ((⟨xb, 0, none⟩ : Addr).add j) = some u := by
   intro j u hu
   match j, hu with
   | 0, hu => simp [Held.cells] at hu; subst hu; simpa [Addr.add] using hc0
   | 1, hu => simp [Held.cells] at hu; subst hu; simpa [Addr.add] using hc1
   | 2, hu => simp [Held.cells] at hu; subst hu; simpa [Addr.add] using hc2
   | j + 3, hu => simp [Held.cells] at hu
 obtain ⟨v', w', hr, e2, e3, e4, e5⟩ := run_append_own_at (P := Tryz.prog) (w := w) kb t o.type T i0 z 3 bytes h1 h2 h3 h4 h5 h6 (by omega) v l.length _ hown ⟨xb, 0, none⟩ 1 1 h.cells rfl hnews
   (by
     intro u hu
     simp [Held.cells] at hu
     rcases hu with rfl | rfl | rfl <;> rfl) (by unfold maxLen; omega) hbx hbase
 unfold Oper.wp execOp
 simp only [ho, resolve, invoke, builtin, Sem.run_bind, Sem.run_pure, Result.andThen_ok, List.map_toArray, List.map_cons, List.map_nil, hs, hx, hr]
 have h7 : Helds T w' kb v' (l ++ [h]) := by
   unfold Helds
   rw [heldCells_snoc, List.length_append]
   exact e2
 obtain ⟨va, vc, rfl, _⟩ := h7.form
 have e : (l ++ [h]).length = l.length + 1 := by rw [List.length_append]; rfl
 rw [e] at h7 ⊢
 exact k va vc w' h7 e3 ((Below.refl kb w).grown e3 hbase fun k hk => (World.ownsRow.lt hown k hk).1)

theorem Helds.kept {T T' : TypeId} {w w' : World} {kb kb' : Nat} {v v' : Value} {l l' : List Held} (h : Helds T w kb v l) (h' : Helds T' w kb' v' l') (hT : T ≠ T') (hg : w.grownBy w' v'.ownBlock) : Helds T w' kb v l := by
 obtain ⟨h1, h2⟩ := h
 refine ⟨h1, ?_⟩
 rcases h2 with h2 | ⟨g, cap, cur, e, hgk, hh, r⟩
 · exact .inl h2
 · refine .inr ⟨g, cap, cur, e, hgk, ?_, r⟩
   rw [hg.block g (Array.getElem?_eq_some_iff.1 hh).1 (fun e' => ?_)]
   · exact hh
   · obtain ⟨_, h3⟩ := h'
     rcases h3 with ⟨e3, _⟩ | ⟨g', cap', cur', e3, _, hh', _⟩
     · rw [e3] at e'; cases e'
     · rw [e3] at e'
       have e4 : g = g' := by injection e'
       rw [e4, hh'] at hh
       injection hh with e5; injection e5 with _ e6
       exact hT e6.symm
theorem Helds.below {T : TypeId} {w w' : World} {kb : Nat} {v : Value} {l : List Held} (h : Helds T w kb v l) (hb : Below w.heap.size w w') : Helds T w' kb v l :=
 h.fr (S := fun _ => False) (Fr.below hb) (fun _ _ _ h => h)

structure BookAt' (w : World) (B n : Nat) (vB vI vL : Value) (lB lI lL : List Held) : Prop where
 row : BookRow w B n vB vI vL
 bs : Helds 153 w (B + 1) vB lB
 is : Helds 151 w (B + 1) vI lI
 ls : Helds 149 w (B + 1) vL lL
def TheBook (w : World) (B n : Nat) (lB lI lL : List Held) : Prop := ∃ vB vI vL, BookAt' w B n vB vI vL lB lI lL
theorem BookAt'.step {w w' : World} {B n : Nat} {vB vI vL : Value} {lB lI lL : List Held} (h : BookAt' w B n vB vI vL lB lI lL) (hb : Below w.heap.size w w') : BookAt' w' B n vB vI vL lB lI lL :=
 ⟨h.row.fr (S := fun _ => False) (Fr.below hb) (fun h => h), h.bs.below hb, h.is.below hb, h.ls.below hb⟩
theorem TheBook.step {w w' : World} {B n : Nat} {lB lI lL : List Held} (h : TheBook w B n lB lI lL) (hb : Below w.heap.size w w') : TheBook w' B n lB lI lL := by
 obtain ⟨vB, vI, vL, h⟩ := h; exact ⟨vB, vI, vL, h.step hb⟩
theorem TheBook.new (w : World) : TheBook (w.alloc (.cells #[.int .i64 0, .slice none 0 0, .slice none 0 0, .slice none 0 0, .slice none 0 0, .slice none 0 0, .slice none 0 0, .slice none 0 0, .slice none 0 0, .slice none 0 0] 44)) w.heap.size 0 [] [] [] :=
 ⟨_, _, _, heap_alloc_new w _, Helds.nil _ _ _, Helds.nil _ _ _, Helds.nil _ _ _⟩
theorem bookCell0 {w : World} {B n m : Nat} {vB vI vL : Value} {lB lI lL : List Held} (h : BookAt' w B n vB vI vL lB lI lL) : BookAt' (w.setCell ⟨B, 0, none⟩ (.int .i64 (m : Int))) B m vB vI vL lB lI lL := by
 have hF : Fr (fun b => b = B) w (w.setCell ⟨B, 0, none⟩ (.int .i64 (m : Int))) := Fr.set (S := fun b => b = B) w ⟨B, 0, none⟩ rfl _
 refine ⟨?_, h.bs.fr hF ?_, h.is.fr hF ?_, h.ls.fr hF ?_⟩
 · have := VRow.set (show VRow w B _ _ from h.row) 0 (.int .i64 (m : Int))
   exact this
 all_goals
   intro b hb _ e
   have e' : b = B := e
   omega
theorem infoHeldInt : (Tryz.prog.info? 151).map (fun i => (i.zero, i.size, i.bytes)) = some (some (.agg #[.slice none 0 0, .slice none 0 0, .int .i64 0]), 3, 56) := by kernel_rfl
theorem infoHeldIntList : (Tryz.prog.info? 149).map (fun i => (i.zero, i.size, i.bytes)) = some (some (.agg #[.slice none 0 0, .slice none 0 0, .int .i64 0]), 3, 56) := by kernel_rfl
theorem bookGrown {W w' : World} {B n : Nat} {vB vI vL : Value} {row : Option Nat} (h : BookRow W B n vB vI vL) (hg : W.grownBy w' row) (hne : ∀ g, row = some g → B < g) : BookRow w' B n vB vI vL := by
 unfold BookRow VRow at *
 rw [hg.block B (Array.getElem?_eq_some_iff.1 h).1 (fun e => by have := hne B e.symm; omega)]; exact h
theorem Helds.own {T : TypeId} {w : World} {kb : Nat} {v : Value} {l : List Held} (h : Helds T w (kb + 1) v l) : ∀ g, v.ownBlock = some g → kb < g := by
 intro g e
 have := (World.ownsRow.lt h g e).1
 omega
theorem Helds.past {T : TypeId} {w : World} {B k : Nat} {v u : Value} {l : List Held} (h : Helds T w (B + 1) v l) : Helds T (w.setCell ⟨B, k, none⟩ u) (B + 1) v l :=
 h.fr (Fr.set (S := fun b => b = B) w ⟨B, k, none⟩ rfl _) (fun b hb _ e => by have e' : b = B := e; omega)
theorem bookPutInt {W w' : World} {B n : Nat} {vB vI vL v' : Value} {lB lI lL l' : List Held} (h : BookAt' W B n vB vI vL lB lI lL) (hg : W.grownBy w' vI.ownBlock) (hH : Helds 151 w' (B + 1) v' l') :
   BookAt' (w'.setCell ⟨B, 2, none⟩ v') B n vB v' vL lB l' lL ∧ w'.cell? ⟨B, 2, none⟩ = some vI ∧ w'.frozen? ⟨B, 2, none⟩ = false := by
 have hR := bookGrown h.row hg h.is.own
 exact ⟨⟨VRow.set (show VRow w' B _ _ from hR) 2 v', (Helds.kept h.bs h.is (by decide) hg).past, hH.past, (Helds.kept h.ls h.is (by decide) hg).past⟩, VRow.cell (show VRow w' B _ _ from hR) rfl, VRow.frozen (show VRow w' B _ _ from hR) 2⟩
theorem bookPutIntList {W w' : World} {B n : Nat} {vB vI vL v' : Value} {lB lI lL l' : List Held} (h : BookAt' W B n vB vI vL lB lI lL) (hg : W.grownBy w' vL.ownBlock) (hH : Helds 149 w' (B + 1) v' l') :
   BookAt' (w'.setCell ⟨B, 4, none⟩ v') B n vB vI v' lB lI l' ∧ w'.cell? ⟨B, 4, none⟩ = some vL ∧ w'.frozen? ⟨B, 4, none⟩ = false := by
 have hR := bookGrown h.row hg h.ls.own
 exact ⟨⟨VRow.set (show VRow w' B _ _ from hR) 4 v', (Helds.kept h.bs h.ls (by decide) hg).past, (Helds.kept h.is h.ls (by decide) hg).past, hH.past⟩, VRow.cell (show VRow w' B _ _ from hR) rfl, VRow.frozen (show VRow w' B _ _ from hR) 4⟩
structure Bf (B : Nat) (w w' : World) : Prop where
 low : Below B w w'
 rest : ∀ (b : Nat) (cur : Array Value) (T : TypeId), b ≠ B → T ≠ 153 → T ≠ 151 → T ≠ 149 → w.heap[b]? = some (.cells cur T (0, 0)) → w'.heap[b]? = w.heap[b]?
theorem Bf.refl (B : Nat) (w : World) : Bf B w w := ⟨Below.refl _ _, fun _ _ _ _ _ _ _ _ => rfl⟩
theorem Bf.trans {B : Nat} {w w1 w2 : World} (h : Bf B w w1) (k : Bf B w1 w2) : Bf B w w2 :=
 ⟨h.low.trans k.low, fun b cur T hb h1 h2 h3 hc => by
   have e := h.rest b cur T hb h1 h2 h3 hc
   rw [k.rest b cur T hb h1 h2 h3 (by rw [e]; exact hc), e]⟩
theorem Bf.below {B : Nat} {w w' : World} (h : Below w.heap.size w w') (hB : B ≤ w.heap.size) : Bf B w w' :=
 ⟨h.mono hB, fun b _ _ _ _ _ _ hc => h.block b (Array.getElem?_eq_some_iff.1 hc).1⟩
theorem Bf.set {B k : Nat} (w : World) (u : Value) : Bf B w (w.setCell ⟨B, k, none⟩ u) :=
 ⟨(Below.refl B w).setCell (p := ⟨B, k, none⟩) (Nat.le_refl B) u, fun b _ _ hb _ _ _ _ => heap_setCell_other w ⟨B, k, none⟩ b u hb⟩
theorem Bf.grown {B : Nat} {w w' : World} {v : Value} {l : List Held} {T' : TypeId} (h : Helds T' w (B + 1) v l) (hT : T' = 153 ∨ T' = 151 ∨ T' = 149) (hg : w.grownBy w' v.ownBlock) (hl : Below (B + 1) w w') : Bf B w w' := by
 refine ⟨hl.mono (Nat.le_succ _), fun b cur T hb h1 h2 h3 hc => hg.block b (Array.getElem?_eq_some_iff.1 hc).1 (fun e => ?_)⟩
 obtain ⟨_, h4⟩ := h
 rcases h4 with ⟨e3, _⟩ | ⟨g', cap', cur', e3, _, hh', _⟩
 · rw [e3] at e; cases e
 · rw [e3] at e
   have e4 : b = g' := by injection e
   rw [e4, hh'] at hc
   injection hc with e5; injection e5 with _ e6
   rcases hT with hT | hT | hT
   · exact h1 (e6.symm.trans hT)
   · exact h2 (e6.symm.trans hT)
   · exact h3 (e6.symm.trans hT)
theorem Bf.row {B : Nat} {w w' : World} (h : Bf B w w') {b : Nat} {T : TypeId} {vals : List Value} (hv : VRow w b T vals) (hb : b ≠ B) (h1 : T ≠ 153 := by decide) (h2 : T ≠ 151 := by decide) (h3 : T ≠ 149 := by decide) : VRow w' b T vals := by
  unfold VRow at *
  rw [h.rest b _ T hb h1 h2 h3 hv]; exact hv
set_option maxHeartbeats 1000000 in
theorem keepInt_any (B n : Nat) (a : Option Addr) (m c : Nat) (lB lI lL : List Held) (w : World) (h : TheBook w B n lB lI lL) (hn : n < 900000) (hl : lI.length < 900000) :
   Calls Tryz.prog 65 #[.pointer (some ⟨B, 0, none⟩), .slice a m c] w (fun e w' => (∃ v, e = .returned v) ∧ TheBook w' B (n + 1) lB (lI ++ [⟨a, m, c, none, 0, 0, n + 1⟩]) lL ∧ Bf B w w') := by
 obtain ⟨vB, vI, vL, h⟩ := h
 obtain ⟨i0, hi, hz0, hz1, hz2⟩ := info_parts infoHeldInt
 have HI := Lib.hid hi; clear hi
 have HZ0 := Lib.hid hz0; clear hz0
 have HZ1 := Lib.hid hz1; clear hz1
 have HZ2 := Lib.hid hz2; clear hz2
 obtain ⟨va, vc, ev, hlc, hcm, _⟩ := h.is.form
 subst ev
 have hBlt : B < w.heap.size := VRow.lt (show VRow w B _ _ from h.row)
 have hb0 : Bf B w (w.setCell ⟨B, 0, none⟩ (.int .i64 ((n + 1 : Nat) : Int))) := Bf.set w _
 have h2 := bookCell0 (m := n + 1) h
 have c0 := h.row.cells.1
 have e1 : (((n + 1 : Nat)) : Int) = (n : Int) + 1 := by omega
 rw [e1] at hb0 h2
 clear e1
 have f0 : w.frozen? ⟨B, 0, none⟩ = false := VRow.frozen (show VRow w B _ _ from h.row) 0
 obtain ⟨w1, hw1⟩ : ∃ w1, w1 = w.setCell ⟨B, 0, none⟩ (.int .i64 ((n : Int) + 1)) := ⟨_, rfl⟩
 rw [← hw1] at hb0 h2
 have hs1 : w1.heap.size = w.heap.size := by rw [hw1]; simp
 have HS1 := Lib.hid hs1; clear hs1
 have HW1 := Lib.hid hw1; clear hw1
 have HB0 := Lib.hid hb0; clear hb0
 have HH := Lib.hid h; clear h
 have HC := Lib.hid (And.intro hlc hcm); clear hlc hcm
 have d0 := h2.row.cells.1
 have d1 := h2.row.cells.2.2.1
 have hB1 : B < w1.heap.size := VRow.lt (show VRow w1 B _ _ from h2.row)
 have fz : ∀ k, w1.frozen? ⟨B, k, none⟩ = false := fun k => VRow.frozen (show VRow w1 B _ _ from h2.row) k
 have fzk := fz 2
 clear fz
 have e2 : (((n + 1 : Nat)) : Int) = (n : Int) + 1 := by omega
 rw [e2] at d0
 clear e2
 have H2 := Lib.hid h2; clear h2
 obtain ⟨m0, hm0⟩ : ∃ m0, m0 = lI.length := ⟨_, rfl⟩
 rw [← hm0] at d1 hl
 have HM0 := Lib.hid hm0; clear hm0
 go_enter Tryz.func65, Tryz.ntmps65
 go_wp2_with fail
 rw [← HW1.out]
 have hal : Below w1.heap.size w1 (w1.drew.alloc (.cells #[.slice a m c, .slice none 0 0, .int .i64 ((n : Int) + 1)] 151)) := ((Below.refl _ _).drew).alloc (Nat.le_refl _) _
 have hvr : VRow (w1.drew.alloc (.cells #[.slice a m c, .slice none 0 0, .int .i64 ((n : Int) + 1)] 151)) w1.heap.size 151 [.slice a m c, .slice none 0 0, .int .i64 ((n : Int) + 1)] := heap_alloc_new w1.drew _
 have HAL := Lib.hid hal; clear hal
 have HVR := Lib.hid hvr; clear hvr
 go_region_law (first | (refine appHeldStep _ rfl _ _ rfl Tryz.underlying35 HI.out HZ0.out HZ1.out HZ2.out rfl (by decide) (B + 1) (.slice va m0 vc) lI ?_ w1.heap.size ⟨a, m, c, none, 0, 0, n + 1⟩ m0 HM0.out.symm ?_ ?_ ?_ ?_ ?_ ?_ ?_ ?_; (focus (rw [HM0.out]; exact (H2.out.step HAL.out).is)); (focus omega); (focus go_simp); (focus go_simp); (focus (exact HVR.out.cell (k := 0) rfl)); (focus (exact HVR.out.cell (k := 1) rfl)); (focus (exact HVR.out.cell (k := 2) rfl)); (focus (simp; omega)); intro va' vc' w' hH' hgr' hb'; rw [HM0.out] at hgr'; have hpp := bookPutInt (H2.out.step HAL.out) hgr' hH'; have cpp := hpp.2.1; rw [← HM0.out] at cpp; have fpp := hpp.2.2; have HPP := Lib.hid hpp.1; have HBB := Lib.hid (Bf.grown (H2.out.step HAL.out).is (.inr (.inl rfl)) hgr' hb'); clear hpp hH' hgr' hb'))
 all_goals
   clear cpp fpp
   go_wp2_with fail
   go_end0
   exact ⟨⟨_, rfl⟩, ⟨_, _, _, HPP.out⟩, ((HB0.out.trans (Bf.below HAL.out (Nat.le_of_lt hB1))).trans HBB.out).trans (Bf.set _ _)⟩

set_option maxHeartbeats 1000000 in
theorem keepIntList_any (B n : Nat) (a : Option Addr) (m c : Nat) (lB lI lL : List Held) (w : World) (h : TheBook w B n lB lI lL) (hn : n < 900000) (hl : lL.length < 900000) :
   Calls Tryz.prog 64 #[.pointer (some ⟨B, 0, none⟩), .slice a m c] w (fun e w' => (∃ v, e = .returned v) ∧ TheBook w' B (n + 1) lB lI (lL ++ [⟨a, m, c, none, 0, 0, n + 1⟩]) ∧ Bf B w w') := by
 obtain ⟨vB, vI, vL, h⟩ := h
 obtain ⟨i0, hi, hz0, hz1, hz2⟩ := info_parts infoHeldIntList
 have HI := Lib.hid hi; clear hi
 have HZ0 := Lib.hid hz0; clear hz0
 have HZ1 := Lib.hid hz1; clear hz1
 have HZ2 := Lib.hid hz2; clear hz2
 obtain ⟨va, vc, ev, hlc, hcm, _⟩ := h.ls.form
 subst ev
 have hBlt : B < w.heap.size := VRow.lt (show VRow w B _ _ from h.row)
 have hb0 : Bf B w (w.setCell ⟨B, 0, none⟩ (.int .i64 ((n + 1 : Nat) : Int))) := Bf.set w _
 have h2 := bookCell0 (m := n + 1) h
 have c0 := h.row.cells.1
 have e1 : (((n + 1 : Nat)) : Int) = (n : Int) + 1 := by omega
 rw [e1] at hb0 h2
 clear e1
 have f0 : w.frozen? ⟨B, 0, none⟩ = false := VRow.frozen (show VRow w B _ _ from h.row) 0
 obtain ⟨w1, hw1⟩ : ∃ w1, w1 = w.setCell ⟨B, 0, none⟩ (.int .i64 ((n : Int) + 1)) := ⟨_, rfl⟩
 rw [← hw1] at hb0 h2
 have hs1 : w1.heap.size = w.heap.size := by rw [hw1]; simp
 have HS1 := Lib.hid hs1; clear hs1
 have HW1 := Lib.hid hw1; clear hw1
 have HB0 := Lib.hid hb0; clear hb0
 have HH := Lib.hid h; clear h
 have HC := Lib.hid (And.intro hlc hcm); clear hlc hcm
 have d0 := h2.row.cells.1
 have d1 := h2.row.cells.2.2.2
 have hB1 : B < w1.heap.size := VRow.lt (show VRow w1 B _ _ from h2.row)
 have fz : ∀ k, w1.frozen? ⟨B, k, none⟩ = false := fun k => VRow.frozen (show VRow w1 B _ _ from h2.row) k
 have fzk := fz 4
 clear fz
 have e2 : (((n + 1 : Nat)) : Int) = (n : Int) + 1 := by omega
 rw [e2] at d0
 clear e2
 have H2 := Lib.hid h2; clear h2
 obtain ⟨m0, hm0⟩ : ∃ m0, m0 = lL.length := ⟨_, rfl⟩
 rw [← hm0] at d1 hl
 have HM0 := Lib.hid hm0; clear hm0
 go_enter Tryz.func64, Tryz.ntmps64
 go_wp2_with fail
 rw [← HW1.out]
 have hal : Below w1.heap.size w1 (w1.drew.alloc (.cells #[.slice a m c, .slice none 0 0, .int .i64 ((n : Int) + 1)] 149)) := ((Below.refl _ _).drew).alloc (Nat.le_refl _) _
 have hvr : VRow (w1.drew.alloc (.cells #[.slice a m c, .slice none 0 0, .int .i64 ((n : Int) + 1)] 149)) w1.heap.size 149 [.slice a m c, .slice none 0 0, .int .i64 ((n : Int) + 1)] := heap_alloc_new w1.drew _
 have HAL := Lib.hid hal; clear hal
 have HVR := Lib.hid hvr; clear hvr
 go_region_law (first | (refine appHeldStep _ rfl _ _ rfl Tryz.underlying37 HI.out HZ0.out HZ1.out HZ2.out rfl (by decide) (B + 1) (.slice va m0 vc) lL ?_ w1.heap.size ⟨a, m, c, none, 0, 0, n + 1⟩ m0 HM0.out.symm ?_ ?_ ?_ ?_ ?_ ?_ ?_ ?_; (focus (rw [HM0.out]; exact (H2.out.step HAL.out).ls)); (focus omega); (focus go_simp); (focus go_simp); (focus (exact HVR.out.cell (k := 0) rfl)); (focus (exact HVR.out.cell (k := 1) rfl)); (focus (exact HVR.out.cell (k := 2) rfl)); (focus (simp; omega)); intro va' vc' w' hH' hgr' hb'; rw [HM0.out] at hgr'; have hpp := bookPutIntList (H2.out.step HAL.out) hgr' hH'; have cpp := hpp.2.1; rw [← HM0.out] at cpp; have fpp := hpp.2.2; have HPP := Lib.hid hpp.1; have HBB := Lib.hid (Bf.grown (H2.out.step HAL.out).ls (.inr (.inr rfl)) hgr' hb'); clear hpp hH' hgr' hb'))
 all_goals
   clear cpp fpp
   go_wp2_with fail
   go_end0
   exact ⟨⟨_, rfl⟩, ⟨_, _, _, HPP.out⟩, ((HB0.out.trans (Bf.below HAL.out (Nat.le_of_lt hB1))).trans HBB.out).trans (Bf.set _ _)⟩
end Go.Proofs.YtkddkkcfpnndlaaGreatDoor

namespace Go.Proofs.YtkddkkcfpnndlaaGreatDoor
open Go.RowKit

structure Slc where
 a : Option Addr
 n : Nat
 c : Nat
def slc (h : Held) : Slc := ⟨h.a, h.n, h.c⟩

structure Seg (T : TypeId) (w : World) (lo hi : Nat) (rs : List Slc) : Prop where
 lot : ∀ x, x ∈ rs → Lot T w lo x.a x.n x.c
 lt : ∀ x, x ∈ rs → ∀ b o, x.a = some ⟨b, o, none⟩ → 0 < x.c → b < hi
 apart : rs.Pairwise fun x y => ∀ b o o', 0 < x.c → 0 < y.c → x.a = some ⟨b, o, none⟩ → y.a ≠ some ⟨b, o', none⟩
theorem Lot.lower {T : TypeId} {w : World} {lo lo' : Nat} {a : Option Addr} {n c : Nat} (h : Lot T w lo a n c) (hl : lo' ≤ lo) : Lot T w lo' a n c := by
 rcases h with h | ⟨b, o, cur, e, hb, r⟩
 · exact .inl h
 · exact .inr ⟨b, o, cur, e, Nat.le_trans hl hb, r⟩
theorem Lot.keep {T : TypeId} {w w' : World} {lo hi : Nat} {a : Option Addr} {n c : Nat} (h : Lot T w lo a n c) (hlt : ∀ b o, a = some ⟨b, o, none⟩ → 0 < c → b < hi) (hb : Below hi w w') : Lot T w' lo a n c := by
 rcases h with h | ⟨b, o, cur, e, hlo, hh, hc, hn⟩
 · exact .inl h
 · rcases Nat.eq_zero_or_pos c with e0 | h0
   · subst e0
     exact .inl ⟨by omega, rfl⟩
   · exact .inr ⟨b, o, cur, e, hlo, by rw [hb.block b (hlt b o e h0)]; exact hh, hc, hn⟩
theorem Lot.block {T : TypeId} {w : World} {lo : Nat} {a : Option Addr} {n c : Nat} (h : Lot T w lo a n c) {b o : Nat} (e : a = some ⟨b, o, none⟩) (hc : 0 < c) : lo ≤ b ∧ b < w.heap.size := by
 rcases h with ⟨_, h0⟩ | ⟨b', o', cur, e', hlo, hh, _⟩
 · omega
 · rw [e] at e'; cases e'; exact ⟨hlo, (Array.getElem?_eq_some_iff.1 hh).1⟩
theorem Seg.nil (T : TypeId) (w : World) (lo hi : Nat) : Seg T w lo hi [] := ⟨fun x h => (by cases h), fun x h => (by cases h), List.Pairwise.nil⟩
theorem Seg.keep {T : TypeId} {w w' : World} {lo hi : Nat} {rs : List Slc} (h : Seg T w lo hi rs) (hb : Below hi w w') : Seg T w' lo hi rs :=
 ⟨fun x hx => (h.lot x hx).keep (h.lt x hx) hb, h.lt, h.apart⟩
theorem Seg.wide {T : TypeId} {w : World} {lo hi lo' hi' : Nat} {rs : List Slc} (h : Seg T w lo hi rs) (h1 : lo' ≤ lo) (h2 : hi ≤ hi') : Seg T w lo' hi' rs :=
 ⟨fun x hx => (h.lot x hx).lower h1, fun x hx b o e hc => Nat.lt_of_lt_of_le (h.lt x hx b o e hc) h2, h.apart⟩
theorem Seg.append {T : TypeId} {w : World} {lo mid hi : Nat} {r1 r2 : List Slc} (h1 : Seg T w lo mid r1) (h2 : Seg T w mid hi r2) (hl : lo ≤ mid) (hh : mid ≤ hi) : Seg T w lo hi (r1 ++ r2) := by
 refine ⟨fun x hx => ?_, fun x hx b o e hc => ?_, ?_⟩
 · rcases List.mem_append.1 hx with h | h
   · exact h1.lot x h
   · exact (h2.lot x h).lower hl
 · rcases List.mem_append.1 hx with h | h
   · exact Nat.lt_of_lt_of_le (h1.lt x h b o e hc) hh
   · exact h2.lt x h b o e hc
 · rw [List.pairwise_append]
   refine ⟨h1.apart, h2.apart, fun x hx y hy b o o' hc hc' e e' => ?_⟩
   have a := h1.lt x hx b o e hc
   have b' := ((h2.lot y hy).block e' hc').1
   omega

def BookHas (w : World) (B n : Nat) (sB sI sL : List Slc) : Prop := ∃ lB lI lL, TheBook w B n lB lI lL ∧ lB.map slc = sB ∧ lI.map slc = sI ∧ lL.map slc = sL ∧ lB.length + lI.length + lL.length = n ∧ ∀ h, h ∈ lB ∨ h ∈ lI ∨ h ∈ lL → h.no ≤ n
theorem BookHas.step {w w' : World} {B n : Nat} {sB sI sL : List Slc} (h : BookHas w B n sB sI sL) (hb : Below w.heap.size w w') : BookHas w' B n sB sI sL := by
 obtain ⟨lB, lI, lL, h1, h2⟩ := h
 exact ⟨lB, lI, lL, h1.step hb, h2⟩
theorem BookHas.lt {w : World} {B n : Nat} {sB sI sL : List Slc} (h : BookHas w B n sB sI sL) : B < w.heap.size := by
 obtain ⟨lB, lI, lL, ⟨vB, vI, vL, h1⟩, h2⟩ := h
 exact VRow.lt (show VRow w B _ _ from h1.row)
theorem BookHas.new (w : World) : BookHas (w.alloc (.cells #[.int .i64 0, .slice none 0 0, .slice none 0 0, .slice none 0 0, .slice none 0 0, .slice none 0 0, .slice none 0 0, .slice none 0 0, .slice none 0 0, .slice none 0 0] 44)) w.heap.size 0 [] [] [] :=
 ⟨[], [], [], TheBook.new w, rfl, rfl, rfl, rfl, fun h hh => by simp at hh⟩

theorem keepInt_has (B n : Nat) (a : Option Addr) (m c : Nat) (sB sI sL : List Slc) (w : World) (h : BookHas w B n sB sI sL) (hn : n < 900000) :
   Calls Tryz.prog 65 #[.pointer (some ⟨B, 0, none⟩), .slice a m c] w (fun e w' => (∃ v, e = .returned v) ∧ BookHas w' B (n + 1) sB (sI ++ [⟨a, m, c⟩]) sL ∧ Bf B w w') := by
 obtain ⟨lB, lI, lL, h1, rfl, rfl, rfl, h5, h6⟩ := h
 refine (keepInt_any B n a m c lB lI lL w h1 hn (by omega)).mono ?_
 rintro e w' ⟨he, hk, hb⟩
 refine ⟨he, ⟨_, _, _, hk, rfl, by simp [slc], rfl, by simp; omega, fun h hh => ?_⟩, hb⟩
 rcases hh with hh | hh | hh
 · have := h6 h (.inl hh); omega
 · rcases List.mem_append.1 hh with hh | hh
   · have := h6 h (.inr (.inl hh)); omega
   · simp at hh; subst hh; exact Nat.le_refl _
 · have := h6 h (.inr (.inr hh)); omega
theorem keepIntList_has (B n : Nat) (a : Option Addr) (m c : Nat) (sB sI sL : List Slc) (w : World) (h : BookHas w B n sB sI sL) (hn : n < 900000) :
   Calls Tryz.prog 64 #[.pointer (some ⟨B, 0, none⟩), .slice a m c] w (fun e w' => (∃ v, e = .returned v) ∧ BookHas w' B (n + 1) sB sI (sL ++ [⟨a, m, c⟩]) ∧ Bf B w w') := by
 obtain ⟨lB, lI, lL, h1, rfl, rfl, rfl, h5, h6⟩ := h
 refine (keepIntList_any B n a m c lB lI lL w h1 hn (by omega)).mono ?_
 rintro e w' ⟨he, hk, hb⟩
 refine ⟨he, ⟨_, _, _, hk, rfl, rfl, by simp [slc], by simp; omega, fun h hh => ?_⟩, hb⟩
 rcases hh with hh | hh | hh
 · have := h6 h (.inl hh); omega
 · have := h6 h (.inr (.inl hh)); omega
 · rcases List.mem_append.1 hh with hh | hh
   · have := h6 h (.inr (.inr hh)); omega
   · simp at hh; subst hh; exact Nat.le_refl _

theorem bInts_any (B n : Nat) (a : Option Addr) (m c : Nat) (sB sI sL : List Slc) (w : World) (h : BookHas w B n sB sI sL) (hn : n < 900000) :
   Calls Tryz.prog 17 #[.pointer (some ⟨B, 0, none⟩), .slice a m c] w (fun e w' => (∃ v, e = .returned v) ∧ BookHas w' B (n + 1) sB (sI ++ [⟨a, m, c⟩]) sL ∧ Bf B w w') := by
 have HC := Lib.hid (keepInt_has B n a m c sB sI sL w h hn); clear h
 go_enter Tryz.func17, Tryz.ntmps17
 go_wp2_with fail
 refine HC.out.mono ?_
 rintro e w' ⟨⟨v, rfl⟩, hk, hb⟩
 have HK := Lib.hid hk; clear hk
 have HB := Lib.hid hb; clear hb
 go_wp2_with fail
 go_end0
 exact ⟨⟨_, rfl⟩, HK.out, HB.out⟩

def LiesAt (w : World) (B : Nat) (a : Option Addr) (m : Nat) (rs : List Slc) : Prop := rs.length = m ∧ (0 < m → ∃ b o, a = some ⟨b, o, none⟩ ∧ b < B ∧ ∀ k x, rs[k]? = some x → w.cell? ⟨b, o + k, none⟩ = some (.slice x.a x.n x.c))
set_option maxHeartbeats 1000000 in
theorem bIntLists_any (B n : Nat) (a : Option Addr) (m c : Nat) (rs : List Slc) (sB sI sL : List Slc) (w : World) (h : BookHas w B n sB sI sL) (hl : LiesAt w B a m rs) (hn : n + m < 900000) :
   Calls Tryz.prog 16 #[.pointer (some ⟨B, 0, none⟩), .slice a m c] w (fun e w' => (∃ v, e = .returned v) ∧ BookHas w' B (n + m + 1) sB (sI ++ rs) (sL ++ [⟨a, m, c⟩]) ∧ Bf B w w') := by
 have HH := Lib.hid h; clear h
 have HL := Lib.hid hl; clear hl
 go_enter Tryz.func16, Tryz.ntmps16
 go_wp2_with fail
 go_loopg [4] m (fun g' s4 wr => ∃ k : Nat, k + g' = m ∧ s4 = .int .i64 k ∧ BookHas wr B (n + k) sB (sI ++ rs.take k) sL ∧ Bf B w wr)
 case atStart => exact ⟨0, by omega, rfl, by simpa using HH.out, Bf.refl _ _⟩
 case round =>
   obtain ⟨k, hk, rfl, hH, hB⟩ := hrel
   have HK := Lib.hid hk; clear hk
   have HH2 := Lib.hid hH; clear hH
   by_cases hlt : k < m
   · obtain ⟨b, o, rfl, hbB, hc⟩ := HL.out.2 (by omega)
     obtain ⟨x, hx⟩ : ∃ x, rs[k]? = some x := ⟨rs[k]'(by rw [HL.out.1]; exact hlt), by simp⟩
     have hcx := hc k x hx
     have cx : wr.cell? ⟨b, o + k, none⟩ = some (.slice x.a x.n x.c) := by rw [hB.low.cell (p := ⟨b, o + k, none⟩) hbB]; exact hcx
     clear hc hcx
     have HX := Lib.hid hx; clear hx
     have HB2 := Lib.hid hB; clear hB
     have HC := Lib.hid (bInts_any B (n + k) x.a x.n x.c sB (sI ++ rs.take k) sL wr HH2.out (by omega))
     have i1 : (k : Int) < (m : Int) := by omega
     go_wp2_with fail
     refine HC.out.mono ?_
     rintro e w' ⟨⟨v, rfl⟩, hk2, hb2⟩
     have HK2 := Lib.hid hk2; clear hk2
     have HB3 := Lib.hid hb2; clear hb2
     go_wp2_with fail
     go_roundg (gk - 1)
     case measure => have := HK.out; omega
     case rel => exact ⟨k + 1, by have := HK.out; omega, by go_num, by rw [List.take_add_one, HX.out, ← List.append_assoc]; exact HK2.out, HB2.out.trans HB3.out⟩
   · obtain rfl : k = m := by have := HK.out; omega
     have hll := HL.out.1
     have HH3 := HH2.out
     rw [List.take_of_length_le (by omega)] at HH3
     have HC := Lib.hid (keepIntList_has B (n + k) a k c sB (sI ++ rs) sL wr HH3 (by omega))
     clear HH3 hll
     have HB2 := Lib.hid hB; clear hB
     go_wp2_with fail
     refine HC.out.mono ?_
     rintro e w' ⟨⟨v, rfl⟩, hk2, hb2⟩
     have HK2 := Lib.hid hk2; clear hk2
     have HB3 := Lib.hid hb2; clear hb2
     go_wp2_with fail
     go_end0
     exact ⟨⟨_, rfl⟩, HK2.out, HB2.out.trans HB3.out⟩
theorem LiesAt.keep {w w' : World} {B : Nat} {a : Option Addr} {m : Nat} {rs : List Slc} (h : LiesAt w B a m rs) (hb : Below B w w') : LiesAt w' B a m rs :=
 ⟨h.1, fun hm => by
   obtain ⟨b, o, e, h1, h2⟩ := h.2 hm
   exact ⟨b, o, e, h1, fun k x hx => by rw [hb.cell (p := ⟨b, o + k, none⟩) h1]; exact h2 k x hx⟩⟩
set_option maxHeartbeats 1000000 in
theorem bMarket_any (B n : Nat) (ra ba oa : Option Addr) (rn rc bn bc on oc : Nat) (rs : List Slc) (sB sI sL : List Slc) (w : World) (h : BookHas w B n sB sI sL) (hl : LiesAt w B ba bn rs) (hn : n + bn < 800000) :
   Calls Tryz.prog 30 #[.pointer (some ⟨B, 0, none⟩), .agg #[.slice ra rn rc, .slice ba bn bc, .slice oa on oc]] w (fun e w' => (∃ v, e = .returned v) ∧ BookHas w' B (n + bn + 3) sB (sI ++ ([⟨ra, rn, rc⟩] ++ rs ++ [⟨oa, on, oc⟩])) (sL ++ [⟨ba, bn, bc⟩]) ∧ Bf B w w') := by
 obtain ⟨w0, hw0⟩ : ∃ w0, w0 = w.alloc (.cells #[.slice ra rn rc, .slice ba bn bc, .slice oa on oc] 57) := ⟨_, rfl⟩
 have hb0 : Below w.heap.size w w0 := by rw [hw0]; exact (Below.refl _ _).alloc (Nat.le_refl _) _
 have hv0 : VRow w0 w.heap.size 57 [.slice ra rn rc, .slice ba bn bc, .slice oa on oc] := by rw [hw0]; exact heap_alloc_new w _
 have hBw := h.lt
 have hne : w.heap.size ≠ B := Nat.ne_of_gt hBw
 have c0 : w0.cell? ⟨w.heap.size, 0, none⟩ = some (.slice ra rn rc) := VRow.cell hv0 rfl
 have HV0 := Lib.hid hv0; clear hv0
 have HF0 := Lib.hid (Bf.below hb0 (Nat.le_of_lt hBw))
 have HL := Lib.hid (hl.keep HF0.out.low); clear hl
 have HC0 := Lib.hid (bInts_any B n ra rn rc sB sI sL w0 (h.step hb0) (by omega)); clear h hb0
 have hw0' := hw0.symm
 clear hw0
 go_enter Tryz.func30, Tryz.ntmps30
 go_wp2_with fail
 try rw [hw0']
 clear hw0'
 refine HC0.out.mono ?_
 rintro e w1 ⟨⟨v, rfl⟩, hk1, hf1⟩
 have hv1 := hf1.row HV0.out hne
 have c1 : w1.cell? ⟨w.heap.size, 1, none⟩ = some (.slice ba bn bc) := VRow.cell hv1 rfl
 have HV1 := Lib.hid hv1; clear hv1 c0
 have HC1 := Lib.hid (bIntLists_any B (n + 1) ba bn bc rs sB (sI ++ [⟨ra, rn, rc⟩]) sL w1 hk1 (HL.out.keep hf1.low) (by omega)); clear hk1
 have HF1 := Lib.hid hf1; clear hf1
 go_wp2_with fail
 refine HC1.out.mono ?_
 rintro e w2 ⟨⟨v, rfl⟩, hk2, hf2⟩
 have hv2 := hf2.row HV1.out hne
 have c2 : w2.cell? ⟨w.heap.size, 2, none⟩ = some (.slice oa on oc) := VRow.cell hv2 rfl
 clear hv2 c1
 have HC2 := Lib.hid (bInts_any B (n + 1 + bn + 1) oa on oc sB (sI ++ [⟨ra, rn, rc⟩] ++ rs) (sL ++ [⟨ba, bn, bc⟩]) w2 hk2 (by omega)); clear hk2
 have HF2 := Lib.hid hf2; clear hf2
 go_wp2_with fail
 refine HC2.out.mono ?_
 rintro e w3 ⟨⟨v, rfl⟩, hk3, hf3⟩
 have HK3 := Lib.hid hk3; clear hk3
 have HF3 := Lib.hid hf3; clear hf3
 go_wp2_with fail
 go_end0
 refine ⟨⟨_, rfl⟩, ?_, ((HF0.out.trans HF1.out).trans HF2.out).trans HF3.out⟩
 have := HK3.out
 rw [show n + 1 + bn + 1 + 1 = n + bn + 3 by omega] at this
 simpa [List.append_assoc] using this
set_option maxHeartbeats 1000000 in
theorem bOutcome_any (B n : Nat) (ha pa : Option Addr) (hn hc pn pc : Nat) (sB sI sL : List Slc) (w : World) (h : BookHas w B n sB sI sL) (hnn : n < 800000) :
   Calls Tryz.prog 39 #[.pointer (some ⟨B, 0, none⟩), .agg #[.slice ha hn hc, .slice pa pn pc]] w (fun e w' => (∃ v, e = .returned v) ∧ BookHas w' B (n + 2) sB (sI ++ [⟨ha, hn, hc⟩, ⟨pa, pn, pc⟩]) sL ∧ Bf B w w') := by
 obtain ⟨w0, hw0⟩ : ∃ w0, w0 = w.alloc (.cells #[.slice ha hn hc, .slice pa pn pc] 70) := ⟨_, rfl⟩
 have hb0 : Below w.heap.size w w0 := by rw [hw0]; exact (Below.refl _ _).alloc (Nat.le_refl _) _
 have hv0 : VRow w0 w.heap.size 70 [.slice ha hn hc, .slice pa pn pc] := by rw [hw0]; exact heap_alloc_new w _
 have hBw := h.lt
 have hne : w.heap.size ≠ B := Nat.ne_of_gt hBw
 have c0 : w0.cell? ⟨w.heap.size, 0, none⟩ = some (.slice ha hn hc) := VRow.cell hv0 rfl
 have HV0 := Lib.hid hv0; clear hv0
 have HF0 := Lib.hid (Bf.below hb0 (Nat.le_of_lt hBw))
 have HC0 := Lib.hid (bInts_any B n ha hn hc sB sI sL w0 (h.step hb0) (by omega)); clear h hb0
 have hw0' := hw0.symm
 clear hw0
 go_enter Tryz.func39, Tryz.ntmps39
 go_wp2_with fail
 try rw [hw0']
 clear hw0'
 refine HC0.out.mono ?_
 rintro e w1 ⟨⟨v, rfl⟩, hk1, hf1⟩
 have hv1 := hf1.row HV0.out hne
 have c1 : w1.cell? ⟨w.heap.size, 1, none⟩ = some (.slice pa pn pc) := VRow.cell hv1 rfl
 clear hv1 c0
 have HC1 := Lib.hid (bInts_any B (n + 1) pa pn pc sB (sI ++ [⟨ha, hn, hc⟩]) sL w1 hk1 (by omega)); clear hk1
 have HF1 := Lib.hid hf1; clear hf1
 go_wp2_with fail
 refine HC1.out.mono ?_
 rintro e w2 ⟨⟨v, rfl⟩, hk2, hf2⟩
 have HK2 := Lib.hid hk2; clear hk2
 have HF2 := Lib.hid hf2; clear hf2
 go_wp2_with fail
 go_end0
 refine ⟨⟨_, rfl⟩, ?_, (HF0.out.trans HF1.out).trans HF2.out⟩
 have := HK2.out
 simpa [List.append_assoc] using this
end Go.Proofs.YtkddkkcfpnndlaaGreatDoor
