import Derived.WalkKit
import Derived.Laws.CopyOwn
import Derived.Deep.Draws
import Derived.Laws.AppendOwnNone
import Derived.Maps.AppendAt
import Derived.OwnWalk
import Derived.Laws.BytesArg
import Derived.Lib.ConvBytes
import Derived.Test.YtmffdlebahdihaaChecked
import Derived.WalkLawsBesides
import Derived.Lib.Hide
import Derived.Laws.BitsLemmas
import Derived.RowKit
/- Words on memory: a row of cells known whole, what changes and what stays, bytes in a row. No program in sight. -/
namespace Go.Proofs.Ytmffdlebahdihaa.Mem
open Go Go.RowKit
set_option linter.unusedVariables false

/-! ### A row known whole -/
theorem blk_lt {w : World} {g : Nat} {o : Obj} (h : w.heap[g]? = some o) : g < w.heap.size := (Array.getElem?_eq_some_iff.1 h).1
theorem blk_cell {w : World} {g : Nat} {cs : Array Value} {t : TypeId} {fr : Nat × Nat} (h : w.heap[g]? = some (.cells cs t fr)) (i : Nat) : w.cell? ⟨g, i, none⟩ = cs[i]? := by
  simp [World.cell?, h]
theorem blk_frozen {w : World} {g : Nat} {cs : Array Value} {t : TypeId} (h : w.heap[g]? = some (.cells cs t (0, 0))) (i : Nat) : w.frozen? ⟨g, i, none⟩ = false := by
  simp [World.frozen?, h]
theorem setRow_other (w : World) (g : Nat) (cs : Array Value) (b : Nat) (h : b ≠ g) : (w.setRow g cs).heap[b]? = w.heap[b]? := by
  simp only [World.setRow, Array.getElem?_modify]
  rw [if_neg (by omega)]
theorem setRow_size (w : World) (g : Nat) (cs : Array Value) : (w.setRow g cs).heap.size = w.heap.size := by simp [World.setRow]
theorem setRow_twice (w : World) (g : Nat) (a b : Array Value) : (w.setRow g a).setRow g b = w.setRow g b := by
  unfold World.setRow
  congr 1
  apply Array.ext_getElem?
  intro i
  simp only [Array.getElem?_modify]
  split
  · cases w.heap[i]? with
    | none => rfl
    | some o => cases o <;> rfl
  · rfl
theorem setCell_row {w : World} {g : Nat} {cs : Array Value} {t : TypeId} {fr : Nat × Nat} (h : w.heap[g]? = some (.cells cs t fr)) (i : Nat) (v : Value) :
    w.setCell ⟨g, i, none⟩ v = w.setRow g (cs.setIfInBounds i v) := by
  unfold World.setCell World.setRow
  congr 1
  apply Array.ext_getElem?
  intro j
  simp only [Array.getElem?_modify]
  split
  · rename_i e
    subst e
    rw [h]; rfl
  · rfl
theorem setRow_same {w : World} {g : Nat} {cs : Array Value} {t : TypeId} {fr : Nat × Nat} (h : w.heap[g]? = some (.cells cs t fr)) : w.setRow g cs = w := setRow_self w g cs t fr h

/-! ### What changes: nothing that was there outside S -/
structure Chg (S : Nat → Prop) (w w' : World) : Prop where
  os : w'.os = w.os
  tape : w'.tape = w.tape
  output : w'.output = w.output
  size : w.heap.size ≤ w'.heap.size
  block : ∀ b, b < w.heap.size → ¬ S b → w'.heap[b]? = w.heap[b]?
theorem Chg.refl (S : Nat → Prop) (w : World) : Chg S w w := ⟨rfl, rfl, rfl, Nat.le_refl _, fun _ _ _ => rfl⟩
theorem Chg.trans {S : Nat → Prop} {a b c : World} (h : Chg S a b) (k : Chg S b c) : Chg S a c :=
  ⟨k.os.trans h.os, k.tape.trans h.tape, k.output.trans h.output, Nat.le_trans h.size k.size, fun i hi hs => (k.block i (Nat.lt_of_lt_of_le hi h.size) hs).trans (h.block i hi hs)⟩
theorem Chg.mono {S T : Nat → Prop} {a b : World} (h : Chg S a b) (st : ∀ i, i < a.heap.size → S i → T i) : Chg T a b :=
  ⟨h.os, h.tape, h.output, h.size, fun i hi hs => h.block i hi fun s => hs (st i hi s)⟩
theorem Chg.alloc (S : Nat → Prop) (w : World) (o : Obj) : Chg S w (w.alloc o) := ⟨rfl, rfl, rfl, by simp, fun b hb _ => Below.heap_alloc w o b hb⟩
theorem Chg.drew (S : Nat → Prop) (w : World) : Chg S w w.drew := ⟨rfl, rfl, rfl, Nat.le_refl _, fun _ _ _ => rfl⟩
theorem Chg.drewN (S : Nat → Prop) (w : World) (n : Nat) : Chg S w (w.drewN n) := ⟨rfl, rfl, rfl, Nat.le_refl _, fun _ _ _ => rfl⟩
theorem Chg.setRow {S : Nat → Prop} (w : World) (g : Nat) (cs : Array Value) (hg : S g) : Chg S w (w.setRow g cs) :=
  ⟨rfl, rfl, rfl, by rw [setRow_size]; exact Nat.le_refl _, fun b _ hb => setRow_other w g cs b fun e => hb (e ▸ hg)⟩
theorem Chg.setCell {S : Nat → Prop} (w : World) (a : Addr) (v : Value) (hg : S a.block) : Chg S w (w.setCell a v) :=
  ⟨rfl, rfl, rfl, by simp, fun b _ hb => Below.heap_setCell w a v b fun e => hb (e ▸ hg)⟩
theorem Chg.of_below {S : Nat → Prop} {w w' : World} (h : Below w.heap.size w w') : Chg S w w' := ⟨h.os, h.tape, h.output, h.size, fun b hb _ => h.block b hb⟩
theorem Chg.below {S : Nat → Prop} {w w' : World} {B : Nat} (h : Chg S w w') (hB : B ≤ w.heap.size) (hS : ∀ b, S b → B ≤ b) : Below B w w' :=
  ⟨h.os, h.tape, h.output, h.size, fun b hb => h.block b (Nat.lt_of_lt_of_le hb hB) fun s => by have := hS b s; omega⟩
theorem Chg.keep {S : Nat → Prop} {w w' : World} (h : Chg S w w') {g : Nat} {o : Obj} (hg : w.heap[g]? = some o) (hs : ¬ S g) : w'.heap[g]? = some o := (h.block g (blk_lt hg) hs).trans hg
theorem Chg.cell {S : Nat → Prop} {w w' : World} (h : Chg S w w') {a : Addr} {v : Value} (hc : w.cell? a = some v) (hs : ¬ S a.block) : w'.cell? a = some v := by
  rw [World.cell?_of_block (w := w) (h.block a.block (World.block_lt_of_cell? w a hc) hs)]; exact hc

/-- nothing has turned but the count of answers drawn -/
def Dr (w w' : World) : Prop := ∃ n, w' = w.drewN n
theorem Dr.refl (w : World) : Dr w w := ⟨0, rfl⟩
theorem Dr.step {w w' : World} (h : Dr w w') (n : Nat) : Dr w (w'.drewN n) := by
  obtain ⟨m, rfl⟩ := h
  exact ⟨m + n, by simp [World.drewN, Nat.add_assoc]⟩
theorem Dr.trans {a b c : World} (h : Dr a b) (k : Dr b c) : Dr a c := by
  obtain ⟨n, rfl⟩ := k
  exact h.step n
theorem Dr.chg {w w' : World} (h : Dr w w') (S : Nat → Prop) : Chg S w w' := by
  obtain ⟨n, rfl⟩ := h
  exact Chg.drewN S w n

/-! ### Numbers in a row -/
/-- numbers as values of one kind -/
def nums (k : IntKind) (l : List Int) : List Value := l.map (.int k)
theorem nums_length (k : IntKind) (l : List Int) : (nums k l).length = l.length := by simp [nums]
theorem nums_get (k : IntKind) (l : List Int) (j : Nat) (h : j < l.length) : (nums k l)[j]? = some (.int k (l.getD j 0)) := by
  simp [nums, List.getElem?_eq_getElem h, List.getD_eq_getElem?_getD]
/-- from offset o of block g on lie these numbers -/
def At (w : World) (k : IntKind) (g o : Nat) (l : List Int) : Prop := ∀ j, j < l.length → w.cell? ⟨g, o + j, none⟩ = some (.int k (l.getD j 0))
theorem At.cell {w : World} {k : IntKind} {g o : Nat} {l : List Int} (h : At w k g o l) (j : Nat) (hj : j < l.length) : w.cell? ⟨g, o + j, none⟩ = some (.int k (l.getD j 0)) := h j hj
theorem At.of_blk {w : World} {k : IntKind} {g o : Nat} {l : List Int} {cs : Array Value} {t : TypeId} {fr : Nat × Nat} (h : w.heap[g]? = some (.cells cs t fr))
    (hl : ∀ j, j < l.length → cs[o + j]? = some (.int k (l.getD j 0))) : At w k g o l := fun j hj => (blk_cell h _).trans (hl j hj)
theorem At.chg {w w' : World} {k : IntKind} {g o : Nat} {l : List Int} {S : Nat → Prop} (h : At w k g o l) (hc : Chg S w w') (hs : ¬ S g) : At w' k g o l := fun j hj => hc.cell (h j hj) hs
theorem At.sub {w : World} {k : IntKind} {g o : Nat} {l : List Int} (h : At w k g o l) (i n : Nat) (hn : i + n ≤ l.length) : At w k g (o + i) ((l.drop i).take n) := by
  intro j hj
  have hj' : j < n ∧ i + j < l.length := by simp at hj; omega
  have := h (i + j) hj'.2
  rw [Nat.add_assoc, this]
  congr 2
  simp [List.getD_eq_getElem?_getD, hj'.1]

theorem add_block (ad : Addr) (i : Nat) : (ad.add i).block = ad.block := by unfold Addr.add; split <;> rfl
theorem add_add (ad : Addr) (i j : Nat) : (ad.add i).add j = ad.add (i + j) := by
  unfold Addr.add
  by_cases hi : i = 0
  · subst hi; simp
  · by_cases hj : j = 0
    · subst hj; simp [hi]
    · rw [if_neg hi, if_neg hj, if_neg (by omega)]; simp only [Addr.mk.injEq, and_true, true_and]; omega
theorem add_plain (g o i : Nat) : (⟨g, o, none⟩ : Addr).add i = ⟨g, o + i, none⟩ := by
  unfold Addr.add
  split
  · rename_i h; subst h; rfl
  · rfl
/-- a slice value's elements are these numbers -/
def Sl (w : World) (k : IntKind) (A : Option Addr) (l : List Int) : Prop := ∀ i, i < l.length → ∃ ad, A = some ad ∧ w.cell? (ad.add i) = some (.int k (l.getD i 0))
theorem Sl.chg {w w' : World} {k : IntKind} {A : Option Addr} {l : List Int} {S : Nat → Prop} (h : Sl w k A l) (hc : Chg S w w') (hs : ∀ ad, A = some ad → ¬ S ad.block) : Sl w' k A l := by
  intro i hi
  obtain ⟨ad, e, c⟩ := h i hi
  refine ⟨ad, e, hc.cell c ?_⟩
  rw [add_block]
  exact hs ad e
/-- what lay there before a change of new blocks alone lies there still -/
theorem Sl.later {w w' : World} {k : IntKind} {A : Option Addr} {l : List Int} {B : Nat} (h : Sl w k A l) (hc : Chg (fun b => B ≤ b) w w') (hB : w.heap.size ≤ B) : Sl w' k A l := by
  intro i hi
  obtain ⟨ad, e, c⟩ := h i hi
  refine ⟨ad, e, hc.cell c ?_⟩
  have := World.block_lt_of_cell? w _ c
  show ¬ B ≤ (ad.add i).block
  omega
/-- a slice that came in -/
structure RowOf (w : World) (k : IntKind) (A : Option Addr) (c : Nat) (l : List Int) (b : Nat) : Prop where
  cap : l.length ≤ c
  most : c ≤ maxLen
  reach : l.length * b ≤ 140737488351232
  sl : Sl w k A l
  wf : ∀ x ∈ l, (Lit.int k x).wf = true
  nil : A = none → l = [] ∧ c = 0
theorem RowOf.none (w : World) (k : IntKind) (b : Nat) : RowOf w k none 0 [] b := ⟨by simp, by unfold maxLen; omega, by simp, fun i hi => by simp at hi, fun x hx => by simp at hx, fun _ => ⟨rfl, rfl⟩⟩
theorem RowOf.some {w : World} {k : IntKind} {x : Addr} {n c b : Nat} {zs : List Int} (h : n ≤ c) (hm : c ≤ maxLen) (hz : zs.length = c) (hc : ∀ i, i < zs.length → w.cell? (x.add i) = some (.int k (zs.getD i 0)))
    (hw : ∀ y ∈ zs, (Lit.int k y).wf = true) (hr : n * b ≤ 140737488351232) : RowOf w k (some x) c (zs.take n) b := by
  have hl : (zs.take n).length = n := by rw [List.length_take]; omega
  refine ⟨by omega, hm, by rw [hl]; exact hr, fun i hi => ⟨x, rfl, ?_⟩, fun y hy => hw y (List.mem_of_mem_take hy), fun h => by cases h⟩
  rw [hc i (by omega)]
  congr 2
  simp [List.getD_eq_getElem?_getD, show i < n by omega]
theorem Sl.nil (w : World) (k : IntKind) (A : Option Addr) : Sl w k A [] := fun i hi => by simp at hi


/-! ### A piece of a row -/
theorem splice_get {α : Type} (L cs : List α) (off : Nat) (h : off + cs.length ≤ L.length) (i : Nat) : (splice L off cs)[i]? = if off ≤ i ∧ i < off + cs.length then cs[i - off]? else L[i]? := by
  unfold splice
  have hl : (L.take off).length = off := by rw [List.length_take]; omega
  by_cases h1 : i < off
  · rw [if_neg (by omega), List.getElem?_append_left (by omega), List.getElem?_take, if_pos h1]
  · rw [List.getElem?_append_right (by omega), hl]
    by_cases h2 : i < off + cs.length
    · rw [if_pos ⟨by omega, h2⟩, List.getElem?_append_left (by omega)]
    · rw [if_neg (by omega), List.getElem?_append_right (by omega), List.getElem?_drop]
      congr 1; omega
theorem splice_none {α : Type} (L : List α) (off : Nat) : splice L off [] = L := by simp [splice]
theorem splice_step (k : IntKind) (cs : List Value) (O j : Nat) (l : List Int) (h : j < l.length) (hf : O + l.length ≤ cs.length) :
    (splice cs O (nums k (l.take j))).set (O + j) (.int k (l.getD j 0)) = splice cs O (nums k (l.take (j + 1))) := by
  have z1 : (nums k (l.take j)).length = j := by rw [nums_length, List.length_take]; omega
  have z2 : (nums k (l.take (j + 1))).length = j + 1 := by rw [nums_length, List.length_take]; omega
  apply List.ext_getElem?
  intro i
  rw [List.getElem?_set, length_splice _ _ _ (by omega), splice_get _ _ _ (by omega), splice_get _ _ _ (by omega), z1, z2]
  have hn : ∀ m, m < j + 1 → (nums k (l.take (j + 1)))[m]? = some (.int k (l.getD m 0)) := fun m hm => by
    rw [nums_get k _ m (by rw [List.length_take]; omega)]
    congr 2
    simp [List.getD_eq_getElem?_getD, hm]
  have hn' : ∀ m, m < j → (nums k (l.take j))[m]? = some (.int k (l.getD m 0)) := fun m hm => by
    rw [nums_get k _ m (by rw [List.length_take]; omega)]
    congr 2
    simp [List.getD_eq_getElem?_getD, hm]
  by_cases e : O + j = i
  · subst e
    rw [if_pos rfl, if_pos (by omega), if_pos (by omega), hn (O + j - O) (by omega)]
    congr 3; omega
  · rw [if_neg e]
    by_cases h1 : O ≤ i ∧ i < O + j
    · rw [if_pos h1, if_pos (by omega), hn _ (by omega), hn' _ (by omega)]
    · rw [if_neg h1, if_neg (by omega)]

/-- a row's cells with a piece laid in are the numbers with it laid in -/
theorem splice_cells (k : IntKind) (cs : List Value) (o a : Nat) (l bs : List Int) (hf : o + l.length ≤ cs.length) (hb : a + bs.length ≤ l.length) (hc : ∀ j, j < l.length → cs[o + j]? = some (.int k (l.getD j 0))) :
    ∀ j, j < l.length → (splice cs (o + a) (nums k bs))[o + j]? = some (.int k ((splice l a bs).getD j 0)) := by
  intro j hj
  rw [splice_get _ _ _ (by rw [nums_length]; omega), nums_length, List.getD_eq_getElem?_getD, splice_get _ _ _ hb]
  by_cases h : a ≤ j ∧ j < a + bs.length
  · have e : o + j - (o + a) = j - a := by omega
    rw [if_pos (by omega), if_pos h, e, nums_get k bs (j - a) (by omega), List.getD_eq_getElem?_getD]
  · rw [if_neg (by omega), if_neg h, hc j hj, List.getD_eq_getElem?_getD]

end Go.Proofs.Ytmffdlebahdihaa.Mem

/- Rows of the call's own: what append makes out of a list of numbers, wherever they lie. No program in sight. -/
namespace Go.Proofs.Ytmffdlebahdihaa.Mem
open Go Go.RowKit
set_option linter.unusedVariables false

/-- a row of the call's own from block base on, with these numbers -/
def Own (w : World) (base : Nat) (e : TypeId) (k : IntKind) (v : Value) (l : List Int) : Prop := w.ownsRow base e 1 v l.length (nums k l)
theorem Own.form {w : World} {base : Nat} {e : TypeId} {k : IntKind} {v : Value} {l : List Int} (h : Own w base e k v l) : ∃ A c, v = .slice A l.length c := by
  rcases h.2 with ⟨rfl, h0⟩ | ⟨g, cap, cur, rfl, _⟩
  · exact ⟨none, 0, by rw [h0]⟩
  · exact ⟨_, _, rfl⟩
theorem Own.sl {w : World} {base : Nat} {e : TypeId} {k : IntKind} {A : Option Addr} {n c : Nat} {l : List Int} (h : Own w base e k (.slice A n c) l) : Sl w k A l := by
  intro i hi
  rcases h.2 with ⟨h0, h1⟩ | ⟨g, cap, cur, hv, hg, hh, hn, hm, hs, ht⟩
  · omega
  · injection hv with hA _ _
    subst hA
    refine ⟨_, rfl, ?_⟩
    exact World.ownsRow.cells (v := .slice (some ⟨g, 0, none⟩) n c) h rfl i _ (nums_get k l i hi)
theorem Own.base {w : World} {base : Nat} {e : TypeId} {k : IntKind} {A : Option Addr} {n c : Nat} {l : List Int} (h : Own w base e k (.slice A n c) l) : ∀ ad, A = some ad → base ≤ ad.block ∧ ad.block < w.heap.size ∧ ad = ⟨ad.block, 0, none⟩ := by
  intro ad e
  subst e
  rcases h.2 with ⟨h0, _⟩ | ⟨g, cap, cur, hv, hg, hh, _⟩
  · cases h0
  · injection hv with hA _ _
    injection hA with hA
    subst hA
    exact ⟨hg, blk_lt hh, rfl⟩
/-- the row as it lies -/
theorem Own.blk {w : World} {base : Nat} {e : TypeId} {k : IntKind} {A : Option Addr} {n c : Nat} {l : List Int} (h : Own w base e k (.slice A n c) l) (hl : 0 < l.length) :
    ∃ g, ∃ cs : List Value, A = some ⟨g, 0, none⟩ ∧ base ≤ g ∧ w.heap[g]? = some (.cells cs.toArray e (0, 0)) ∧ n = l.length ∧ l.length ≤ cs.length ∧ cs.length = c ∧ c ≤ maxLen ∧ ∀ j, j < l.length → cs[j]? = some (.int k (l.getD j 0)) := by
  rcases h.2 with ⟨h0, h1⟩ | ⟨g, cap, cur, hv, hg, hh, hn, hm, hs, ht⟩
  · omega
  · injection hv with hA hn' hc
    subst hA hc
    have hcs : cur.toList.length = c := by rw [Array.length_toList, hs, Nat.mul_one]
    refine ⟨g, cur.toList, rfl, hg, by simpa using hh, hn', by omega, hcs, hm, fun j hj => ?_⟩
    have h2 : (nums k l)[j]? = some (.int k (l.getD j 0)) := nums_get k l j hj
    rw [← ht, List.getElem?_take, if_pos (by omega)] at h2
    exact h2
theorem Own.of_blk {w : World} {base g c : Nat} {e : TypeId} {k : IntKind} {l : List Int} {cs : List Value} (hg : base ≤ g) (hh : w.heap[g]? = some (.cells cs.toArray e (0, 0))) (h1 : l.length ≤ cs.length) (h2 : cs.length = c) (h3 : c ≤ maxLen)
    (h : ∀ j, j < l.length → cs[j]? = some (.int k (l.getD j 0))) : Own w base e k (.slice (some ⟨g, 0, none⟩) l.length c) l := by
  refine ⟨by rw [nums_length, Nat.mul_one], .inr ⟨g, c, cs.toArray, rfl, hg, hh, by omega, h3, by simpa using h2, ?_⟩⟩
  apply List.ext_getElem?
  intro j
  simp only [Nat.mul_one]
  rw [List.getElem?_take]
  by_cases hj : j < l.length
  · rw [if_pos hj, nums_get k l j hj, ← h j hj]
  · rw [if_neg hj, List.getElem?_eq_none (by rw [nums_length]; omega)]
theorem Own.chg {w w' : World} {base : Nat} {e : TypeId} {k : IntKind} {v : Value} {l : List Int} {S : Nat → Prop} (h : Own w base e k v l) (hc : Chg S w w') (hs : ∀ g, v.ownBlock = some g → ¬ S g) : Own w' base e k v l := by
  refine ⟨h.1, ?_⟩
  rcases h.2 with h2 | ⟨g, cap, cur, rfl, hg, hh, r⟩
  · exact .inl h2
  · exact .inr ⟨g, cap, cur, rfl, hg, hc.keep hh (hs g rfl), r⟩
theorem Own.mono {w : World} {base base' : Nat} {e : TypeId} {k : IntKind} {v : Value} {l : List Int} (h : Own w base e k v l) (hb : base' ≤ base) : Own w base' e k v l := by
  refine ⟨h.1, ?_⟩
  rcases h.2 with h2 | ⟨g, cap, cur, rfl, hg, r⟩
  · exact .inl h2
  · exact .inr ⟨g, cap, cur, rfl, Nat.le_trans hb hg, r⟩
theorem Own.nil (w : World) (base : Nat) (e : TypeId) (k : IntKind) : Own w base e k (.slice none 0 0) [] := World.ownsRow_nil w base e 1
theorem Own.lit (w : World) (e : TypeId) (k : IntKind) (l : List Int) (hm : l.length ≤ maxLen) : Own (w.alloc (.cells (nums k l).toArray e)) w.heap.size e k (.slice (some ⟨w.heap.size, 0, none⟩) l.length l.length) l := by
  have := World.ownsRow_lit (base := w.heap.size) (e := e) (size := 1) w (nums k l).toArray l.length (Nat.le_refl _) hm (by simp [nums_length])
  simpa [Own] using this
theorem nums_append (k : IntKind) (a b : List Int) : nums k (a ++ b) = nums k a ++ nums k b := by simp [nums]
theorem chg_of_grown {w w' : World} {row : Option Nat} {base : Nat} (h : w.grownBy w' row) (hr : ∀ g, row = some g → base ≤ g) : Chg (fun b => base ≤ b) w w' :=
  ⟨h.os, h.tape, h.output, h.size, fun b hb hs => h.block b hb fun e => hs (hr b e.symm)⟩

/-- append onto a row of the call's own, of numbers wherever they lie -/
theorem wpList_app {P : Program} {w : World} {ops : Array Oper} {rest : List Oper} {o : Oper} {a : Act} {Q : Exit → Act → World → Prop} (hgd : o.guard = none) (s x : Operand) (t : TypeId)
    (ho : o.op = .call { callee := .builtin .append, args := #[s, x], argTypes := #[t, t] })
    (base : Nat) (e : TypeId) (k : IntKind) (bytes : Nat) (ht : P.underlying t = some (.slice e)) (hinfo : (P.info? e).map (fun i => (i.zero, i.size, i.bytes)) = some (some (.int k 0), 1, bytes))
    (v : Value) (xs : List Int) (hs : a.eval s = v) (hown : Own w base e k v xs)
    (A : Option Addr) (m c : Nat) (l : List Int) (hx : a.eval x = .slice A m c) (hm : l.length = m) (hsl : Sl w k A l) (hnil : A = none → c = 0)
    (h63 : xs.length + m ≤ maxLen) (hbytes : (xs.length + m) * bytes ≤ 140737488355328) (hbase : base ≤ w.heap.size)
    (h : ∀ A' c' n' w', n' = xs.length + m → Own w' base e k (.slice A' n' c') (xs ++ l) → Chg (fun b => base ≤ b) w w' → wpList P ops Q rest (a.put o.dst (.slice A' n' c')) w') : wpList P ops Q (o :: rest) a w := by
  subst hm
  obtain ⟨i0, hi, hz0, hz1, hz2⟩ := info_parts hinfo
  cases A with
  | none =>
    have hl : l = [] := by
      cases l with
      | nil => rfl
      | cons y ys =>
        obtain ⟨ad, h0, _⟩ := hsl 0 (by simp)
        cases h0
    subst hl
    obtain rfl := hnil rfl
    refine wpList_append_own_none hgd s x t ho base e i0 1 ht hi v xs.length (nums k xs) hs hown (by simpa using hx) ?_
    obtain ⟨A', c', rfl⟩ := hown.form
    exact h A' c' xs.length w (by simp) (by rw [List.append_nil]; exact hown) (Chg.refl _ w)
  | some ad =>
    refine wpList_append_own w hgd s x t ho base e i0 (.int k 0) 1 bytes ht hi hz0 hz1 hz2 rfl (by decide) v xs.length (nums k xs) hs hown ad l.length c (nums k l) hx (by simp [nums_length]) ?_ ?_ h63 hbytes hbase ?_
    · intro j u hu
      have hj : j < l.length := by
        rcases Nat.lt_or_ge j l.length with hlt | hge
        · exact hlt
        · rw [List.getElem?_eq_none (by rw [nums_length]; exact hge)] at hu; cases hu
      obtain ⟨ad', h0, hc⟩ := hsl j hj
      cases h0
      rw [nums_get k l j hj] at hu
      cases hu
      exact hc
    · intro u hu
      simp only [nums, List.mem_map] at hu
      obtain ⟨y, _, rfl⟩ := hu
      rfl
    · intro v' w' hown' hg _
      have ho' : Own w' base e k v' (xs ++ l) := by
        unfold Own
        rw [nums_append, List.length_append]
        exact hown'
      obtain ⟨A', c', rfl⟩ := ho'.form
      refine h A' c' _ w' (by rw [List.length_append]) ho' (chg_of_grown hg ?_)
      intro g hv
      exact (World.ownsRow.lt hown g hv).1

/-- append onto a row of the call's own, as one step of a region that draws its order -/
theorem step_app {P : Program} {w : World} {ops : Array Oper} {o : Oper} {a : Act} {K : Act → World → Prop} {Q : Exit → Act → World → Prop} {E : Prop} (hgd : o.guard = none) (s x : Operand) (t : TypeId)
    (ho : o.op = .call { callee := .builtin .append, args := #[s, x], argTypes := #[t, t] })
    (base : Nat) (e : TypeId) (k : IntKind) (bytes : Nat) (ht : P.underlying t = some (.slice e)) (hinfo : (P.info? e).map (fun i => (i.zero, i.size, i.bytes)) = some (some (.int k 0), 1, bytes))
    (v : Value) (xs : List Int) (hs : a.eval s = v) (hown : Own w base e k v xs)
    (A : Option Addr) (m c : Nat) (l : List Int) (hx : a.eval x = .slice A m c) (hm : l.length = m) (hsl : Sl w k A l) (hnil : A = none → c = 0)
    (h63 : xs.length + m ≤ maxLen) (hbytes : (xs.length + m) * bytes ≤ 140737488355328) (hbase : base ≤ w.heap.size)
    (h : ∀ A' c' n' w', n' = xs.length + m → Own w' base e k (.slice A' n' c') (xs ++ l) → Chg (fun b => base ≤ b) w w' → K (a.put o.dst (.slice A' n' c')) w') :
    if Region.wanted o (yielded ops a.tmps) = true then Oper.wp P o a w K Q else E := by
  have hw : Region.wanted o (yielded ops a.tmps) = true := by simp [Region.wanted, hgd]
  rw [if_pos hw]
  subst hm
  obtain ⟨i0, hi, hz0, hz1, hz2⟩ := info_parts hinfo
  cases A with
  | none =>
    have hl : l = [] := by
      cases l with
      | nil => rfl
      | cons y ys =>
        obtain ⟨ad, h0, _⟩ := hsl 0 (by simp)
        cases h0
    subst hl
    obtain rfl := hnil rfl
    have hrun := run_append_owned_none (P := P) (w := w) base t o.type e i0 1 ht hi v xs.length (nums k xs) hown
    have hx' : a.eval x = .slice none 0 0 := by simpa using hx
    obtain ⟨A', c', rfl⟩ := hown.form
    unfold Oper.wp
    simp [execOp, ho, resolve, invoke, builtin, hs, hx', hrun, Result.andThen]
    exact h A' c' xs.length w (by simp) (by rw [List.append_nil]; exact hown) (Chg.refl _ w)
  | some ad =>
    obtain ⟨v', w', hr, h2, h3, h4, h5⟩ := run_append_own_at (P := P) w base t o.type e i0 (.int k 0) 1 bytes ht hi hz0 hz1 hz2 rfl (by decide) v xs.length (nums k xs) hown ad l.length c (nums k l) (by simp [nums_length]) (fun j u hu => by
      have hj : j < l.length := by
        rcases Nat.lt_or_ge j l.length with hlt | hge
        · exact hlt
        · rw [List.getElem?_eq_none (by rw [nums_length]; exact hge)] at hu; cases hu
      obtain ⟨ad', h0, hc⟩ := hsl j hj
      cases h0
      rw [nums_get k l j hj] at hu
      cases hu
      exact hc) (fun u hu => by
      simp only [nums, List.mem_map] at hu
      obtain ⟨y, _, rfl⟩ := hu
      rfl) h63 hbytes hbase
    have ho' : Own w' base e k v' (xs ++ l) := by
      unfold Own
      rw [nums_append, List.length_append]
      exact h2
    unfold Oper.wp execOp
    simp only [ho, resolve, invoke, builtin, Sem.run_bind, Sem.run_pure, Result.andThen_ok, List.map_toArray, List.map_cons, List.map_nil, hs, hx, hr]
    obtain ⟨A', c', rfl⟩ := ho'.form
    refine h A' c' _ w' (by rw [List.length_append]) ho' (chg_of_grown h3 ?_)
    intro g hv
    exact (World.ownsRow.lt hown g hv).1

end Go.Proofs.Ytmffdlebahdihaa.Mem

/- string(b) of bytes wherever they lie. No program in sight. -/
namespace Go.Proofs.Ytmffdlebahdihaa.Mem
open Go Go.RowKit
set_option linter.unusedVariables false

theorem conv_sl {P : Program} {w : World} {src dst e : TypeId} {A : Option Addr} {c : Nat} {l : List Int} (hs : P.underlying src = some (.slice e)) (he : P.underlying e = some (.int .u8)) (hd : P.underlying dst = some .string) (h : Sl w .u8 A l) :
    (Go.convert src dst (.slice A l.length c)).run P w = .ok (.string (strOfNums l)) w := by
  cases A with
  | none =>
    have hl : l = [] := by
      cases l with
      | nil => rfl
      | cons y ys =>
        obtain ⟨ad, h0, _⟩ := h 0 (by simp)
        cases h0
    subst hl
    exact run_convert_bytes_nil w src e hs he 0 c dst hd
  | some ad =>
    have hl := run_loadCells_list (P := P) w ad (nums .u8 l) (fun j v hj => by
      have hjl : j < l.length := by
        rcases Nat.lt_or_ge j l.length with h' | h'
        · exact h'
        · rw [List.getElem?_eq_none (by rw [nums_length]; exact h')] at hj; cases hj
      obtain ⟨ad', e', hc⟩ := h j hjl
      cases e'
      rw [hc, ← nums_get .u8 l j hjl]
      exact hj)
    rw [nums_length] at hl
    rw [run_convert_bytes_string w src dst e _ l.length c hs he hd, run_bytesToString w ad l.length c l hl, foldl_push_bytes]
    simp [strOfNums, ByteArray.empty, ByteArray.emptyWithCapacity]
    rfl
theorem strOfNums_inj {a b : List Int} (ha : ∀ x ∈ a, 0 ≤ x ∧ x ≤ 255) (hb : ∀ x ∈ b, 0 ≤ x ∧ x ≤ 255) (h : strOfNums a = strOfNums b) : a = b := by
  have h1 : (strOfNums a).data.toList = (strOfNums b).data.toList := by rw [h]
  rw [strOfNums_data, strOfNums_data] at h1
  have key : ∀ l : List Int, (∀ x ∈ l, 0 ≤ x ∧ x ≤ 255) → (l.map fun n => UInt8.ofNat n.toNat).map (fun u => (u.toNat : Int)) = l := by
    intro l hl
    rw [List.map_map]
    conv => rhs; rw [← List.map_id l]
    apply List.map_congr_left
    intro x hx
    have := hl x hx
    simp only [Function.comp, id]
    have e : (UInt8.ofNat x.toNat).toNat = x.toNat := by
      rw [UInt8.toNat_ofNat']
      exact Nat.mod_eq_of_lt (by omega)
    rw [e]; omega
  rw [← key a ha, ← key b hb, h1]

end Go.Proofs.Ytmffdlebahdihaa.Mem

/- The walk of ints.Wrap at 8, 16, 32 and 64 bits. -/
namespace Go.Proofs.Ytmffdlebahdihaa.Wrap
open Go.RowKit
set_option linter.unusedVariables false

theorem u64_wrap (n : Int) : IntKind.u64.wrap n = n % 18446744073709551616 := by simp [IntKind.wrap, IntKind.bits, IntKind.signed]
theorem tup (a b : Int) (h : a = b) : Ending.returned (.tuple #[.int .u64 a, .int .i64 0]) = Ending.returned (.tuple #[.int .u64 b, .int .i64 0]) := by rw [h]
theorem wrap8 (v : Int) (w : World) (h0 : 0 ≤ v) (h1 : v < 18446744073709551616) : Calls Try.prog 119 #[.int .u64 v, .int .i64 8] w fun e w' => e = .returned (.tuple #[.int .u64 (v % 256), .int .i64 0]) ∧ w = w' := by
  go_enter Try.func119, Try.ntmps119
  go_wp2
  go_ret2
  exact ⟨tup _ _ (by rw [u64_wrap]; omega), rfl⟩
theorem wrap16 (v : Int) (w : World) (h0 : 0 ≤ v) (h1 : v < 18446744073709551616) : Calls Try.prog 119 #[.int .u64 v, .int .i64 16] w fun e w' => e = .returned (.tuple #[.int .u64 (v % 65536), .int .i64 0]) ∧ w = w' := by
  go_enter Try.func119, Try.ntmps119
  go_wp2
  go_ret2
  exact ⟨tup _ _ (by rw [u64_wrap]; omega), rfl⟩
theorem wrap32_ (v : Int) (w : World) (h0 : 0 ≤ v) (h1 : v < 18446744073709551616) : Calls Try.prog 119 #[.int .u64 v, .int .i64 32] w fun e w' => e = .returned (.tuple #[.int .u64 (v % 4294967296), .int .i64 0]) ∧ w = w' := by
  go_enter Try.func119, Try.ntmps119
  go_wp2
  go_ret2
  exact ⟨tup _ _ (by rw [u64_wrap]; omega), rfl⟩
theorem wrap64_ (v : Int) (w : World) (h0 : 0 ≤ v) (h1 : v < 18446744073709551616) : Calls Try.prog 119 #[.int .u64 v, .int .i64 64] w fun e w' => e = .returned (.tuple #[.int .u64 v, .int .i64 0]) ∧ w = w' := by
  go_enter Try.func119, Try.ntmps119
  go_wp2
  go_ret2
  exact ⟨tup _ _ (by try simp; try omega), rfl⟩

end Go.Proofs.Ytmffdlebahdihaa.Wrap

/- Numbers in bytes, as plain functions on lists of numbers: what is laid, what is read, what is refused. No program in sight. -/
namespace Go.Proofs.Ytmffdlebahdihaa.CodecPure
open Go Go.RowKit
set_option linter.unusedVariables false
set_option maxRecDepth 100000

/-- bytes, the lowest first, as one number -/
def le : List Int → Int
  | [] => 0
  | x :: xs => x + 256 * le xs
/-- a number's bytes, the lowest first -/
def leb (v : Int) : Nat → List Int
  | 0 => []
  | n + 1 => v % 256 :: leb (v / 256) n
/-- are these bytes? -/
def Bytes (l : List Int) : Prop := ∀ x ∈ l, 0 ≤ x ∧ x ≤ 255

theorem leb_length (n : Nat) : ∀ v, (leb v n).length = n := by
  induction n with
  | zero => intro v; rfl
  | succ n ih => intro v; simp [leb, ih]
theorem leb_bytes (n : Nat) : ∀ v, Bytes (leb v n) := by
  induction n with
  | zero => intro v x hx; simp [leb] at hx
  | succ n ih =>
    intro v x hx
    simp only [leb, List.mem_cons] at hx
    rcases hx with rfl | hx
    · omega
    · exact ih _ x hx
theorem p256 (n : Nat) : (2 : Int) ^ (8 * (n + 1)) = 256 * 2 ^ (8 * n) := by
  have e : 8 * (n + 1) = 8 + 8 * n := by omega
  rw [e, Int.pow_add]; rfl
theorem two_pos (a : Nat) : (0 : Int) < 2 ^ a := Int.pow_pos (by decide)
theorem le_range (l : List Int) (h : Bytes l) : 0 ≤ le l ∧ le l < 2 ^ (8 * l.length) := by
  induction l with
  | nil => exact ⟨Int.le_refl _, by decide⟩
  | cons x xs ih =>
    have hx := h x (by simp)
    have := ih fun y hy => h y (by simp [hy])
    have e : (2 : Int) ^ (8 * (x :: xs).length) = 256 * 2 ^ (8 * xs.length) := p256 xs.length
    rw [e]
    generalize (2 : Int) ^ (8 * xs.length) = P at this
    simp only [le]
    omega
theorem le_leb (n : Nat) : ∀ v, le (leb v n) = v % 2 ^ (8 * n) := by
  induction n with
  | zero => intro v; simp only [leb, le]; exact (Int.emod_one v).symm
  | succ n ih =>
    intro v
    simp only [leb, le]
    rw [ih, p256]
    have hP := two_pos (8 * n)
    generalize (2 : Int) ^ (8 * n) = P at hP
    have h1 := Int.mul_ediv_add_emod v 256
    have h2 := Int.mul_ediv_add_emod (v / 256) P
    have h3 := Int.emod_nonneg (v / 256) (show P ≠ 0 by omega)
    have h4 := Int.emod_lt_of_pos (v / 256) hP
    generalize v / 256 / P = q at h2
    generalize v / 256 % P = r at h2 h3 h4
    have e : v = (v % 256 + 256 * r) + 256 * P * q := by
      rw [Int.mul_assoc]; omega
    have h5 : 0 ≤ v % 256 + 256 * r ∧ v % 256 + 256 * r < 256 * P := by omega
    conv => rhs; rw [e]
    rw [Int.add_mul_emod_self_left, Int.emod_eq_of_lt h5.1 h5.2]
theorem leb_le (l : List Int) (h : Bytes l) : leb (le l) l.length = l := by
  induction l with
  | nil => rfl
  | cons x xs ih =>
    have hx := h x (by simp)
    simp only [le, List.length_cons, leb]
    have e1 : (x + 256 * le xs) % 256 = x := by omega
    have e2 : (x + 256 * le xs) / 256 = le xs := by omega
    rw [e1, e2, ih fun y hy => h y (by simp [hy])]
theorem leb_get (n : Nat) : ∀ (v : Int) (j : Nat), j < n → (leb v n).getD j 0 = v / 2 ^ (8 * j) % 256 := by
  induction n with
  | zero => intro v j h; omega
  | succ n ih =>
    intro v j h
    cases j with
    | zero => simp [leb]
    | succ j =>
      have := ih (v / 256) j (by omega)
      simp only [leb, List.getD_cons_succ]
      rw [this, p256, Int.ediv_ediv_of_nonneg (by decide)]
/-- one byte more -/
theorem le_take (l : List Int) : ∀ k, k < l.length → le (l.take (k + 1)) = le (l.take k) + l.getD k 0 * 2 ^ (8 * k) := by
  induction l with
  | nil => intro k h; simp at h
  | cons x xs ih =>
    intro k h
    cases k with
    | zero => simp [le]
    | succ k =>
      have := ih k (by simp at h; omega)
      simp only [List.take_succ_cons, le, List.getD_cons_succ]
      rw [this, p256]
      generalize (2 : Int) ^ (8 * k) = P
      generalize xs.getD k 0 = y
      rw [Int.mul_add, Int.add_assoc]
      congr 2
      rw [← Int.mul_assoc, ← Int.mul_assoc, Int.mul_comm 256 y]

theorem le_take_range (l : List Int) (k : Nat) (hk : k ≤ l.length) (h : Bytes l) : 0 ≤ le (l.take k) ∧ le (l.take k) < 2 ^ (8 * k) := by
  have := le_range (l.take k) fun x hx => h x (List.mem_of_mem_take hx)
  rw [List.length_take, Nat.min_eq_left hk] at this
  exact this
/-- do so many bytes lie there? -/
def there (n : Nat) (at_ width : Int) : Prop := (width = 1 ∨ width = 2 ∨ width = 4 ∨ width = 8) ∧ 0 ≤ at_ ∧ at_ + width ≤ n
instance (n : Nat) (at_ width : Int) : Decidable (there n at_ width) := by unfold there; exact inferInstance
/-- bytes with a number laid in, and the error -/
def putC (b : List Int) (at_ width v : Int) : List Int × Int :=
  if there b.length at_ width then
    if width < 8 ∧ v / 2 ^ (8 * width.toNat) ≠ 0 then (b, 6) else (splice b at_.toNat (leb v width.toNat), 0)
  else (b, 1)
/-- the number that lies there, and the error -/
def getC (b : List Int) (at_ width : Int) : Int × Int :=
  if there b.length at_ width then (le ((b.drop at_.toNat).take width.toNat), 0) else (0, 1)
/-- bytes with a place laid in, and the error -/
def putPlaceC (b : List Int) (at_ place : Int) : List Int × Int :=
  if there b.length at_ 4 then
    if place < -1 ∨ place > 2147483647 then (b, 6) else (splice b at_.toNat (leb (place % 4294967296) 4), 0)
  else (b, 1)
/-- the place that lies there, and the error -/
def getPlaceC (b : List Int) (at_ : Int) : Int × Int :=
  if there b.length at_ 4 then
    if le ((b.drop at_.toNat).take 4) = 4294967295 then (-1, 0)
    else if le ((b.drop at_.toNat).take 4) ≥ 2147483648 then (0, 6)
    else (le ((b.drop at_.toNat).take 4), 0)
  else (0, 1)

theorem u64_wrap (n : Int) : IntKind.u64.wrap n = n % 18446744073709551616 := by simp [IntKind.wrap, IntKind.bits, IntKind.signed]
theorem u64_wraps (n : Int) (h0 : 0 ≤ n) (h1 : n < 2 ^ 64) : IntKind.u64.wrap n = n := by rw [u64_wrap]; omega
/-- a byte that is laid above what is there -/
theorem or_byte (a x : Int) (k : Nat) (hk : k < 8) (ha : 0 ≤ a ∧ a < 2 ^ (8 * k)) (hx : 0 ≤ x ∧ x ≤ 255) :
    Go.bits .or .u64 a (IntKind.u64.wrap (x * 2 ^ (8 * k))) = a + x * 2 ^ (8 * k) := by
  have key : ∀ m : Fin 8, (2 : Int) ^ (8 * m.val) * 256 ≤ 18446744073709551616 ∧ 1 ≤ (2 : Int) ^ (8 * m.val) := by decide +kernel
  obtain ⟨b1, b2⟩ := key ⟨k, hk⟩
  simp only at b1 b2
  have h64 : (2 : Int) ^ 64 = 18446744073709551616 := by decide +kernel
  have hm : x * 2 ^ (8 * k) ≤ 255 * 2 ^ (8 * k) := Int.mul_le_mul_of_nonneg_right hx.2 (by omega)
  have hm0 : 0 ≤ x * 2 ^ (8 * k) := Int.mul_nonneg hx.1 (by omega)
  have hd : x * 2 ^ (8 * k) % 2 ^ (8 * k) = 0 := Int.mul_emod_left _ _
  rw [u64_wraps _ hm0 (by omega)]
  have hc : Go.bits .or .u64 a (x * 2 ^ (8 * k)) = Go.bits .or .u64 (x * 2 ^ (8 * k)) a := by
    unfold Go.bits
    simp only [BitVec.or_comm]
  rw [hc, bits_join .u64 64 (by decide) u64_wraps (8 * k) _ a hm0 hd (by omega) ha.1 ha.2 (by omega), Int.add_comm]

end Go.Proofs.Ytmffdlebahdihaa.CodecPure

/- What is laid into bytes and read in other widths, as plain facts on lists of numbers. No program in sight. -/
namespace Go.Proofs.Ytmffdlebahdihaa.CodecPure
open Go Go.RowKit
set_option linter.unusedVariables false
set_option maxRecDepth 100000

theorem leb_take (n : Nat) : ∀ (v : Int) (k : Nat), k ≤ n → (leb v n).take k = leb v k := by
  induction n with
  | zero =>
    intro v k h
    obtain rfl : k = 0 := by omega
    rfl
  | succ n ih =>
    intro v k h
    cases k with
    | zero => rfl
    | succ k => simp only [leb, List.take_succ_cons]; rw [ih _ k (by omega)]
theorem leb_drop (n : Nat) : ∀ (v : Int) (k : Nat), k ≤ n → (leb v n).drop k = leb (v / 2 ^ (8 * k)) (n - k) := by
  induction n with
  | zero =>
    intro v k h
    obtain rfl : k = 0 := by omega
    rfl
  | succ n ih =>
    intro v k h
    cases k with
    | zero =>
      simp only [List.drop_zero, Nat.mul_zero, Nat.sub_zero]
      have e : (2 : Int) ^ 0 = 1 := by decide
      rw [e, Int.ediv_one]
    | succ k =>
      simp only [leb, List.drop_succ_cons]
      rw [ih _ k (by omega), p256, Int.ediv_ediv_of_nonneg (by decide)]
      congr 1; omega
theorem getC_leb (v : Int) (n i w : Nat) (hw : (w : Int) = 1 ∨ (w : Int) = 2 ∨ (w : Int) = 4 ∨ (w : Int) = 8) (h : i + w ≤ n) : getC (leb v n) (i : Int) (w : Int) = (v / 2 ^ (8 * i) % 2 ^ (8 * w), 0) := by
  unfold getC
  rw [if_pos ⟨hw, by omega, by rw [leb_length]; omega⟩]
  have e1 : ((i : Int)).toNat = i := by omega
  have e2 : ((w : Int)).toNat = w := by omega
  rw [e1, e2, leb_drop n v i (by omega), leb_take _ _ _ (by omega), le_leb]
theorem splice_all {α : Type} (l bs : List α) (h : bs.length = l.length) : splice l 0 bs = bs := by
  unfold splice
  rw [List.take_zero, List.nil_append, Nat.zero_add, h, List.drop_length, List.append_nil]
theorem putC_all (l : List Int) (w : Nat) (v : Int) (hw : (w : Int) = 1 ∨ (w : Int) = 2 ∨ (w : Int) = 4 ∨ (w : Int) = 8) (hl : l.length = w) (hv : ¬ ((w : Int) < 8 ∧ v / 2 ^ (8 * w) ≠ 0)) : putC l 0 (w : Int) v = (leb v w, 0) := by
  unfold putC
  have e2 : ((w : Int)).toNat = w := by omega
  rw [if_pos ⟨hw, by omega, by omega⟩, e2, if_neg hv]
  have : splice l (0 : Int).toNat (leb v w) = leb v w := splice_all l _ (by rw [leb_length, hl])
  rw [this]

end Go.Proofs.Ytmffdlebahdihaa.CodecPure

/- The walks of codec: part, Get, Put, GetPlace, PutPlace: what each answers, and what it writes. -/
namespace Go.Proofs.Ytmffdlebahdihaa.Codec
open Go.RowKit Go.Proofs.Ytmffdlebahdihaa.Mem Go.Proofs.Ytmffdlebahdihaa.CodecPure
set_option linter.unusedVariables false
set_option maxRecDepth 100000

/-- one of the four widths -/
def Wd (width : Int) : Prop := width = 1 ∨ width = 2 ∨ width = 4 ∨ width = 8
theorem part_ret (ad : Addr) (i n : Nat) (h : i = n) : Ending.returned (.tuple #[.slice (some ad) i i, .bool true]) = Ending.returned (.tuple #[.slice (some ad) n n, .bool true]) := by rw [h]
theorem part_ok (ad : Addr) (len cap : Nat) (at_ width : Int) (w : World) (hc : len ≤ cap) (hm : cap ≤ 9223372036854775807) (hw : Wd width) (h0 : 0 ≤ at_) (h1 : at_ + width ≤ len) :
    Calls Try.prog 110 #[.slice (some ad) len cap, .int .i64 at_, .int .i64 width] w fun e w' => e = .returned (.tuple #[.slice (some (ad.add at_.toNat)) width.toNat width.toNat, .bool true]) ∧ w = w' := by
  rcases hw with rfl | rfl | rfl | rfl
  all_goals
    go_enter Try.func110, Try.ntmps110
    go_wp2
    go_ret2
    exact ⟨part_ret _ _ _ (by omega), rfl⟩

theorem part_no (A : Option Addr) (len cap : Nat) (at_ width : Int) (w : World) (hm : len ≤ 9223372036854775807) (hx : -9223372036854775808 ≤ at_ ∧ at_ ≤ 9223372036854775807) (h : ¬ there len at_ width) :
    Calls Try.prog 110 #[.slice A len cap, .int .i64 at_, .int .i64 width] w fun e w' => e = .returned (.tuple #[.slice none 0 0, .bool false]) ∧ w = w' := by
  obtain ⟨hx0, hx1⟩ := hx
  by_cases hw : Wd width
  · have h' : at_ < 0 ∨ at_ + width > len := by unfold there at h; unfold Wd at hw; omega
    clear h
    rcases hw with rfl | rfl | rfl | rfl
    all_goals
      by_cases h0 : at_ < 0
      · clear h'
        go_enter Try.func110, Try.ntmps110
        go_wp2
        go_ret2
        exact ⟨rfl, rfl⟩
      · by_cases h1 : at_ > len
        · clear h'
          go_enter Try.func110, Try.ntmps110
          go_wp2
          go_ret2
          exact ⟨rfl, rfl⟩
        · have h3 := h'.resolve_left h0
          clear h'
          go_enter Try.func110, Try.ntmps110
          go_wp2
          go_ret2
          exact ⟨rfl, rfl⟩
  · have e1 : ¬ width = 1 := fun e => hw (.inl e)
    have e2 : ¬ width = 2 := fun e => hw (.inr (.inl e))
    have e4 : ¬ width = 4 := fun e => hw (.inr (.inr (.inl e)))
    have e8 : ¬ width = 8 := fun e => hw (.inr (.inr (.inr e)))
    clear hw h
    go_enter Try.func110, Try.ntmps110
    go_wp2
    go_ret2
    exact ⟨rfl, rfl⟩

theorem get_no (A : Option Addr) (len cap : Nat) (at_ width : Int) (w : World) (hm : len ≤ 9223372036854775807) (hx : -9223372036854775808 ≤ at_ ∧ at_ ≤ 9223372036854775807) (h : ¬ there len at_ width) :
    Calls Try.prog 90 #[.slice A len cap, .int .i64 at_, .int .i64 width] w fun e w' => e = .returned (.tuple #[.int .u64 0, .int .i64 1]) ∧ w = w' := by
  have H := Lib.hid (part_no A len cap at_ width w hm hx h)
  clear h hx
  go_enter Try.func90, Try.ntmps90
  go_wp2_with (go_at_call 110; refine H.out.mono ?_; rintro e w' ⟨rfl, rfl⟩)
  go_ret2
  exact ⟨rfl, rfl⟩
theorem get_ok (ad : Addr) (l : List Int) (cap : Nat) (at_ width : Int) (w : World) (hs : Sl w .u8 (some ad) l) (hb : Bytes l) (hc : l.length ≤ cap) (hm : cap ≤ 9223372036854775807) (h : there l.length at_ width) :
    Calls Try.prog 90 #[.slice (some ad) l.length cap, .int .i64 at_, .int .i64 width] w fun e w' => e = .returned (.tuple #[.int .u64 (le ((l.drop at_.toNat).take width.toNat)), .int .i64 0]) ∧ w = w' := by
  have H := Lib.hid (part_ok ad l.length cap at_ width w hc hm h.1 h.2.1 h.2.2)
  obtain ⟨p, ep⟩ : ∃ p, (l.drop at_.toNat).take width.toNat = p := ⟨_, rfl⟩
  obtain ⟨n, en⟩ : ∃ n, width.toNat = n := ⟨_, rfl⟩
  obtain ⟨ad', ea⟩ : ∃ x, ad.add at_.toNat = x := ⟨_, rfl⟩
  have hn : n ≤ 8 := by have := h.1; unfold there at h; omega
  have hl : Hid (p.length = n) := by
    rw [← ep, ← en, Hid, List.length_take, List.length_drop]
    have := h.2
    omega
  have hp : Hid (∀ k, k < n → w.cell? (ad'.add k) = some (.int .u8 (p.getD k 0))) := by
    intro k hk
    obtain ⟨a, e, c⟩ := hs (at_.toNat + k) (by have := h.2; omega)
    cases e
    rw [← ea, add_add, c, ← ep]
    congr 2
    simp [List.getD_eq_getElem?_getD, en, hk]
  have hbp : Hid (Bytes p) := fun x hx => hb x (List.mem_of_mem_drop (List.mem_of_mem_take (ep ▸ hx)))
  rw [ep]
  rw [en, ea] at H
  have h0 := h.2.1
  clear ep en ea hs hb hc h
  go_enter Try.func90, Try.ntmps90
  go_wp2_with (go_at_call 110; refine H.out.mono ?_; rintro e w' ⟨rfl, rfl⟩)
  go_loop [10, 24] (fun v i => ∃ k : Nat, k ≤ n ∧ i = .int .i64 k ∧ v = .int .u64 (le (p.take k))) (fun _ i => n - (intOf i).toNat)
  case atStart => exact ⟨0, Nat.zero_le _, rfl, rfl⟩
  case round =>
    obtain ⟨k, hk, rfl, rfl⟩ := hrel
    by_cases hlt : k < n
    · obtain ⟨x, ex⟩ : ∃ x, p.getD k 0 = x := ⟨_, rfl⟩
      have hc := hp.out k hlt
      rw [ex] at hc
      have hx : 0 ≤ x ∧ x ≤ 255 := by
        rw [← ex, List.getD_eq_getElem?_getD, List.getElem?_eq_getElem (by have := hl.out; omega)]
        exact hbp.out _ (List.getElem_mem _)
      obtain ⟨hx0, hx1⟩ := hx
      have X := Lib.hid ex
      clear ex
      go_wp2
      go_round
      case rel => exact ⟨k + 1, hlt, by go_num, by rw [or_byte (le (p.take k)) x k (by omega) (le_take_range p k (by have := hl.out; omega) hbp.out) ⟨hx0, hx1⟩, le_take p k (by have := hl.out; omega), X.out]⟩
      case measure => simp [intOf]; omega
    · obtain rfl : k = n := by omega
      have T : Hid (p.take k = p) := List.take_of_length_le (by have := hl.out; omega)
      go_wp2
      go_ret2
      exact ⟨by rw [T.out]; rfl, rfl⟩

/-- the program's Get, of any bytes -/
theorem get_calls (A : Option Addr) (l : List Int) (cap : Nat) (at_ width : Int) (w : World) (hs : Sl w .u8 A l) (hb : Bytes l) (hc : l.length ≤ cap) (hm : cap ≤ 9223372036854775807) (hx : -9223372036854775808 ≤ at_ ∧ at_ ≤ 9223372036854775807) :
    Calls Try.prog 90 #[.slice A l.length cap, .int .i64 at_, .int .i64 width] w fun e w' => e = .returned (.tuple #[.int .u64 (getC l at_ width).1, .int .i64 (getC l at_ width).2]) ∧ w = w' := by
  by_cases h : there l.length at_ width
  · have e : getC l at_ width = (le ((l.drop at_.toNat).take width.toNat), 0) := by unfold getC; rw [if_pos h]
    rw [e]
    obtain ⟨ad, rfl, _⟩ := hs 0 (by have := h.1; have := h.2; omega)
    exact get_ok ad l cap at_ width w hs hb hc hm h
  · have e : getC l at_ width = (0, 1) := by unfold getC; rw [if_neg h]
    rw [e]
    exact get_no A l.length cap at_ width w (by omega) hx h
theorem put_no (A : Option Addr) (len cap : Nat) (at_ width v : Int) (w : World) (hm : len ≤ 9223372036854775807) (hx : -9223372036854775808 ≤ at_ ∧ at_ ≤ 9223372036854775807) (h : ¬ there len at_ width) :
    Calls Try.prog 104 #[.slice A len cap, .int .i64 at_, .int .i64 width, .int .u64 v] w fun e w' => e = .returned (.int .i64 1) ∧ w = w' := by
  have H := Lib.hid (part_no A len cap at_ width w hm hx h)
  clear h hx
  go_enter Try.func104, Try.ntmps104
  go_wp2_with (go_at_call 110; refine H.out.mono ?_; rintro e w' ⟨rfl, rfl⟩)
  go_ret
  exact ⟨rfl, rfl⟩
/-- ints.Wrap at eight times a width -/
theorem wrap_width (width v : Int) (w : World) (hw : Wd width) (h0 : 0 ≤ v) (h1 : v < 18446744073709551616) :
    Calls Try.prog 119 #[.int .u64 v, .int .i64 (8 * width)] w fun e w' => e = .returned (.tuple #[.int .u64 (v % 2 ^ (8 * width.toNat)), .int .i64 0]) ∧ w = w' := by
  rcases hw with rfl | rfl | rfl | rfl
  · exact Wrap.wrap8 v w h0 h1
  · exact Wrap.wrap16 v w h0 h1
  · exact Wrap.wrap32_ v w h0 h1
  · have e : v % 2 ^ (8 * (8 : Int).toNat) = v := Int.emod_eq_of_lt h0 (by have h64 : (2 : Int) ^ (8 * (8 : Int).toNat) = 18446744073709551616 := (by decide +kernel); rw [h64]; exact h1)
    rw [e]
    exact Wrap.wrap64_ v w h0 h1
/-- does the number not fit its width? -/
theorem fit_iff (width v : Int) (hw : Wd width) (h0 : 0 ≤ v) (h1 : v < 18446744073709551616) : (width < 8 ∧ v / 2 ^ (8 * width.toNat) ≠ 0) ↔ v % 2 ^ (8 * width.toNat) ≠ v := by
  rcases hw with rfl | rfl | rfl | rfl
  · show ((1 : Int) < 8 ∧ v / 256 ≠ 0) ↔ v % 256 ≠ v
    omega
  · show ((2 : Int) < 8 ∧ v / 65536 ≠ 0) ↔ v % 65536 ≠ v
    omega
  · show ((4 : Int) < 8 ∧ v / 4294967296 ≠ 0) ↔ v % 4294967296 ≠ v
    omega
  · have h64 : (2 : Int) ^ (8 * (8 : Int).toNat) = 18446744073709551616 := (by decide +kernel)
    rw [h64]
    omega
theorem put_field (ad : Addr) (len cap : Nat) (at_ width v : Int) (w : World) (hc : len ≤ cap) (hm : cap ≤ 9223372036854775807) (h : there len at_ width) (h0 : 0 ≤ v) (h1 : v < 18446744073709551616) (hv : width < 8 ∧ v / 2 ^ (8 * width.toNat) ≠ 0) :
    Calls Try.prog 104 #[.slice (some ad) len cap, .int .i64 at_, .int .i64 width, .int .u64 v] w fun e w' => e = .returned (.int .i64 6) ∧ w = w' := by
  have H := Lib.hid (part_ok ad len cap at_ width w hc hm h.1 h.2.1 h.2.2)
  have Wp := wrap_width width v w h.1 h0 h1
  have ne := (fit_iff width v h.1 h0 h1).1 hv
  obtain ⟨u, eu⟩ : ∃ u, v % 2 ^ (8 * width.toNat) = u := ⟨_, rfl⟩
  rw [eu] at Wp ne
  have WP := Lib.hid Wp
  have t : (u != v) = true := by simpa using ne
  have b0 : 1 ≤ width ∧ width ≤ 8 := by have := h.1; omega
  obtain ⟨b1, b2⟩ := b0
  clear h hv eu Wp ne
  go_enter Try.func104, Try.ntmps104
  go_wp2_with (first | (go_at_call 110; refine H.out.mono ?_; rintro e w' ⟨rfl, rfl⟩) | (go_at_call 119; refine WP.out.mono ?_; rintro e w' ⟨rfl, rfl⟩))
  go_ret
  exact ⟨rfl, rfl⟩
theorem put_ok (B o : Nat) (len cap : Nat) (T : TypeId) (cs : List Value) (at_ width v : Int) (w : World) (hB : w.heap[B]? = some (.cells cs.toArray T (0, 0))) (hf : o + len ≤ cs.length) (hc : len ≤ cap) (hm : cap ≤ 9223372036854775807)
    (h : there len at_ width) (h0 : 0 ≤ v) (h1 : v < 18446744073709551616) (hv : ¬ (width < 8 ∧ v / 2 ^ (8 * width.toNat) ≠ 0)) :
    Calls Try.prog 104 #[.slice (some ⟨B, o, none⟩) len cap, .int .i64 at_, .int .i64 width, .int .u64 v] w fun e w' => e = .returned (.int .i64 0) ∧ w' = w.setRow B (splice cs (o + at_.toNat) (nums .u8 (leb v width.toNat))).toArray := by
  have H0 := part_ok ⟨B, o, none⟩ len cap at_ width w hc hm h.1 h.2.1 h.2.2
  rw [add_plain] at H0
  have Wp := wrap_width width v w h.1 h0 h1
  have eq : v % 2 ^ (8 * width.toNat) = v := Classical.byContradiction fun ne => hv ((fit_iff width v h.1 h0 h1).2 ne)
  rw [eq] at Wp
  have WP := Lib.hid Wp
  have b0 : 1 ≤ width ∧ width ≤ 8 := by have := h.1; omega
  obtain ⟨b1, b2⟩ := b0
  obtain ⟨n, en⟩ : ∃ n, width.toNat = n := ⟨_, rfl⟩
  obtain ⟨O, eO⟩ : ∃ O, o + at_.toNat = O := ⟨_, rfl⟩
  have hfit : O + n ≤ cs.length := by have := h.2; omega
  have hn : n ≤ 8 := by omega
  rw [en, eO] at H0
  rw [en, eO]
  have H := Lib.hid H0
  have HB := Lib.hid hB
  have E := Lib.hid en
  have hl := Lib.hid (leb_length n v)
  clear h hv Wp eq H0 eO en hB hf
  go_enter Try.func104, Try.ntmps104
  go_wp2_with (first | (go_at_call 110; refine H.out.mono ?_; rintro e w' ⟨rfl, rfl⟩) | (go_at_call 119; refine WP.out.mono ?_; rintro e w' ⟨rfl, rfl⟩))
  go_loopw [35] (fun i wr => ∃ k : Nat, k ≤ n ∧ i = .int .i64 k ∧ Hid (wr = w.setRow B (splice cs O (nums .u8 ((leb v n).take k))).toArray)) (fun i _ => n - (intOf i).toNat)
  case atStart => exact ⟨0, Nat.zero_le _, rfl, by
    show w = _
    rw [List.take_zero]
    show w = w.setRow B (splice cs O []).toArray
    rw [splice_none, setRow_same HB.out]⟩
  case round =>
    obtain ⟨k, hk, rfl, R⟩ := hrel
    have hb : wr.heap[B]? = some (.cells (splice cs O (nums .u8 ((leb v n).take k))).toArray T (0, 0)) := by rw [R.out]; exact setRow_heap w B _ _ T (0, 0) HB.out
    by_cases hlt : k < n
    · have hsz : (splice cs O (nums .u8 ((leb v n).take k))).length = cs.length := length_splice _ _ _ (by rw [nums_length, List.length_take]; omega)
      have hc1 : ∃ u, wr.cell? ⟨B, O + k, none⟩ = some u := ⟨_, by rw [blk_cell hb, List.getElem?_toArray, List.getElem?_eq_getElem (by omega)]⟩
      obtain ⟨u, hc1⟩ := hc1
      have hf1 : wr.frozen? ⟨B, O + k, none⟩ = false := blk_frozen hb _
      have HB2 := Lib.hid hb
      clear hb hsz
      go_wp2
      go_roundw
      case rel => exact ⟨k + 1, hlt, by go_num, by
        show _ = _
        rw [setCell_row HB2.out, R.out, setRow_twice]
        congr 1
        rw [List.setIfInBounds_toArray, ← leb_get n v k hlt, splice_step .u8 cs O k (leb v n) (by have := hl.out; omega) (by have := hl.out; omega)]⟩
      case measure => simp [intOf]; omega
    · obtain rfl : k = n := by omega
      have T2 : Hid ((leb v k).take k = leb v k) := List.take_of_length_le (by have := hl.out; omega)
      have R2 : Hid (wr = w.setRow B (splice cs O (nums .u8 (leb v k))).toArray) := by have := R.out; rw [T2.out] at this; exact this
      clear hb
      go_wp2
      go_ret
      exact ⟨rfl, R2.out⟩

end Go.Proofs.Ytmffdlebahdihaa.Codec

/- The walks of codec.GetPlace and PutPlace; Put and PutPlace as functions on bytes. -/
namespace Go.Proofs.Ytmffdlebahdihaa.Codec
open Go.RowKit Go.Proofs.Ytmffdlebahdihaa.Mem Go.Proofs.Ytmffdlebahdihaa.CodecPure
set_option linter.unusedVariables false
set_option maxRecDepth 100000

/-- what Put writes into a row known whole -/
def putRow (cs : List Value) (o : Nat) (l : List Int) (at_ width v : Int) : List Value :=
  if (putC l at_ width v).2 = 0 then splice cs (o + at_.toNat) (nums .u8 (leb v width.toNat)) else cs
theorem putRow_length (cs : List Value) (o : Nat) (l : List Int) (at_ width v : Int) (hf : o + l.length ≤ cs.length) : (putRow cs o l at_ width v).length = cs.length := by
  unfold putRow
  split
  · rename_i h
    unfold putC at h
    by_cases ht : there l.length at_ width
    · rw [length_splice]
      rw [nums_length, leb_length]
      have := ht.2
      have := ht.1
      omega
    · rw [if_neg ht] at h; simp at h
  · rfl
theorem putC_length (l : List Int) (at_ width v : Int) : (putC l at_ width v).1.length = l.length := by
  unfold putC
  by_cases ht : there l.length at_ width
  · rw [if_pos ht]
    split
    · rfl
    · rw [length_splice]
      rw [leb_length]
      have := ht.2
      have := ht.1
      omega
  · rw [if_neg ht]
theorem putRow_cells (cs : List Value) (o : Nat) (l : List Int) (at_ width v : Int) (hf : o + l.length ≤ cs.length) (hc : ∀ j, j < l.length → cs[o + j]? = some (.int .u8 (l.getD j 0))) :
    ∀ j, j < l.length → (putRow cs o l at_ width v)[o + j]? = some (.int .u8 ((putC l at_ width v).1.getD j 0)) := by
  unfold putRow putC
  by_cases ht : there l.length at_ width
  · rw [if_pos ht]
    by_cases hx : width < 8 ∧ v / 2 ^ (8 * width.toNat) ≠ 0
    · rw [if_pos hx, if_neg (by simp)]; exact hc
    · rw [if_neg hx, if_pos rfl]
      exact splice_cells .u8 cs o at_.toNat l _ hf (by rw [leb_length]; have := ht.2; have := ht.1; omega) hc
  · rw [if_neg ht, if_neg (by simp)]; exact hc
/-- the program's Put, of bytes that lie in a row known whole -/
theorem put_calls (B o cap : Nat) (T : TypeId) (cs : List Value) (l : List Int) (at_ width v : Int) (w : World) (hB : w.heap[B]? = some (.cells cs.toArray T (0, 0))) (hf : o + l.length ≤ cs.length) (hc : l.length ≤ cap) (hm : cap ≤ 9223372036854775807)
    (hx : -9223372036854775808 ≤ at_ ∧ at_ ≤ 9223372036854775807) (h0 : 0 ≤ v) (h1 : v < 18446744073709551616) :
    Calls Try.prog 104 #[.slice (some ⟨B, o, none⟩) l.length cap, .int .i64 at_, .int .i64 width, .int .u64 v] w fun e w' => e = .returned (.int .i64 (putC l at_ width v).2) ∧ w' = w.setRow B (putRow cs o l at_ width v).toArray := by
  unfold putRow putC
  by_cases ht : there l.length at_ width
  · rw [if_pos ht]
    by_cases hv : width < 8 ∧ v / 2 ^ (8 * width.toNat) ≠ 0
    · rw [if_pos hv, if_neg (by simp), setRow_same hB]
      exact (put_field ⟨B, o, none⟩ l.length cap at_ width v w hc hm ht h0 h1 hv).mono fun e w' ⟨he, hw⟩ => ⟨he, hw.symm⟩
    · rw [if_neg hv, if_pos rfl]
      exact put_ok B o l.length cap T cs at_ width v w hB hf hc hm ht h0 h1 hv
  · rw [if_neg ht, if_neg (by simp), setRow_same hB]
    exact (put_no (some ⟨B, o, none⟩) l.length cap at_ width v w (by omega) hx ht).mono fun e w' ⟨he, hw⟩ => ⟨he, hw.symm⟩

theorem le4 (l : List Int) (hb : Bytes l) (at_ : Int) : 0 ≤ le ((l.drop at_.toNat).take 4) ∧ le ((l.drop at_.toNat).take 4) < 4294967296 := by
  have h := le_range ((l.drop at_.toNat).take 4) fun x hx => hb x (List.mem_of_mem_drop (List.mem_of_mem_take hx))
  refine ⟨h.1, Int.lt_of_lt_of_le h.2 ?_⟩
  have key : ∀ m : Fin 5, (2 : Int) ^ (8 * m.val) ≤ 4294967296 := by decide +kernel
  exact key ⟨_, by rw [List.length_take]; omega⟩
/-- the program's GetPlace -/
theorem getplace_calls (A : Option Addr) (l : List Int) (cap : Nat) (at_ : Int) (w : World) (hs : Sl w .u8 A l) (hb : Bytes l) (hc : l.length ≤ cap) (hm : cap ≤ 9223372036854775807) (hx : -9223372036854775808 ≤ at_ ∧ at_ ≤ 9223372036854775807) :
    Calls Try.prog 87 #[.slice A l.length cap, .int .i64 at_] w fun e w' => e = .returned (.tuple #[.int .i64 (getPlaceC l at_).1, .int .i64 (getPlaceC l at_).2]) ∧ w = w' := by
  have G := get_calls A l cap at_ 4 w hs hb hc hm hx
  unfold getPlaceC
  unfold getC at G
  by_cases h : there l.length at_ 4
  · rw [if_pos h] at G
    rw [if_pos h]
    obtain ⟨r0, r1⟩ := le4 l hb at_
    have e4 : (4 : Int).toNat = 4 := rfl
    rw [e4] at G
    obtain ⟨x, ex⟩ : ∃ x, le ((l.drop at_.toNat).take 4) = x := ⟨_, rfl⟩
    rw [ex] at G r0 r1
    rw [ex]
    have H := Lib.hid G
    clear G h ex hs hb hx hc hm
    by_cases h1 : x = 4294967295
    · subst h1
      have f1 : wrap32 4294967295 = -1 := by decide +kernel
      rw [if_pos rfl]
      go_enter Try.func87, Try.ntmps87
      go_wp2_with (go_at_call 90; refine H.out.mono ?_; rintro e w' ⟨rfl, rfl⟩)
      go_ret2
      exact ⟨rfl, rfl⟩
    · rw [if_neg h1]
      by_cases h2 : x ≥ 2147483648
      · rw [if_pos h2]
        obtain ⟨y, ey⟩ : ∃ y, wrap32 x = y := ⟨_, rfl⟩
        have hy : y < -1 := by unfold wrap32 at ey; omega
        have hy2 : -2147483648 ≤ y := by unfold wrap32 at ey; omega
        go_enter Try.func87, Try.ntmps87
        go_wp2_with (go_at_call 90; refine H.out.mono ?_; rintro e w' ⟨rfl, rfl⟩)
        go_ret2
        exact ⟨rfl, rfl⟩
      · rw [if_neg h2]
        have hx2 : x < 2147483648 := by omega
        go_enter Try.func87, Try.ntmps87
        go_wp2_with (go_at_call 90; refine H.out.mono ?_; rintro e w' ⟨rfl, rfl⟩)
        go_ret2
        exact ⟨rfl, rfl⟩
  · rw [if_neg h] at G
    rw [if_neg h]
    have H := Lib.hid G
    clear G h hs hb hx hc hm
    go_enter Try.func87, Try.ntmps87
    go_wp2_with (go_at_call 90; refine H.out.mono ?_; rintro e w' ⟨rfl, rfl⟩)
    go_ret2
    exact ⟨rfl, rfl⟩

/-- what PutPlace writes into a row known whole -/
def putPlaceRow (cs : List Value) (o : Nat) (l : List Int) (at_ place : Int) : List Value :=
  if (putPlaceC l at_ place).2 = 0 then splice cs (o + at_.toNat) (nums .u8 (leb (place % 4294967296) 4)) else cs
theorem putPlaceC_of (l : List Int) (at_ place : Int) (h : ¬ (place < -1 ∨ place > 2147483647)) : putPlaceC l at_ place = putC l at_ 4 (place % 4294967296) := by
  unfold putPlaceC putC
  have e4 : (4 : Int).toNat = 4 := rfl
  have hf : ¬ ((4 : Int) < 8 ∧ place % 4294967296 / 2 ^ (8 * (4 : Int).toNat) ≠ 0) := by
    show ¬ ((4 : Int) < 8 ∧ place % 4294967296 / 4294967296 ≠ 0)
    omega
  by_cases ht : there l.length at_ 4
  · rw [if_pos ht, if_pos ht, if_neg h, if_neg hf]; rfl
  · rw [if_neg ht, if_neg ht]
/-- the program's PutPlace, of bytes that lie in a row known whole -/
theorem putplace_calls (B o cap : Nat) (T : TypeId) (cs : List Value) (l : List Int) (at_ place : Int) (w : World) (hB : w.heap[B]? = some (.cells cs.toArray T (0, 0))) (hf : o + l.length ≤ cs.length) (hc : l.length ≤ cap) (hm : cap ≤ 9223372036854775807)
    (hx : -9223372036854775808 ≤ at_ ∧ at_ ≤ 9223372036854775807) (hp : -9223372036854775808 ≤ place ∧ place ≤ 9223372036854775807) :
    Calls Try.prog 103 #[.slice (some ⟨B, o, none⟩) l.length cap, .int .i64 at_, .int .i64 place] w fun e w' => e = .returned (.int .i64 (putPlaceC l at_ place).2) ∧ w' = w.setRow B (putPlaceRow cs o l at_ place).toArray := by
  obtain ⟨p0, p1⟩ := hp
  by_cases ht : there l.length at_ 4
  · have H := Lib.hid (part_ok ⟨B, o, none⟩ l.length cap at_ 4 w hc hm ht.1 ht.2.1 ht.2.2)
    by_cases h : place < -1 ∨ place > 2147483647
    · have e : putPlaceC l at_ place = (l, 6) := by unfold putPlaceC; rw [if_pos ht, if_pos h]
      have er : putPlaceRow cs o l at_ place = cs := by unfold putPlaceRow; rw [e, if_neg (by simp)]
      rw [e, er, setRow_same hB]
      clear e er hB hf hc hm hx ht
      rcases h with h | h
      · go_enter Try.func103, Try.ntmps103
        go_wp2_with (go_at_call 110; refine H.out.mono ?_; rintro e w' ⟨rfl, rfl⟩)
        go_ret
        exact ⟨rfl, rfl⟩
      · have h' : ¬ place < -1 := by omega
        go_enter Try.func103, Try.ntmps103
        go_wp2_with (go_at_call 110; refine H.out.mono ?_; rintro e w' ⟨rfl, rfl⟩)
        go_ret
        exact ⟨rfl, rfl⟩
    · have e := putPlaceC_of l at_ place h
      have P := put_calls B o cap T cs l at_ 4 (place % 4294967296) w hB hf hc hm hx (by omega) (by omega)
      have er : putPlaceRow cs o l at_ place = putRow cs o l at_ 4 (place % 4294967296) := by unfold putPlaceRow putRow; rw [e]; rfl
      rw [e, er]
      have PP := Lib.hid P
      have q0 : -1 ≤ place := by omega
      have q1 : place ≤ 2147483647 := by omega
      clear P e er hB hf hc hm hx ht h p0 p1
      go_enter Try.func103, Try.ntmps103
      go_wp2_with (first | (go_at_call 110; refine H.out.mono ?_; rintro e w' ⟨rfl, rfl⟩) | (go_at_call 104; refine PP.out.mono ?_; rintro e w' ⟨rfl, rfl⟩))
      go_ret
      exact ⟨rfl, rfl⟩
  · have H := Lib.hid (part_no (some ⟨B, o, none⟩) l.length cap at_ 4 w (by omega) hx ht)
    have e : putPlaceC l at_ place = (l, 1) := by unfold putPlaceC; rw [if_neg ht]
    have er : putPlaceRow cs o l at_ place = cs := by unfold putPlaceRow; rw [e, if_neg (by simp)]
    rw [e, er, setRow_same hB]
    clear e er hB hf hc hm hx ht
    go_enter Try.func103, Try.ntmps103
    go_wp2_with (go_at_call 110; refine H.out.mono ?_; rintro e w' ⟨rfl, rfl⟩)
    go_ret
    exact ⟨rfl, rfl⟩

end Go.Proofs.Ytmffdlebahdihaa.Codec

/- The walks of the reference's codec: there, Get, Put, GetPlace, PutPlace. -/
namespace Go.Proofs.Ytmffdlebahdihaa.Codec
open Go.RowKit Go.Proofs.Ytmffdlebahdihaa.Mem Go.Proofs.Ytmffdlebahdihaa.CodecPure
set_option linter.unusedVariables false
set_option maxRecDepth 100000

theorem ret_true {p : Prop} [Decidable p] (h : p) : Ending.returned (.bool (decide p)) = Ending.returned (.bool true) := by rw [decide_eq_true h]
theorem ret_false {p : Prop} [Decidable p] (h : ¬ p) : Ending.returned (.bool (decide p)) = Ending.returned (.bool false) := by rw [decide_eq_false h]
theorem there_yes (A : Option Addr) (len cap : Nat) (at_ width : Int) (w : World) (hm : len ≤ 9223372036854775807) (h : there len at_ width) :
    Calls Try.prog 120 #[.slice A len cap, .int .i64 at_, .int .i64 width] w fun e w' => e = .returned (.bool true) ∧ w = w' := by
  obtain ⟨hw, h0, h1⟩ := h
  rcases hw with rfl | rfl | rfl | rfl
  all_goals
    go_enter Try.func120, Try.ntmps120
    go_wp2
    go_ret
    exact ⟨ret_true (by omega), rfl⟩
theorem there_not (A : Option Addr) (len cap : Nat) (at_ width : Int) (w : World) (hm : len ≤ 9223372036854775807) (hx : -9223372036854775808 ≤ at_ ∧ at_ ≤ 9223372036854775807) (h : ¬ there len at_ width) :
    Calls Try.prog 120 #[.slice A len cap, .int .i64 at_, .int .i64 width] w fun e w' => e = .returned (.bool false) ∧ w = w' := by
  obtain ⟨hx0, hx1⟩ := hx
  by_cases hw : Wd width
  · have h' : at_ < 0 ∨ at_ + width > len := by unfold there at h; unfold Wd at hw; omega
    clear h
    rcases hw with rfl | rfl | rfl | rfl
    all_goals
      by_cases h0 : at_ < 0
      · clear h'
        go_enter Try.func120, Try.ntmps120
        go_wp2
        go_ret
        exact ⟨rfl, rfl⟩
      · by_cases h1 : at_ > len
        · clear h'
          go_enter Try.func120, Try.ntmps120
          go_wp2
          go_ret
          exact ⟨rfl, rfl⟩
        · have h3 := h'.resolve_left h0
          clear h'
          go_enter Try.func120, Try.ntmps120
          go_wp2
          go_ret
          exact ⟨ret_false (by omega), rfl⟩
  · have e1 : ¬ width = 1 := fun e => hw (.inl e)
    have e2 : ¬ width = 2 := fun e => hw (.inr (.inl e))
    have e4 : ¬ width = 4 := fun e => hw (.inr (.inr (.inl e)))
    have e8 : ¬ width = 8 := fun e => hw (.inr (.inr (.inr e)))
    clear hw h
    go_enter Try.func120, Try.ntmps120
    go_wp2
    go_ret
    exact ⟨rfl, rfl⟩
theorem le_drop (p : List Int) (i : Nat) (h : i < p.length) : le (p.drop i) = p.getD i 0 + 256 * le (p.drop (i + 1)) := by
  rw [List.drop_eq_getElem_cons h]
  simp only [le]
  rw [List.getD_eq_getElem?_getD, List.getElem?_eq_getElem h]; rfl
theorem le_most (p : List Int) (hb : Bytes p) (hl : p.length ≤ 8) : 0 ≤ le p ∧ le p < 18446744073709551616 := by
  have h := le_range p hb
  have key : ∀ m : Fin 9, (2 : Int) ^ (8 * m.val) ≤ 18446744073709551616 := by decide +kernel
  exact ⟨h.1, Int.lt_of_lt_of_le h.2 (key ⟨p.length, by omega⟩)⟩
theorem infoByte : (Try.prog.info? 5).map (fun i => (i.zero, i.size, i.bytes)) = some (some (.int .u8 0), 1, 1) := by kernel_rfl
/-- an answer of two parts: bytes, somewhere, and an error; nothing that was there has turned -/
def Bts (w : World) (l : List Int) (err : Int) (e : Ending) (w' : World) : Prop :=
  ∃ A c n, n = l.length ∧ e = .returned (.tuple #[.slice A n c, .int .i64 err]) ∧ Sl w' .u8 A l ∧ Chg (fun b => w.heap.size ≤ b) w w' ∧ (A = none → c = 0)
/-- as Bts, and bytes that were laid lie in a new row -/
def BtsF (w : World) (l : List Int) (err : Int) (e : Ending) (w' : World) : Prop :=
  ∃ A c n, n = l.length ∧ e = .returned (.tuple #[.slice A n c, .int .i64 err]) ∧ Sl w' .u8 A l ∧ Chg (fun b => w.heap.size ≤ b) w w' ∧ (A = none → c = 0) ∧ (err = 0 → ∀ ad, A = some ad → w.heap.size ≤ ad.block)
theorem BtsF.bts {w w' : World} {l : List Int} {err : Int} {e : Ending} (h : BtsF w l err e w') : Bts w l err e w' := by
  obtain ⟨A, c, n, h1, h2, h3, h4, h5, _⟩ := h
  exact ⟨A, c, n, h1, h2, h3, h4, h5⟩
theorem Bts.f {w w' : World} {l : List Int} {err : Int} {e : Ending} (h : Bts w l err e w') (h0 : err ≠ 0) : BtsF w l err e w' := by
  obtain ⟨A, c, n, h1, h2, h3, h4, h5⟩ := h
  exact ⟨A, c, n, h1, h2, h3, h4, h5, fun e => absurd e h0⟩
theorem refput_same (A : Option Addr) (c : Nat) (l : List Int) (at_ width v : Int) (w : World) (hs : Sl w .u8 A l) (hm : l.length ≤ 1000000000) (hnil : A = none → c = 0) (hx : -9223372036854775808 ≤ at_ ∧ at_ ≤ 9223372036854775807) (h : ¬ there l.length at_ width) :
    Calls Try.prog 116 #[.slice A l.length c, .int .i64 at_, .int .i64 width, .int .u64 v] w (Bts w l 1) := by
  have H := Lib.hid (there_not A l.length c at_ width w (by omega) hx h)
  have R : Hid (∀ e w', e = Ending.returned (.tuple #[.slice A l.length c, .int .i64 1]) → w = w' → Bts w l 1 e w') := fun e w' he hw => by
    subst hw; exact ⟨A, c, _, rfl, he, hs, Chg.refl _ w, hnil⟩
  clear h hx hs hnil
  go_enter Try.func116, Try.ntmps116
  go_wp2_with (go_at_call 120; refine H.out.mono ?_; rintro e w' ⟨rfl, rfl⟩)
  go_ret2
  exact R.out _ _ rfl rfl
theorem refput_field (A : Option Addr) (c : Nat) (l : List Int) (at_ width v : Int) (w : World) (hs : Sl w .u8 A l) (hm : l.length ≤ 1000000000) (hnil : A = none → c = 0) (h : there l.length at_ width) (h0 : 0 ≤ v) (h1 : v < 18446744073709551616)
    (hv : width < 8 ∧ v / 2 ^ (8 * width.toNat) ≠ 0) :
    Calls Try.prog 116 #[.slice A l.length c, .int .i64 at_, .int .i64 width, .int .u64 v] w (Bts w l 6) := by
  have H := Lib.hid (there_yes A l.length c at_ width w (by omega) h)
  have R : Hid (∀ e w', e = Ending.returned (.tuple #[.slice A l.length c, .int .i64 6]) → w = w' → Bts w l 6 e w') := fun e w' he hw => by
    subst hw; exact ⟨A, c, _, rfl, he, hs, Chg.refl _ w, hnil⟩
  obtain ⟨hw8, hne⟩ := hv
  have hw3 : width = 1 ∨ width = 2 ∨ width = 4 := by have := h.1; omega
  clear hs hnil h
  rcases hw3 with rfl | rfl | rfl
  · have t : (v / 256 != 0) = true := by simpa using hne
    clear hne
    go_enter Try.func116, Try.ntmps116
    go_wp2_with (go_at_call 120; refine H.out.mono ?_; rintro e w' ⟨rfl, rfl⟩)
    go_ret2
    exact R.out _ _ rfl rfl
  · have t : (v / 65536 != 0) = true := by simpa using hne
    clear hne
    go_enter Try.func116, Try.ntmps116
    go_wp2_with (go_at_call 120; refine H.out.mono ?_; rintro e w' ⟨rfl, rfl⟩)
    go_ret2
    exact R.out _ _ rfl rfl
  · have t : (v / 4294967296 != 0) = true := by simpa using hne
    clear hne
    go_enter Try.func116, Try.ntmps116
    go_wp2_with (go_at_call 120; refine H.out.mono ?_; rintro e w' ⟨rfl, rfl⟩)
    go_ret2
    exact R.out _ _ rfl rfl
theorem div_next (v : Int) (k : Nat) : v / 2 ^ (8 * k) / 256 = v / 2 ^ (8 * (k + 1)) := by
  rw [Int.ediv_ediv_of_nonneg (Int.le_of_lt (two_pos _)), p256, Int.mul_comm]
theorem refput_okF (A : Option Addr) (c : Nat) (l : List Int) (at_ width v : Int) (w : World) (hs : Sl w .u8 A l) (hm : l.length ≤ 1000000000) (hnil : A = none → c = 0) (h : there l.length at_ width) (h0 : 0 ≤ v) (h1 : v < 18446744073709551616)
    (hv : ¬ (width < 8 ∧ v / 2 ^ (8 * width.toNat) ≠ 0)) :
    Calls Try.prog 116 #[.slice A l.length c, .int .i64 at_, .int .i64 width, .int .u64 v] w (BtsF w (splice l at_.toNat (leb v width.toNat)) 0) := by
  have H := Lib.hid (there_yes A l.length c at_ width w (by omega) h)
  have HS := Lib.hid hs
  have HN := Lib.hid hnil
  have w8 : 1 ≤ width ∧ width ≤ 8 := by have := h.1; omega
  obtain ⟨b1, b2⟩ := w8
  have a0 := h.2.1
  have a1 := h.2.2
  have HW := Lib.hid h.1
  have HV := Lib.hid hv
  clear hs hnil hv h
  have fits : Hid (width = 8 ∨ width = 1 ∧ v / 256 = 0 ∨ width = 2 ∧ v / 65536 = 0 ∨ width = 4 ∧ v / 4294967296 = 0) := by
    have hv := HV.out
    rcases HW.out with rfl | rfl | rfl | rfl
    · right; left; exact ⟨rfl, Classical.byContradiction fun e => hv ⟨by decide, e⟩⟩
    · right; right; left; exact ⟨rfl, Classical.byContradiction fun e => hv ⟨by decide, e⟩⟩
    · right; right; right; exact ⟨rfl, Classical.byContradiction fun e => hv ⟨by decide, e⟩⟩
    · left; rfl
  obtain ⟨n, en⟩ : ∃ n : Nat, width.toNat = n := ⟨_, rfl⟩
  have en2 : width = n := by omega
  have EN := Lib.hid en2
  rw [en]
  have hl := Lib.hid (leb_length n v)
  clear HW HV en en2
  rcases fits.out with rfl | ⟨rfl, t⟩ | ⟨rfl, t⟩ | ⟨rfl, t⟩
  all_goals
    go_enter Try.func116, Try.ntmps116
    go_wp2_with (first | (go_at_call 120; refine H.out.mono ?_; rintro e w' ⟨rfl, rfl⟩) | (at_builtin; refine wpList_app rfl _ _ 48 rfl w.heap.size 5 .u8 1 Try.underlying48 infoByte _ [] rfl (Own.lit w 5 .u8 [] (Nat.zero_le _)) A _ c l rfl rfl (HS.out.later (Chg.alloc _ w _) (Nat.le_refl _)) HN.out ?h63 ?hby ?hba ?_; (case h63 => unfold maxLen; simp; omega); (case hby => simp; omega); (case hba => simp); intro A' c' n' w3 hn' hown hchg; obtain ⟨g, cs, rfl, hg, hB, rfl, hl1, hl2, hl3, hcell⟩ := Own.blk (l := l) hown (by omega); have HG := Lib.hid hg; have HB := Lib.hid hB; have HC := Lib.hid hcell; have CH : Hid (Chg (fun b => w.heap.size ≤ b) w w3) := (Chg.alloc _ w _).trans hchg; have HL2 := Lib.hid hl2; clear hn' hown hchg hg hB hcell hl2))
    go_loopw [3, 11] (fun u i wr => ∃ (k : Nat) (y : Int), k ≤ n ∧ i = .int .i64 k ∧ u = .int .u64 y ∧ 0 ≤ y ∧ y < 18446744073709551616 ∧ Hid (y = v / 2 ^ (8 * k)) ∧ Hid (wr = w3.setRow g (splice cs at_.toNat (nums .u8 ((leb v n).take k))).toArray)) (fun _ i _ => n - (intOf i).toNat)
    case atStart => exact ⟨0, v, Nat.zero_le _, rfl, rfl, h0, h1, (Int.ediv_one v).symm, by
      show w3 = _
      rw [List.take_zero]
      show w3 = w3.setRow g (splice cs at_.toNat []).toArray
      rw [splice_none, setRow_same HB.out]⟩
    case round =>
      obtain ⟨k, y, hk, rfl, rfl, y0, y1, Y, R⟩ := hrel
      have hb : wr.heap[g]? = some (.cells (splice cs at_.toNat (nums .u8 ((leb v n).take k))).toArray 5 (0, 0)) := by rw [R.out]; exact setRow_heap w3 g _ _ _ (0, 0) HB.out
      have en := EN.out
      by_cases hlt : k < n
      · have hsz : (splice cs at_.toNat (nums .u8 ((leb v n).take k))).length = cs.length := length_splice _ _ _ (by rw [nums_length, List.length_take]; omega)
        have hc1 : ∃ u, wr.cell? ⟨g, (at_ + (k : Int)).toNat, none⟩ = some u := ⟨_, by rw [blk_cell hb, List.getElem?_toArray, List.getElem?_eq_getElem (by omega)]⟩
        obtain ⟨u, hc1⟩ := hc1
        have hf1 : wr.frozen? ⟨g, (at_ + (k : Int)).toNat, none⟩ = false := blk_frozen hb _
        have HB2 := Lib.hid hb
        have hkw : (k : Int) < n := by omega
        rw [← en] at hkw
        clear hb hsz en
        go_wp2
        go_roundw
        case rel => exact ⟨k + 1, y / 256, hlt, by go_num, by go_num, by omega, by omega, by show _ = _; rw [Y.out, div_next], by
          show _ = _
          have e1 : (at_ + (k : Int)).toNat = at_.toNat + k := by omega
          rw [e1, setCell_row HB2.out, R.out, setRow_twice]
          congr 1
          rw [List.setIfInBounds_toArray, Y.out, ← leb_get n v k hlt, splice_step .u8 cs at_.toNat k (leb v n) (by have := hl.out; omega) (by have := hl.out; have := EN.out; omega)]⟩
        case measure => simp [intOf]; omega
      · have hkw : ¬ (k : Int) < n := by omega
        rw [← en] at hkw
        obtain rfl : k = n := by omega
        have T2 : Hid ((leb v k).take k = leb v k) := List.take_of_length_le (by have := hl.out; omega)
        have fin : Hid (∀ e w', e = Ending.returned (.tuple #[.slice (some ⟨g, 0, none⟩) l.length c', .int .i64 0]) → wr = w' → BtsF w (splice l at_.toNat (leb v k)) 0 e w') := fun e w' he hw => by
          subst hw
          rw [T2.out] at hb
          refine ⟨some ⟨g, 0, none⟩, c', _, ?_, he, ?_, ?_, (fun h => by cases h), (fun _ ad e => by cases e; exact HG.out)⟩
          · rw [length_splice]
            have := hl.out
            omega
          · have hlen : (splice l at_.toNat (leb v k)).length = l.length := length_splice _ _ _ (by have := hl.out; omega)
            intro j hj
            refine ⟨_, rfl, ?_⟩
            rw [add_plain, blk_cell hb, List.getElem?_toArray]
            have := splice_cells .u8 cs 0 at_.toNat l (leb v k) (by omega) (by have := hl.out; omega) (fun j hj => by rw [Nat.zero_add]; exact HC.out j hj) j (by omega)
            simp only [Nat.zero_add] at this ⊢
            exact this
          · rw [R.out]
            exact CH.out.trans (Chg.setRow w3 g _ HG.out)
        clear hb en
        go_wp2
        go_ret2
        exact fin.out _ _ rfl rfl

end Go.Proofs.Ytmffdlebahdihaa.Codec

/- Put and PutPlace of bytes of the call's own; the reference's Put, GetPlace and PutPlace of any bytes. -/
namespace Go.Proofs.Ytmffdlebahdihaa.Codec
open Go.RowKit Go.Proofs.Ytmffdlebahdihaa.Mem Go.Proofs.Ytmffdlebahdihaa.CodecPure
set_option linter.unusedVariables false
set_option maxRecDepth 100000

theorem bytes_splice (l bs : List Int) (a : Nat) (hl : Bytes l) (hb : Bytes bs) : Bytes (splice l a bs) := by
  intro x hx
  unfold splice at hx
  simp only [List.mem_append] at hx
  rcases hx with h | h | h
  · exact hl x (List.mem_of_mem_take h)
  · exact hb x h
  · exact hl x (List.mem_of_mem_drop h)
theorem bytes_putC (l : List Int) (at_ width v : Int) (hl : Bytes l) : Bytes (putC l at_ width v).1 := by
  unfold putC
  by_cases ht : there l.length at_ width
  · rw [if_pos ht]
    split
    · exact hl
    · exact bytes_splice l _ _ hl (leb_bytes _ _)
  · rw [if_neg ht]; exact hl
theorem bytes_putPlaceC (l : List Int) (at_ place : Int) (hl : Bytes l) : Bytes (putPlaceC l at_ place).1 := by
  unfold putPlaceC
  by_cases ht : there l.length at_ 4
  · rw [if_pos ht]
    split
    · exact hl
    · exact bytes_splice l _ _ hl (leb_bytes _ _)
  · rw [if_neg ht]; exact hl
theorem putPlaceC_length (l : List Int) (at_ place : Int) : (putPlaceC l at_ place).1.length = l.length := by
  by_cases h : place < -1 ∨ place > 2147483647
  · unfold putPlaceC
    by_cases ht : there l.length at_ 4
    · rw [if_pos ht, if_pos h]
    · rw [if_neg ht]
  · rw [putPlaceC_of l at_ place h]; exact putC_length _ _ _ _
theorem putPlaceRow_of (cs : List Value) (o : Nat) (l : List Int) (at_ place : Int) (h : ¬ (place < -1 ∨ place > 2147483647)) : putPlaceRow cs o l at_ place = putRow cs o l at_ 4 (place % 4294967296) := by
  unfold putPlaceRow putRow
  rw [putPlaceC_of l at_ place h]; rfl
theorem putPlaceRow_far (cs : List Value) (o : Nat) (l : List Int) (at_ place : Int) (h : place < -1 ∨ place > 2147483647) : putPlaceRow cs o l at_ place = cs ∧ (putPlaceC l at_ place).1 = l := by
  unfold putPlaceRow putPlaceC
  by_cases ht : there l.length at_ 4
  · rw [if_pos ht, if_pos h, if_neg (by simp)]; exact ⟨rfl, rfl⟩
  · rw [if_neg ht, if_neg (by simp)]; exact ⟨rfl, rfl⟩
theorem putPlaceRow_length (cs : List Value) (o : Nat) (l : List Int) (at_ place : Int) (hf : o + l.length ≤ cs.length) : (putPlaceRow cs o l at_ place).length = cs.length := by
  by_cases h : place < -1 ∨ place > 2147483647
  · rw [(putPlaceRow_far cs o l at_ place h).1]
  · rw [putPlaceRow_of cs o l at_ place h]; exact putRow_length cs o l at_ 4 _ hf
theorem putPlaceRow_cells (cs : List Value) (o : Nat) (l : List Int) (at_ place : Int) (hf : o + l.length ≤ cs.length) (hc : ∀ j, j < l.length → cs[o + j]? = some (.int .u8 (l.getD j 0))) :
    ∀ j, j < l.length → (putPlaceRow cs o l at_ place)[o + j]? = some (.int .u8 ((putPlaceC l at_ place).1.getD j 0)) := by
  by_cases h : place < -1 ∨ place > 2147483647
  · rw [(putPlaceRow_far cs o l at_ place h).1, (putPlaceRow_far cs o l at_ place h).2]; exact hc
  · rw [putPlaceRow_of cs o l at_ place h, putPlaceC_of l at_ place h]; exact putRow_cells cs o l at_ 4 _ hf hc

/-- one answer, a number; the bytes of the call's own are these now; nothing else that was there has turned -/
def Wr (w : World) (base : Nat) (A : Option Addr) (n c : Nat) (l : List Int) (err : Int) (e : Ending) (w' : World) : Prop :=
  e = .returned (.int .i64 err) ∧ Own w' base 5 .u8 (.slice A n c) l ∧ Chg (fun b => base ≤ b) w w'
theorem put_own (A : Option Addr) (c base : Nat) (l : List Int) (at_ width v : Int) (w : World) (ho : Own w base 5 .u8 (.slice A l.length c) l) (hm : l.length ≤ 1000000000)
    (hx : -9223372036854775808 ≤ at_ ∧ at_ ≤ 9223372036854775807) (h0 : 0 ≤ v) (h1 : v < 18446744073709551616) :
    Calls Try.prog 104 #[.slice A l.length c, .int .i64 at_, .int .i64 width, .int .u64 v] w (Wr w base A l.length c (putC l at_ width v).1 (putC l at_ width v).2) := by
  by_cases hl : 0 < l.length
  · obtain ⟨g, cs, rfl, hg, hB, _, hl1, hl2, hl3, hcell⟩ := ho.blk hl
    refine (put_calls g 0 c 5 cs l at_ width v w hB (by omega) (by omega) hl3 hx h0 h1).mono fun e w' ⟨he, hw⟩ => ⟨he, ?_, ?_⟩
    · subst hw
      have z := putC_length l at_ width v
      have := Own.of_blk (k := .u8) (l := (putC l at_ width v).1) (c := c) hg (setRow_heap w g _ (putRow cs 0 l at_ width v).toArray _ (0, 0) hB) (by rw [putRow_length cs 0 l _ _ _ (by omega)]; omega) (by rw [putRow_length cs 0 l _ _ _ (by omega)]; omega) hl3 (fun j hj => by
        have := putRow_cells cs 0 l at_ width v (by omega) (fun j hj => by rw [Nat.zero_add]; exact hcell j hj) j (by omega)
        rw [Nat.zero_add] at this
        exact this)
      rw [z] at this
      exact this
    · subst hw
      exact Chg.setRow w g _ hg
  · obtain rfl : l = [] := List.eq_nil_of_length_eq_zero (by omega)
    have hno : ¬ there ([] : List Int).length at_ width := by
      intro h
      have := h.1
      have := h.2
      simp at this
      omega
    have e : putC [] at_ width v = ([], 1) := by unfold putC; rw [if_neg hno]
    rw [e]
    refine (put_no A 0 c at_ width v w (by omega) hx hno).mono fun e w' ⟨he, hw⟩ => ⟨he, ?_, ?_⟩
    · subst hw; exact ho
    · subst hw; exact Chg.refl _ w
theorem putplace_own (A : Option Addr) (c base : Nat) (l : List Int) (at_ place : Int) (w : World) (ho : Own w base 5 .u8 (.slice A l.length c) l) (hm : l.length ≤ 1000000000)
    (hx : -9223372036854775808 ≤ at_ ∧ at_ ≤ 9223372036854775807) (hp : -9223372036854775808 ≤ place ∧ place ≤ 9223372036854775807) :
    Calls Try.prog 103 #[.slice A l.length c, .int .i64 at_, .int .i64 place] w (Wr w base A l.length c (putPlaceC l at_ place).1 (putPlaceC l at_ place).2) := by
  by_cases hl : 0 < l.length
  · obtain ⟨g, cs, rfl, hg, hB, _, hl1, hl2, hl3, hcell⟩ := ho.blk hl
    refine (putplace_calls g 0 c 5 cs l at_ place w hB (by omega) (by omega) hl3 hx hp).mono fun e w' ⟨he, hw⟩ => ⟨he, ?_, ?_⟩
    · subst hw
      have z := putPlaceC_length l at_ place
      have := Own.of_blk (k := .u8) (l := (putPlaceC l at_ place).1) (c := c) hg (setRow_heap w g _ (putPlaceRow cs 0 l at_ place).toArray _ (0, 0) hB) (by rw [putPlaceRow_length cs 0 l _ _ (by omega)]; omega) (by rw [putPlaceRow_length cs 0 l _ _ (by omega)]; omega) hl3 (fun j hj => by
        have := putPlaceRow_cells cs 0 l at_ place (by omega) (fun j hj => by rw [Nat.zero_add]; exact hcell j hj) j (by omega)
        rw [Nat.zero_add] at this
        exact this)
      rw [z] at this
      exact this
    · subst hw
      exact Chg.setRow w g _ hg
  · obtain rfl : l = [] := List.eq_nil_of_length_eq_zero (by omega)
    have hno : ¬ there ([] : List Int).length at_ 4 := by
      intro h
      have := h.2
      simp at this
      omega
    have e : putPlaceC [] at_ place = ([], 1) := by unfold putPlaceC; rw [if_neg hno]
    rw [e]
    have H := Lib.hid (part_no A 0 c at_ 4 w (by omega) hx hno)
    have R : Hid (∀ e w', e = Ending.returned (.int .i64 1) → w = w' → Wr w base A ([] : List Int).length c [] 1 e w') := fun e w' he hw => by
      subst hw; exact ⟨he, ho, Chg.refl _ w⟩
    clear e hno hl ho hm hx hp
    show Calls Try.prog 103 #[.slice A 0 c, .int .i64 at_, .int .i64 place] w _
    go_enter Try.func103, Try.ntmps103
    go_wp2_with (go_at_call 110; refine H.out.mono ?_; rintro e w' ⟨rfl, rfl⟩)
    go_ret
    exact R.out _ _ rfl rfl

/-- the reference's Put -/
theorem refput_callsF (A : Option Addr) (c : Nat) (l : List Int) (at_ width v : Int) (w : World) (hs : Sl w .u8 A l) (hm : l.length ≤ 1000000000) (hnil : A = none → c = 0) (hx : -9223372036854775808 ≤ at_ ∧ at_ ≤ 9223372036854775807) (h0 : 0 ≤ v) (h1 : v < 18446744073709551616) :
    Calls Try.prog 116 #[.slice A l.length c, .int .i64 at_, .int .i64 width, .int .u64 v] w (BtsF w (putC l at_ width v).1 (putC l at_ width v).2) := by
  unfold putC
  by_cases ht : there l.length at_ width
  · rw [if_pos ht]
    by_cases hv : width < 8 ∧ v / 2 ^ (8 * width.toNat) ≠ 0
    · rw [if_pos hv]; exact (refput_field A c l at_ width v w hs hm hnil ht h0 h1 hv).mono fun _ _ h => h.f (by decide)
    · rw [if_neg hv]; exact refput_okF A c l at_ width v w hs hm hnil ht h0 h1 hv
  · rw [if_neg ht]; exact (refput_same A c l at_ width v w hs hm hnil hx ht).mono fun _ _ h => h.f (by decide)
theorem refput_calls (A : Option Addr) (c : Nat) (l : List Int) (at_ width v : Int) (w : World) (hs : Sl w .u8 A l) (hm : l.length ≤ 1000000000) (hnil : A = none → c = 0) (hx : -9223372036854775808 ≤ at_ ∧ at_ ≤ 9223372036854775807) (h0 : 0 ≤ v) (h1 : v < 18446744073709551616) :
    Calls Try.prog 116 #[.slice A l.length c, .int .i64 at_, .int .i64 width, .int .u64 v] w (Bts w (putC l at_ width v).1 (putC l at_ width v).2) :=
  (refput_callsF A c l at_ width v w hs hm hnil hx h0 h1).mono fun _ _ h => h.bts
/-- the reference's PutPlace -/
theorem refputplace_callsF (A : Option Addr) (c : Nat) (l : List Int) (at_ place : Int) (w : World) (hs : Sl w .u8 A l) (hm : l.length ≤ 1000000000) (hnil : A = none → c = 0) (hx : -9223372036854775808 ≤ at_ ∧ at_ ≤ 9223372036854775807)
    (hp : -9223372036854775808 ≤ place ∧ place ≤ 9223372036854775807) :
    Calls Try.prog 117 #[.slice A l.length c, .int .i64 at_, .int .i64 place] w (BtsF w (putPlaceC l at_ place).1 (putPlaceC l at_ place).2) := by
  obtain ⟨p0, p1⟩ := hp
  by_cases ht : there l.length at_ 4
  · have H := Lib.hid (there_yes A l.length c at_ 4 w (by omega) ht)
    by_cases h : place < -1 ∨ place > 2147483647
    · have e : putPlaceC l at_ place = (l, 6) := by unfold putPlaceC; rw [if_pos ht, if_pos h]
      rw [e]
      have R : Hid (∀ e w', e = Ending.returned (.tuple #[.slice A l.length c, .int .i64 6]) → w = w' → BtsF w l 6 e w') := fun e w' he hw => by
        subst hw; exact ⟨A, c, _, rfl, he, hs, Chg.refl _ w, hnil, (fun h => by cases h)⟩
      clear e hs hnil hx ht
      rcases h with h | h
      · go_enter Try.func117, Try.ntmps117
        go_wp2_with (go_at_call 120; refine H.out.mono ?_; rintro e w' ⟨rfl, rfl⟩)
        go_ret2
        exact R.out _ _ rfl rfl
      · have h' : ¬ place < -1 := by omega
        go_enter Try.func117, Try.ntmps117
        go_wp2_with (go_at_call 120; refine H.out.mono ?_; rintro e w' ⟨rfl, rfl⟩)
        go_ret2
        exact R.out _ _ rfl rfl
    · have e := putPlaceC_of l at_ place h
      have P := Lib.hid (refput_callsF A c l at_ 4 (place % 4294967296) w hs hm hnil hx (by omega) (by omega))
      rw [e]
      have q0 : -1 ≤ place := by omega
      have q1 : place ≤ 2147483647 := by omega
      have q2 : (IntKind.u64.wrap place).tmod 4294967296 = place % 4294967296 := by rw [u64_wrap, Int.tmod_eq_emod_of_nonneg (by omega)]; omega
      clear e hs hnil hx ht h p0 p1
      obtain ⟨X, eX⟩ : ∃ X, (putC l at_ 4 (place % 4294967296)).1 = X := ⟨_, rfl⟩
      obtain ⟨E, eE⟩ : ∃ E, (putC l at_ 4 (place % 4294967296)).2 = E := ⟨_, rfl⟩
      rw [eX, eE] at P ⊢
      clear eX eE
      go_enter Try.func117, Try.ntmps117
      go_wp2_with (first | (go_at_call 120; refine H.out.mono ?_; rintro e w' ⟨rfl, rfl⟩) | (go_at_call 116; refine P.out.mono ?_; rintro e w' ⟨A', c', n', hn', rfl, hs', hc', hz', hf'⟩; have R2 : Hid (∀ e, e = Ending.returned (.tuple #[.slice A' n' c', .int .i64 E]) → BtsF w X E e w') := (fun e he => ⟨A', c', n', hn', he, hs', hc', hz', hf'⟩); clear hn' hs' hc' hz' hf'))
      go_ret2
      exact R2.out _ rfl
  · have H := Lib.hid (there_not A l.length c at_ 4 w (by omega) hx ht)
    have e : putPlaceC l at_ place = (l, 1) := by unfold putPlaceC; rw [if_neg ht]
    rw [e]
    have R : Hid (∀ e w', e = Ending.returned (.tuple #[.slice A l.length c, .int .i64 1]) → w = w' → BtsF w l 1 e w') := fun e w' he hw => by
      subst hw; exact ⟨A, c, _, rfl, he, hs, Chg.refl _ w, hnil, (fun h => by cases h)⟩
    clear e hs hnil hx ht
    go_enter Try.func117, Try.ntmps117
    go_wp2_with (go_at_call 120; refine H.out.mono ?_; rintro e w' ⟨rfl, rfl⟩)
    go_ret2
    exact R.out _ _ rfl rfl

theorem refputplace_calls (A : Option Addr) (c : Nat) (l : List Int) (at_ place : Int) (w : World) (hs : Sl w .u8 A l) (hm : l.length ≤ 1000000000) (hnil : A = none → c = 0) (hx : -9223372036854775808 ≤ at_ ∧ at_ ≤ 9223372036854775807)
    (hp : -9223372036854775808 ≤ place ∧ place ≤ 9223372036854775807) :
    Calls Try.prog 117 #[.slice A l.length c, .int .i64 at_, .int .i64 place] w (Bts w (putPlaceC l at_ place).1 (putPlaceC l at_ place).2) :=
  (refputplace_callsF A c l at_ place w hs hm hnil hx hp).mono fun _ _ h => h.bts

end Go.Proofs.Ytmffdlebahdihaa.Codec

/- Append onto a row of the call's own, with word of where the new row lies. No program in sight. -/
namespace Go.Proofs.Ytmffdlebahdihaa.Mem
open Go Go.RowKit
set_option linter.unusedVariables false

/-- append onto a row of the call's own, of numbers wherever they lie: only the row's own block is written; the new row lies there or in a new block -/
theorem wpList_app_at {P : Program} {w : World} {ops : Array Oper} {rest : List Oper} {o : Oper} {a : Act} {Q : Exit → Act → World → Prop} (hgd : o.guard = none) (s x : Operand) (t : TypeId)
    (ho : o.op = .call { callee := .builtin .append, args := #[s, x], argTypes := #[t, t] })
    (base : Nat) (e : TypeId) (k : IntKind) (bytes : Nat) (ht : P.underlying t = some (.slice e)) (hinfo : (P.info? e).map (fun i => (i.zero, i.size, i.bytes)) = some (some (.int k 0), 1, bytes))
    (v : Value) (xs : List Int) (hs : a.eval s = v) (hown : Own w base e k v xs)
    (A : Option Addr) (m c : Nat) (l : List Int) (hx : a.eval x = .slice A m c) (hm : l.length = m) (hsl : Sl w k A l) (hnil : A = none → c = 0)
    (h63 : xs.length + m ≤ maxLen) (hbytes : (xs.length + m) * bytes ≤ 140737488355328) (hbase : base ≤ w.heap.size)
    (h : ∀ A' c' n' w', n' = xs.length + m → Own w' base e k (.slice A' n' c') (xs ++ l) → Chg (fun b => v.ownBlock = some b) w w' → ((Value.slice A' n' c').ownBlock = v.ownBlock ∨ (Value.slice A' n' c').ownBlock = some w.heap.size) → wpList P ops Q rest (a.put o.dst (.slice A' n' c')) w') : wpList P ops Q (o :: rest) a w := by
  subst hm
  obtain ⟨i0, hi, hz0, hz1, hz2⟩ := info_parts hinfo
  cases A with
  | none =>
    have hl : l = [] := by
      cases l with
      | nil => rfl
      | cons y ys =>
        obtain ⟨ad, h0, _⟩ := hsl 0 (by simp)
        cases h0
    subst hl
    obtain rfl := hnil rfl
    refine wpList_append_own_none hgd s x t ho base e i0 1 ht hi v xs.length (nums k xs) hs hown (by simpa using hx) ?_
    obtain ⟨A', c', rfl⟩ := hown.form
    exact h A' c' xs.length w (by simp) (by rw [List.append_nil]; exact hown) (Chg.refl _ w) (Or.inl rfl)
  | some ad =>
    refine wpList_append_own_at w hgd s x t ho base e i0 (.int k 0) 1 bytes ht hi hz0 hz1 hz2 rfl (by decide) v xs.length (nums k xs) hs hown ad l.length c (nums k l) hx (by simp [nums_length]) ?_ ?_ h63 hbytes hbase ?_
    · intro j u hu
      have hj : j < l.length := by
        rcases Nat.lt_or_ge j l.length with hlt | hge
        · exact hlt
        · rw [List.getElem?_eq_none (by rw [nums_length]; exact hge)] at hu; cases hu
      obtain ⟨ad', h0, hc⟩ := hsl j hj
      cases h0
      rw [nums_get k l j hj] at hu
      cases hu
      exact hc
    · intro u hu
      simp only [nums, List.mem_map] at hu
      obtain ⟨y, _, rfl⟩ := hu
      rfl
    · intro v' w' hown' hg _ hat
      have ho' : Own w' base e k v' (xs ++ l) := by
        unfold Own
        rw [nums_append, List.length_append]
        exact hown'
      obtain ⟨A', c', rfl⟩ := ho'.form
      exact h A' c' _ w' (by rw [List.length_append]) ho' ⟨hg.os, hg.tape, hg.output, hg.size, fun b hb hs => hg.block b hb fun e => hs e.symm⟩ hat

/-- two rows lie in two blocks -/
def Apart (v u : Value) : Prop := ∀ g, v.ownBlock = some g → u.ownBlock ≠ some g
theorem Apart.symm {v u : Value} (h : Apart v u) : Apart u v := fun g hu hv => h g hv hu
theorem Apart.grown {w : World} {v v' u : Value} (h : Apart v u) (hat : v'.ownBlock = v.ownBlock ∨ v'.ownBlock = some w.heap.size) (hu : ∀ g, u.ownBlock = some g → g < w.heap.size) : Apart v' u := by
  intro g hv he
  rcases hat with hat | hat
  · exact h g (hat ▸ hv) he
  · rw [hat] at hv
    injection hv with hv
    have := hu g he
    omega
theorem Apart.none (u : Value) (n c : Nat) : Apart (.slice none n c) u := fun g h => by simp [Value.ownBlock] at h
theorem Own.keep {w w' : World} {base : Nat} {e : TypeId} {k : IntKind} {v u : Value} {l : List Int} (h : Own w base e k u l) (hc : Chg (fun b => v.ownBlock = some b) w w') (ha : Apart v u) : Own w' base e k u l :=
  h.chg hc fun g hu hv => ha g hv hu

end Go.Proofs.Ytmffdlebahdihaa.Mem

