/- Words on memory: a row of cells known whole, what changes and what stays, bytes in a row. No program in sight. -/
import Derived.WalkKit
import Derived.Laws.CopyOwn
import Derived.Deep.Draws
namespace Go.Proofs.Ytolpjgpimholcaa.Mem
open Go Go.RowKit
set_option linter.unusedVariables false

/-! ### A row known whole -/
theorem blk_lt {w : World} {g : Nat} {o : Obj} (h : w.heap[g]? = some o) : g < w.heap.size := (Array.getElem?_eq_some_iff.1 h).1
theorem blk_cell {w : World} {g : Nat} {cs : Array Value} {t : TypeId} {fr : Nat × Nat} (h : w.heap[g]? = some (.cells cs t fr)) (i : Nat) : w.cell? ⟨g, i, none⟩ = cs[i]? := by
  simp [World.cell?, h]
theorem blk_frozen {w : World} {g : Nat} {cs : Array Value} {t : TypeId} (h : w.heap[g]? = some (.cells cs t (0, 0))) (i : Nat) : w.frozen? ⟨g, i, none⟩ = false := by
  simp [World.frozen?, h]
theorem setRow_other (w : World) (g : Nat) (cs : Array Value) (b : Nat) (h : b ≠ g) : (w.setRow g cs).heap[b]? = w.heap[b]? := by
  simp only [World.setRow, Array.getElem?_modify]
  rw [if_neg (by omega)]
theorem setRow_size (w : World) (g : Nat) (cs : Array Value) : (w.setRow g cs).heap.size = w.heap.size := by simp [World.setRow]
theorem setRow_twice (w : World) (g : Nat) (a b : Array Value) : (w.setRow g a).setRow g b = w.setRow g b := by
  unfold World.setRow
  congr 1
  apply Array.ext_getElem?
  intro i
  simp only [Array.getElem?_modify]
  split
  · cases w.heap[i]? with
    | none => rfl
    | some o => cases o <;> rfl
  · rfl
theorem setCell_row {w : World} {g : Nat} {cs : Array Value} {t : TypeId} {fr : Nat × Nat} (h : w.heap[g]? = some (.cells cs t fr)) (i : Nat) (v : Value) :
    w.setCell ⟨g, i, none⟩ v = w.setRow g (cs.setIfInBounds i v) := by
  unfold World.setCell World.setRow
  congr 1
  apply Array.ext_getElem?
  intro j
  simp only [Array.getElem?_modify]
  split
  · rename_i e
    subst e
    rw [h]; rfl
  · rfl
theorem setRow_same {w : World} {g : Nat} {cs : Array Value} {t : TypeId} {fr : Nat × Nat} (h : w.heap[g]? = some (.cells cs t fr)) : w.setRow g cs = w := setRow_self w g cs t fr h

/-! ### What changes: nothing that was there outside S -/
structure Chg (S : Nat → Prop) (w w' : World) : Prop where
  os : w'.os = w.os
  tape : w'.tape = w.tape
  output : w'.output = w.output
  size : w.heap.size ≤ w'.heap.size
  block : ∀ b, b < w.heap.size → ¬ S b → w'.heap[b]? = w.heap[b]?
theorem Chg.refl (S : Nat → Prop) (w : World) : Chg S w w := ⟨rfl, rfl, rfl, Nat.le_refl _, fun _ _ _ => rfl⟩
theorem Chg.trans {S : Nat → Prop} {a b c : World} (h : Chg S a b) (k : Chg S b c) : Chg S a c :=
  ⟨k.os.trans h.os, k.tape.trans h.tape, k.output.trans h.output, Nat.le_trans h.size k.size, fun i hi hs => (k.block i (Nat.lt_of_lt_of_le hi h.size) hs).trans (h.block i hi hs)⟩
theorem Chg.mono {S T : Nat → Prop} {a b : World} (h : Chg S a b) (st : ∀ i, i < a.heap.size → S i → T i) : Chg T a b :=
  ⟨h.os, h.tape, h.output, h.size, fun i hi hs => h.block i hi fun s => hs (st i hi s)⟩
theorem Chg.alloc (S : Nat → Prop) (w : World) (o : Obj) : Chg S w (w.alloc o) := ⟨rfl, rfl, rfl, by simp, fun b hb _ => Below.heap_alloc w o b hb⟩
theorem Chg.drew (S : Nat → Prop) (w : World) : Chg S w w.drew := ⟨rfl, rfl, rfl, Nat.le_refl _, fun _ _ _ => rfl⟩
theorem Chg.drewN (S : Nat → Prop) (w : World) (n : Nat) : Chg S w (w.drewN n) := ⟨rfl, rfl, rfl, Nat.le_refl _, fun _ _ _ => rfl⟩
theorem Chg.setRow {S : Nat → Prop} (w : World) (g : Nat) (cs : Array Value) (hg : S g) : Chg S w (w.setRow g cs) :=
  ⟨rfl, rfl, rfl, by rw [setRow_size]; exact Nat.le_refl _, fun b _ hb => setRow_other w g cs b fun e => hb (e ▸ hg)⟩
theorem Chg.setCell {S : Nat → Prop} (w : World) (a : Addr) (v : Value) (hg : S a.block) : Chg S w (w.setCell a v) :=
  ⟨rfl, rfl, rfl, by simp, fun b _ hb => Below.heap_setCell w a v b fun e => hb (e ▸ hg)⟩
theorem Chg.of_below {S : Nat → Prop} {w w' : World} (h : Below w.heap.size w w') : Chg S w w' := ⟨h.os, h.tape, h.output, h.size, fun b hb _ => h.block b hb⟩
theorem Chg.below {S : Nat → Prop} {w w' : World} {B : Nat} (h : Chg S w w') (hB : B ≤ w.heap.size) (hS : ∀ b, S b → B ≤ b) : Below B w w' :=
  ⟨h.os, h.tape, h.output, h.size, fun b hb => h.block b (Nat.lt_of_lt_of_le hb hB) fun s => by have := hS b s; omega⟩
theorem Chg.keep {S : Nat → Prop} {w w' : World} (h : Chg S w w') {g : Nat} {o : Obj} (hg : w.heap[g]? = some o) (hs : ¬ S g) : w'.heap[g]? = some o := (h.block g (blk_lt hg) hs).trans hg
theorem Chg.cell {S : Nat → Prop} {w w' : World} (h : Chg S w w') {a : Addr} {v : Value} (hc : w.cell? a = some v) (hs : ¬ S a.block) : w'.cell? a = some v := by
  rw [World.cell?_of_block (w := w) (h.block a.block (World.block_lt_of_cell? w a hc) hs)]; exact hc

/-- nothing has turned but the count of answers drawn -/
def Dr (w w' : World) : Prop := ∃ n, w' = w.drewN n
theorem Dr.refl (w : World) : Dr w w := ⟨0, rfl⟩
theorem Dr.step {w w' : World} (h : Dr w w') (n : Nat) : Dr w (w'.drewN n) := by
  obtain ⟨m, rfl⟩ := h
  exact ⟨m + n, by simp [World.drewN, Nat.add_assoc]⟩
theorem Dr.trans {a b c : World} (h : Dr a b) (k : Dr b c) : Dr a c := by
  obtain ⟨n, rfl⟩ := k
  exact h.step n
theorem Dr.chg {w w' : World} (h : Dr w w') (S : Nat → Prop) : Chg S w w' := by
  obtain ⟨n, rfl⟩ := h
  exact Chg.drewN S w n

/-! ### Numbers in a row -/
/-- numbers as values of one kind -/
def nums (k : IntKind) (l : List Int) : List Value := l.map (.int k)
theorem nums_length (k : IntKind) (l : List Int) : (nums k l).length = l.length := by simp [nums]
theorem nums_get (k : IntKind) (l : List Int) (j : Nat) (h : j < l.length) : (nums k l)[j]? = some (.int k (l.getD j 0)) := by
  simp [nums, List.getElem?_eq_getElem h, List.getD_eq_getElem?_getD]
/-- from offset o of block g on lie these numbers -/
def At (w : World) (k : IntKind) (g o : Nat) (l : List Int) : Prop := ∀ j, j < l.length → w.cell? ⟨g, o + j, none⟩ = some (.int k (l.getD j 0))
theorem At.cell {w : World} {k : IntKind} {g o : Nat} {l : List Int} (h : At w k g o l) (j : Nat) (hj : j < l.length) : w.cell? ⟨g, o + j, none⟩ = some (.int k (l.getD j 0)) := h j hj
theorem At.of_blk {w : World} {k : IntKind} {g o : Nat} {l : List Int} {cs : Array Value} {t : TypeId} {fr : Nat × Nat} (h : w.heap[g]? = some (.cells cs t fr))
    (hl : ∀ j, j < l.length → cs[o + j]? = some (.int k (l.getD j 0))) : At w k g o l := fun j hj => (blk_cell h _).trans (hl j hj)
theorem At.chg {w w' : World} {k : IntKind} {g o : Nat} {l : List Int} {S : Nat → Prop} (h : At w k g o l) (hc : Chg S w w') (hs : ¬ S g) : At w' k g o l := fun j hj => hc.cell (h j hj) hs
theorem At.sub {w : World} {k : IntKind} {g o : Nat} {l : List Int} (h : At w k g o l) (i n : Nat) (hn : i + n ≤ l.length) : At w k g (o + i) ((l.drop i).take n) := by
  intro j hj
  have hj' : j < n ∧ i + j < l.length := by simp at hj; omega
  have := h (i + j) hj'.2
  rw [Nat.add_assoc, this]
  congr 2
  simp [List.getD_eq_getElem?_getD, hj'.1]

theorem add_block (ad : Addr) (i : Nat) : (ad.add i).block = ad.block := by unfold Addr.add; split <;> rfl
theorem add_add (ad : Addr) (i j : Nat) : (ad.add i).add j = ad.add (i + j) := by
  unfold Addr.add
  by_cases hi : i = 0
  · subst hi; simp
  · by_cases hj : j = 0
    · subst hj; simp [hi]
    · rw [if_neg hi, if_neg hj, if_neg (by omega)]; simp only [Addr.mk.injEq, and_true, true_and]; omega
theorem add_plain (g o i : Nat) : (⟨g, o, none⟩ : Addr).add i = ⟨g, o + i, none⟩ := by
  unfold Addr.add
  split
  · rename_i h; subst h; rfl
  · rfl
/-- a slice value's elements are these numbers -/
def Sl (w : World) (k : IntKind) (A : Option Addr) (l : List Int) : Prop := ∀ i, i < l.length → ∃ ad, A = some ad ∧ w.cell? (ad.add i) = some (.int k (l.getD i 0))
theorem Sl.chg {w w' : World} {k : IntKind} {A : Option Addr} {l : List Int} {S : Nat → Prop} (h : Sl w k A l) (hc : Chg S w w') (hs : ∀ ad, A = some ad → ¬ S ad.block) : Sl w' k A l := by
  intro i hi
  obtain ⟨ad, e, c⟩ := h i hi
  refine ⟨ad, e, hc.cell c ?_⟩
  rw [add_block]
  exact hs ad e
/-- what lay there before a change of new blocks alone lies there still -/
theorem Sl.later {w w' : World} {k : IntKind} {A : Option Addr} {l : List Int} {B : Nat} (h : Sl w k A l) (hc : Chg (fun b => B ≤ b) w w') (hB : w.heap.size ≤ B) : Sl w' k A l := by
  intro i hi
  obtain ⟨ad, e, c⟩ := h i hi
  refine ⟨ad, e, hc.cell c ?_⟩
  have := World.block_lt_of_cell? w _ c
  show ¬ B ≤ (ad.add i).block
  omega
/-- a slice that came in -/
structure RowOf (w : World) (k : IntKind) (A : Option Addr) (c : Nat) (l : List Int) (b : Nat) : Prop where
  cap : l.length ≤ c
  most : c ≤ maxLen
  reach : l.length * b ≤ 140737488351232
  sl : Sl w k A l
  wf : ∀ x ∈ l, (Lit.int k x).wf = true
  nil : A = none → l = [] ∧ c = 0
theorem RowOf.none (w : World) (k : IntKind) (b : Nat) : RowOf w k none 0 [] b := ⟨by simp, by unfold maxLen; omega, by simp, fun i hi => by simp at hi, fun x hx => by simp at hx, fun _ => ⟨rfl, rfl⟩⟩
theorem RowOf.some {w : World} {k : IntKind} {x : Addr} {n c b : Nat} {zs : List Int} (h : n ≤ c) (hm : c ≤ maxLen) (hz : zs.length = c) (hc : ∀ i, i < zs.length → w.cell? (x.add i) = some (.int k (zs.getD i 0)))
    (hw : ∀ y ∈ zs, (Lit.int k y).wf = true) (hr : n * b ≤ 140737488351232) : RowOf w k (some x) c (zs.take n) b := by
  have hl : (zs.take n).length = n := by rw [List.length_take]; omega
  refine ⟨by omega, hm, by rw [hl]; exact hr, fun i hi => ⟨x, rfl, ?_⟩, fun y hy => hw y (List.mem_of_mem_take hy), fun h => by cases h⟩
  rw [hc i (by omega)]
  congr 2
  simp [List.getD_eq_getElem?_getD, show i < n by omega]
theorem Sl.nil (w : World) (k : IntKind) (A : Option Addr) : Sl w k A [] := fun i hi => by simp at hi


/-! ### A piece of a row -/
theorem splice_get {α : Type} (L cs : List α) (off : Nat) (h : off + cs.length ≤ L.length) (i : Nat) : (splice L off cs)[i]? = if off ≤ i ∧ i < off + cs.length then cs[i - off]? else L[i]? := by
  unfold splice
  have hl : (L.take off).length = off := by rw [List.length_take]; omega
  by_cases h1 : i < off
  · rw [if_neg (by omega), List.getElem?_append_left (by omega), List.getElem?_take, if_pos h1]
  · rw [List.getElem?_append_right (by omega), hl]
    by_cases h2 : i < off + cs.length
    · rw [if_pos ⟨by omega, h2⟩, List.getElem?_append_left (by omega)]
    · rw [if_neg (by omega), List.getElem?_append_right (by omega), List.getElem?_drop]
      congr 1; omega
theorem splice_none {α : Type} (L : List α) (off : Nat) : splice L off [] = L := by simp [splice]
theorem splice_step (k : IntKind) (cs : List Value) (O j : Nat) (l : List Int) (h : j < l.length) (hf : O + l.length ≤ cs.length) :
    (splice cs O (nums k (l.take j))).set (O + j) (.int k (l.getD j 0)) = splice cs O (nums k (l.take (j + 1))) := by
  have z1 : (nums k (l.take j)).length = j := by rw [nums_length, List.length_take]; omega
  have z2 : (nums k (l.take (j + 1))).length = j + 1 := by rw [nums_length, List.length_take]; omega
  apply List.ext_getElem?
  intro i
  rw [List.getElem?_set, length_splice _ _ _ (by omega), splice_get _ _ _ (by omega), splice_get _ _ _ (by omega), z1, z2]
  have hn : ∀ m, m < j + 1 → (nums k (l.take (j + 1)))[m]? = some (.int k (l.getD m 0)) := fun m hm => by
    rw [nums_get k _ m (by rw [List.length_take]; omega)]
    congr 2
    simp [List.getD_eq_getElem?_getD, hm]
  have hn' : ∀ m, m < j → (nums k (l.take j))[m]? = some (.int k (l.getD m 0)) := fun m hm => by
    rw [nums_get k _ m (by rw [List.length_take]; omega)]
    congr 2
    simp [List.getD_eq_getElem?_getD, hm]
  by_cases e : O + j = i
  · subst e
    rw [if_pos rfl, if_pos (by omega), if_pos (by omega), hn (O + j - O) (by omega)]
    congr 3; omega
  · rw [if_neg e]
    by_cases h1 : O ≤ i ∧ i < O + j
    · rw [if_pos h1, if_pos (by omega), hn _ (by omega), hn' _ (by omega)]
    · rw [if_neg h1, if_neg (by omega)]

/-- a row's cells with a piece laid in are the numbers with it laid in -/
theorem splice_cells (k : IntKind) (cs : List Value) (o a : Nat) (l bs : List Int) (hf : o + l.length ≤ cs.length) (hb : a + bs.length ≤ l.length) (hc : ∀ j, j < l.length → cs[o + j]? = some (.int k (l.getD j 0))) :
    ∀ j, j < l.length → (splice cs (o + a) (nums k bs))[o + j]? = some (.int k ((splice l a bs).getD j 0)) := by
  intro j hj
  rw [splice_get _ _ _ (by rw [nums_length]; omega), nums_length, List.getD_eq_getElem?_getD, splice_get _ _ _ hb]
  by_cases h : a ≤ j ∧ j < a + bs.length
  · have e : o + j - (o + a) = j - a := by omega
    rw [if_pos (by omega), if_pos h, e, nums_get k bs (j - a) (by omega), List.getD_eq_getElem?_getD]
  · rw [if_neg (by omega), if_neg h, hc j hj, List.getD_eq_getElem?_getD]

end Go.Proofs.Ytolpjgpimholcaa.Mem
