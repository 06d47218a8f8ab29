/- The walk of the law ArenaPages: it returns true at any number of pages and any acts. -/
import Derived.Test.YtolpjgpimholcaaArenaEnds
import Derived.Test.YtolpjgpimholcaaOps
import Derived.Deep.DeepCutAuto
import Derived.Deep.LoopGhost
import Derived.Deep.RegionHeld3
namespace Go.Proofs.Ytolpjgpimholcaa.Arena
open Go Go.RowKit Go.Proofs.Ytolpjgpimholcaa.Mem Go.Proofs.Ytolpjgpimholcaa.CodecPure Go.Proofs.Ytolpjgpimholcaa.ArenaPure Go.Proofs.Ytolpjgpimholcaa.Codec
set_option linter.unusedVariables false
set_option maxRecDepth 100000
/-- an arena and, beside it, a row o of numbers l -/
structure PInv (B : Nat) (w0 w : World) (a : Ar) (s : St) (o n : Nat) (l : List Int) : Prop where
  here : Here B w0 w a s
  own : Own w B 3 .i64 (.slice (some ⟨o, 0, none⟩) n n) l
  len : l.length = n
  out : o ≠ a.g ∧ o ≠ a.ps ∧ o ∉ a.pb
  low : B ≤ o
variable {B o n : Nat} {w0 w w' : World} {a : Ar} {s s' : St} {l : List Int}
theorem PInv.arena (h : PInv B w0 w a s o n l) (hl : Lies w' a s') (hc : Chg (· ∈ a.pb) w w') : PInv B w0 w' a s' o n l :=
  ⟨h.here.now hl hc, h.own.chg hc fun g e => by simp [Value.ownBlock] at e; subst e; exact h.out.2.2, h.len, h.out, h.low⟩
theorem PInv.fresh (h : PInv B w0 w a s o n l) (hc : Chg (fun _ => False) w w') : PInv B w0 w' a s o n l :=
  ⟨h.here.fresh hc, h.own.chg hc fun g e => id, h.len, h.out, h.low⟩
theorem PInv.store (h : PInv B w0 w a s o n l) (i : Nat) (hi : i < n) (v : Int) : PInv B w0 (w.setCell ⟨o, i, none⟩ (.int .i64 v)) a s o n (l.set i v) :=
  ⟨⟨h.here.lies.chg (Chg.setCell (S := fun x => x = o) w ⟨o, i, none⟩ _ rfl) h.out.1.symm h.out.2.1.symm fun b hb e => h.out.2.2 (e ▸ hb), h.here.chg.trans (Chg.setCell _ _ _ h.low), h.here.low⟩,
    h.own.setc i (by rw [h.len]; exact hi) v, by rw [List.length_set]; exact h.len, h.out, h.low⟩
theorem PInv.cell (h : PInv B w0 w a s o n l) (i : Nat) (hi : i < n) : w.cell? ⟨o, i, none⟩ = some (.int .i64 (l.getD i 0)) ∧ w.frozen? ⟨o, i, none⟩ = false := h.own.cellAt i (by rw [h.len]; exact hi)
theorem make_ints (n : Nat) (h : n ≤ 1000000) (W : World) : (Instr.makeSlice 27 (.int .i64 n) (.int .i64 n)).run Try.prog W = .ok (.slice (some ⟨W.heap.size, 0, none⟩) n n) (W.alloc (.cells (nums .i64 (List.replicate n 0)).toArray 3)) := by
  obtain ⟨i0, hi, hz0, hz1, hz2⟩ := info_parts infoInt
  rw [run_make W 27 3 i0 (.int .i64 0) Try.underlying27 hi hz0 .i64 .i64 n n (by omega) (by omega) (by rw [hz2]; omega) (by omega), hz1]
  have e : ((n : Int)).toNat = n := by omega
  have e2 : madeCells (Value.int .i64 0).cells (n * 1) = (nums .i64 (List.replicate n 0)).toArray := by
    apply Array.ext_getElem?
    intro i
    unfold madeCells nums
    rw [Array.getElem?_map, Array.getElem?_range, List.getElem?_toArray, List.getElem?_map, List.getElem?_replicate, Nat.mul_one]
    split
    · show some (#[Value.int .i64 0][i % 1]!) = some (Value.int .i64 0)
      rw [Nat.mod_one]; rfl
    · rfl
  rw [e, e2]
theorem PInv.start (h : Here B w0 w a s) (n : Nat) (hn : n ≤ 1000000) : PInv B w0 (w.alloc (.cells (nums .i64 (List.replicate n 0)).toArray 3)) a s w.heap.size n (List.replicate n 0) where
  here := h.alloc _
  own := by
    have := Own.lit w 3 .i64 (List.replicate n 0) (by rw [List.length_replicate]; unfold maxLen; omega)
    rw [List.length_replicate] at this
    exact this.mono (by
      have := blk_lt h.lies.head
      have := h.low.1
      omega)
  len := by rw [List.length_replicate]
  out := by
    have h1 := blk_lt h.lies.head
    have h2 := World.block_lt_of_cell? w _ (h.lies.row 0 h.lies.ok.low)
    refine ⟨by omega, fun e => ?_, fun hb => ?_⟩
    · rw [← e] at h2; exact Nat.lt_irrefl _ h2
    · obtain ⟨i, hi, e⟩ := h.lies.of_mem hb
      have := blk_lt (h.lies.page i hi)
      omega
  low := by
    have := blk_lt h.lies.head
    have := h.low.1
    omega
theorem first_le (l : List Int) : first l ≤ l.length := List.findIdx_le_length
theorem first_before (l : List Int) (j : Nat) (h : j < first l) : 0 ≤ l.getD j 0 := by
  have hj : j < l.length := Nat.lt_of_lt_of_le h (first_le l)
  have := List.not_of_lt_findIdx h
  rw [List.getD_eq_getElem?_getD, List.getElem?_eq_getElem hj]
  simpa using this
theorem first_at (l : List Int) (h : first l < l.length) : l.getD (first l) 0 < 0 := by
  have h2 : decide (l[first l] < 0) = true := List.findIdx_getElem (w := h)
  rw [List.getD_eq_getElem?_getD, List.getElem?_eq_getElem h]
  exact of_decide_eq_true h2
theorem set_same (l : List Int) (i : Nat) (v : Int) (h : l.getD i 0 = v) : l.set i v = l := by
  apply List.ext_getElem?
  intro j
  rw [List.getElem?_set]
  by_cases e : i = j
  · subst e
    by_cases hi : i < l.length
    · rw [if_pos rfl, if_pos hi, List.getElem?_eq_getElem hi]
      rw [List.getD_eq_getElem?_getD, List.getElem?_eq_getElem hi] at h
      rw [← h]; rfl
    · rw [if_pos rfl, if_neg hi, List.getElem?_eq_none (by omega)]
  · rw [if_neg e]
theorem setN (l : List Int) (n k : Nat) (h : l.length = n) (hl : l = List.replicate k (-1) ++ List.replicate (n - k) 0) (hk : k < n) : l.set k (-1) = List.replicate (k + 1) (-1) ++ List.replicate (n - (k + 1)) 0 := by
  subst hl
  apply List.ext_getElem?
  intro i
  rw [List.getElem?_set]
  by_cases e : k = i
  · subst e
    rw [if_pos rfl, if_pos (by rw [h]; exact hk), List.getElem?_append_left (by rw [List.length_replicate]; omega), List.getElem?_replicate, if_pos (by omega)]
  · rw [if_neg e]
    by_cases h1 : i < k
    · rw [List.getElem?_append_left (by rw [List.length_replicate]; omega), List.getElem?_append_left (by rw [List.length_replicate]; omega), List.getElem?_replicate, List.getElem?_replicate, if_pos h1, if_pos (by omega)]
    · rw [List.getElem?_append_right (by rw [List.length_replicate]; omega), List.getElem?_append_right (by rw [List.length_replicate]; omega), List.length_replicate, List.length_replicate, List.getElem?_replicate, List.getElem?_replicate]
      by_cases h2 : i < n
      · rw [if_pos (by omega), if_pos (by omega)]
      · rw [if_neg (by omega), if_neg (by omega)]
end Go.Proofs.Ytolpjgpimholcaa.Arena
