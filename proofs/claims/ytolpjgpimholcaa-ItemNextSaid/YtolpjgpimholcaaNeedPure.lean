/- Classes of chunks and what an item needs, as plain functions on lists of numbers. No program in sight. -/
import Derived.RowKit
namespace Go.Proofs.Ytolpjgpimholcaa.NeedPure
open Go Go.RowKit
set_option linter.unusedVariables false

/-- the first one of a list, from place i on, that is at least n -/
def first (n : Int) : List Int → Nat → Option Nat
  | [], _ => none
  | x :: xs, i => if x ≥ n then some i else first n xs (i + 1)
/-- the class of so many bytes: its number, or the error -/
def forC (l : List Int) (n : Int) : Int × Int :=
  if n < 0 then (0, 1) else match first n l 0 with | some i => ((i : Int), 0) | none => (0, 7)
theorem first_none (n : Int) (l : List Int) : ∀ i, (∀ j, j < l.length → l.getD j 0 < n) → first n l i = none := by
  induction l with
  | nil => intro i h; rfl
  | cons x xs ih =>
    intro i h
    have h0 := h 0 (by simp)
    simp at h0
    unfold first
    rw [if_neg (by omega)]
    refine ih _ fun j hj => ?_
    have := h (j + 1) (by simp; omega)
    simpa using this
theorem first_some (n : Int) (l : List Int) : ∀ (i k : Nat), k < l.length → (∀ j, j < k → l.getD j 0 < n) → l.getD k 0 ≥ n → first n l i = some (i + k) := by
  induction l with
  | nil => intro i k hk; simp at hk
  | cons x xs ih =>
    intro i k hk h hx
    unfold first
    cases k with
    | zero => simp at hx; rw [if_pos hx]; rfl
    | succ k =>
      have h0 := h 0 (by omega)
      simp at h0
      rw [if_neg (by omega), ih (i + 1) k (by simp at hk; omega) (fun j hj => ?_) (by simpa using hx)]
      · congr 1; omega
      · have := h (j + 1) (by omega)
        simpa using this
theorem forC_none (l : List Int) (n : Int) (h0 : 0 ≤ n) (h : ∀ j, j < l.length → l.getD j 0 < n) : forC l n = (0, 7) := by
  unfold forC
  rw [if_neg (by omega), first_none n l 0 h]
theorem forC_some (l : List Int) (n : Int) (h0 : 0 ≤ n) (k : Nat) (hk : k < l.length) (h : ∀ j, j < k → l.getD j 0 < n) (hx : l.getD k 0 ≥ n) : forC l n = ((k : Int), 0) := by
  unfold forC
  rw [if_neg (by omega), first_some n l 0 k hk h hx]
  simp
theorem forC_far (l : List Int) (n : Int) (h : n < 0) : forC l n = (0, 1) := by
  unfold forC; rw [if_pos h]
/-- what the answer says of the list -/
theorem forC_cases (l : List Int) (n : Int) (h0 : 0 ≤ n) : ((forC l n).2 = 0 ∧ ∃ k : Nat, k < l.length ∧ (forC l n).1 = (k : Int) ∧ l.getD k 0 ≥ n) ∨ (forC l n = (0, 7) ∧ ∀ j, j < l.length → l.getD j 0 < n) := by
  by_cases h : ∀ j, j < l.length → l.getD j 0 < n
  · exact .inr ⟨forC_none l n h0 h, h⟩
  · left
    have key : ∀ m, (∃ j, j < m ∧ j < l.length ∧ ¬ l.getD j 0 < n) → ∃ k, k < l.length ∧ (∀ j, j < k → l.getD j 0 < n) ∧ l.getD k 0 ≥ n := by
      intro m
      induction m with
      | zero => rintro ⟨j, hj, _⟩; omega
      | succ m ih =>
        rintro ⟨j, hj, hl, hn⟩
        by_cases hb : ∃ i, i < m ∧ i < l.length ∧ ¬ l.getD i 0 < n
        · exact ih hb
        · refine ⟨j, hl, fun i hi => ?_, by omega⟩
          by_cases hx : l.getD i 0 < n
          · exact hx
          · exact absurd ⟨i, by omega, by omega, hx⟩ hb
    have hex : ∃ j, j < l.length ∧ j < l.length ∧ ¬ l.getD j 0 < n := by
      refine Classical.byContradiction fun hne => h fun j hj => ?_
      by_cases hx : l.getD j 0 < n
      · exact hx
      · exact absurd ⟨j, hj, hj, hx⟩ hne
    obtain ⟨k, hk, ha, hb⟩ := key l.length hex
    rw [forC_some l n h0 k hk ha hb]
    exact ⟨rfl, k, hk, rfl, hb⟩

/-- the last one of a list; nought where there is none -/
def last (l : List Int) : Int := l.getD (l.length - 1) 0
/-- which class an item's first chunk is of, how many more it takes, and the error -/
def needC (l : List Int) (key value : Int) : Int × Int × Int :=
  if key < 1 ∨ key > 32 ∨ value < 0 ∨ value > 2000 then (0, 0, 1)
  else if l = [] ∨ last l < 256 then (0, 0, 6)
  else if (forC l (40 + key + value)).2 = 0 then ((forC l (40 + key + value)).1, 0, 0)
  else ((l.length : Int) - 1, (40 + key + value - last l + (last l - 4) - 1) / (last l - 4), 0)

end Go.Proofs.Ytolpjgpimholcaa.NeedPure
