/- What is laid into bytes and read in other widths, as plain facts on lists of numbers. No program in sight. -/
import Derived.Test.YtolpjgpimholcaaCodecPure
namespace Go.Proofs.Ytolpjgpimholcaa.CodecPure
open Go Go.RowKit
set_option linter.unusedVariables false
set_option maxRecDepth 100000

theorem leb_take (n : Nat) : ∀ (v : Int) (k : Nat), k ≤ n → (leb v n).take k = leb v k := by
  induction n with
  | zero =>
    intro v k h
    obtain rfl : k = 0 := by omega
    rfl
  | succ n ih =>
    intro v k h
    cases k with
    | zero => rfl
    | succ k => simp only [leb, List.take_succ_cons]; rw [ih _ k (by omega)]
theorem leb_drop (n : Nat) : ∀ (v : Int) (k : Nat), k ≤ n → (leb v n).drop k = leb (v / 2 ^ (8 * k)) (n - k) := by
  induction n with
  | zero =>
    intro v k h
    obtain rfl : k = 0 := by omega
    rfl
  | succ n ih =>
    intro v k h
    cases k with
    | zero =>
      simp only [List.drop_zero, Nat.mul_zero, Nat.sub_zero]
      have e : (2 : Int) ^ 0 = 1 := by decide
      rw [e, Int.ediv_one]
    | succ k =>
      simp only [leb, List.drop_succ_cons]
      rw [ih _ k (by omega), p256, Int.ediv_ediv_of_nonneg (by decide)]
      congr 1; omega
theorem getC_leb (v : Int) (n i w : Nat) (hw : (w : Int) = 1 ∨ (w : Int) = 2 ∨ (w : Int) = 4 ∨ (w : Int) = 8) (h : i + w ≤ n) : getC (leb v n) (i : Int) (w : Int) = (v / 2 ^ (8 * i) % 2 ^ (8 * w), 0) := by
  unfold getC
  rw [if_pos ⟨hw, by omega, by rw [leb_length]; omega⟩]
  have e1 : ((i : Int)).toNat = i := by omega
  have e2 : ((w : Int)).toNat = w := by omega
  rw [e1, e2, leb_drop n v i (by omega), leb_take _ _ _ (by omega), le_leb]
theorem splice_all {α : Type} (l bs : List α) (h : bs.length = l.length) : splice l 0 bs = bs := by
  unfold splice
  rw [List.take_zero, List.nil_append, Nat.zero_add, h, List.drop_length, List.append_nil]
theorem putC_all (l : List Int) (w : Nat) (v : Int) (hw : (w : Int) = 1 ∨ (w : Int) = 2 ∨ (w : Int) = 4 ∨ (w : Int) = 8) (hl : l.length = w) (hv : ¬ ((w : Int) < 8 ∧ v / 2 ^ (8 * w) ≠ 0)) : putC l 0 (w : Int) v = (leb v w, 0) := by
  unfold putC
  have e2 : ((w : Int)).toNat = w := by omega
  rw [if_pos ⟨hw, by omega, by omega⟩, e2, if_neg hv]
  have : splice l (0 : Int).toNat (leb v w) = leb v w := splice_all l _ (by rw [leb_length, hl])
  rw [this]

end Go.Proofs.Ytolpjgpimholcaa.CodecPure
