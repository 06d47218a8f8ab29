/- Chapter 04, plain facts on numbers: the lowest bits, the step of the number of a text. No program in sight. -/
import Derived.Laws.BitsLemmas
import Derived.OpenShut
import Derived.RowKit
namespace Go.Proofs.Ytihoefnflbfebaa.Base
open Go Go.RowKit
set_option linter.unusedVariables false

theorem wrap1 {i : Nat} (h : i ≤ 140737488351232) : wrap64 ((i : Int) + 1) = ((i + 1 : Nat) : Int) := by unfold wrap64; omega

theorem i64_wraps (n : Int) (h0 : 0 ≤ n) (h1 : n < 2 ^ 40) : IntKind.i64.wrap n = n := by rw [IntKind.wrap_i64]; omega
theorem u32_wraps (n : Int) (h0 : 0 ≤ n) (h1 : n < 2 ^ 32) : IntKind.u32.wrap n = n := by rw [IntKind.wrap_u32]; omega

theorem and_low (x : Int) (h0 : 0 ≤ x) (h1 : x < 4294967296) (i : Nat) (hi : i ≤ 6) : Go.bits .and .i64 (wrap64 x) (wrap64 ((2 : Int) ^ i - 1)) = x % 2 ^ i := by
  have e1 : wrap64 x = x := by unfold wrap64; omega
  have e2 : wrap64 ((2 : Int) ^ i - 1) = 2 ^ i - 1 := by
    have : i = 0 ∨ i = 1 ∨ i = 2 ∨ i = 3 ∨ i = 4 ∨ i = 5 ∨ i = 6 := by omega
    rcases this with rfl | rfl | rfl | rfl | rfl | rfl | rfl <;> decide +kernel
  rw [e1, e2]
  exact bits_mask .i64 40 (by decide) i64_wraps i (by omega) x h0 (by omega)

theorem stripe_of (x : Int) (h0 : 0 ≤ x) (h1 : x < 4294967296) : wrap64 (Go.bits .and .u32 (x / 65536) 3) = x / 65536 % 4 := by
  have e := bits_mask .u32 32 (by decide) u32_wraps 2 (by decide) (x / 65536) (by omega) (by omega)
  have e3 : ((2 : Int) ^ 2 - 1) = 3 := by decide +kernel
  rw [e3] at e
  rw [e]
  unfold wrap64; omega

/-- which numbers are powers of two, up to sixty-four -/
theorem pow_fin : ∀ m : Fin 65, 1 ≤ m.val → Go.bits .and .i64 (m.val : Int) (wrap64 ((m.val : Int) - 1)) = 0 → (m.val = 1 ∨ m.val = 2 ∨ m.val = 4 ∨ m.val = 8 ∨ m.val = 16 ∨ m.val = 32 ∨ m.val = 64) := by decide +kernel
theorem pow_of (n : Int) (h1 : 1 ≤ n) (h2 : n ≤ 64) (h : Go.bits .and .i64 n (wrap64 (n - 1)) = 0) : n = 1 ∨ n = 2 ∨ n = 4 ∨ n = 8 ∨ n = 16 ∨ n = 32 ∨ n = 64 := by
  obtain ⟨m, rfl⟩ := Int.eq_ofNat_of_zero_le (show 0 ≤ n by omega)
  have := pow_fin ⟨m, by omega⟩ (by show 1 ≤ m; omega) h
  simp only at this
  omega
theorem and_pow (i : Nat) (hi : i ≤ 6) : Go.bits .and .i64 ((2 : Int) ^ i) (wrap64 ((2 : Int) ^ i - 1)) = 0 := by
  have : i = 0 ∨ i = 1 ∨ i = 2 ∨ i = 3 ∨ i = 4 ∨ i = 5 ∨ i = 6 := by omega
  rcases this with rfl | rfl | rfl | rfl | rfl | rfl | rfl <;> decide +kernel

/-- one byte more -/
def stp (x c : Int) : Int := ((Go.bits .xor .u32 x (c % 4294967296)) * 16777619) % 4294967296
theorem stp_range (x c : Int) : 0 ≤ stp x c ∧ stp x c < 4294967296 := by unfold stp; omega

end Go.Proofs.Ytihoefnflbfebaa.Base
