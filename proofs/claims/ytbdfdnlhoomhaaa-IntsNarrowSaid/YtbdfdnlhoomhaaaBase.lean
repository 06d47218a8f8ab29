/- Chapter 01, plain facts on numbers: powers of two, lowest bits, signs, turned numbers. No program in sight. -/
import Derived.Laws.BitsLemmas
import Derived.OpenShut
import Derived.RowKit
namespace Go.Proofs.Ytbdfdnlhoomhaaa.Base
open Go Go.RowKit
set_option linter.unusedVariables false

theorem u64_wrap (n : Int) : IntKind.u64.wrap n = n % 18446744073709551616 := by simp [IntKind.wrap, IntKind.bits, IntKind.signed]
theorem u32_wraps (n : Int) (h0 : 0 ≤ n) (h1 : n < 2 ^ 32) : IntKind.u32.wrap n = n := by rw [IntKind.wrap_u32]; omega
theorem i8_wrap (n : Int) : IntKind.i8.wrap n = (n + 128) % 256 - 128 := by
  simp only [IntKind.wrap, IntKind.bits, IntKind.signed]
  simp
  split <;> omega
theorem i16_wrap (n : Int) : IntKind.i16.wrap n = (n + 32768) % 65536 - 32768 := by
  simp only [IntKind.wrap, IntKind.bits, IntKind.signed]
  simp
  split <;> omega
theorem u16_wrap (n : Int) : IntKind.u16.wrap n = n % 65536 := by simp [IntKind.wrap, IntKind.bits, IntKind.signed]

/-- powers of two that belong together -/
theorem pows (n : Int) (h1 : 1 ≤ n) (h2 : n ≤ 64) : ∃ H Q : Int, (2 : Int) ^ (n.toNat - 1) = H ∧ (2 : Int) ^ n.toNat = 2 * H ∧ (2 : Int) ^ (64 - n).toNat = Q ∧ H * Q = 9223372036854775808 ∧ 1 ≤ H ∧ H ≤ 9223372036854775808 ∧ 1 ≤ Q ∧ (n < 64 → H ≤ 4611686018427387904) := by
  have key : ∀ m : Fin 65, 1 ≤ m.val → ((2 : Int) ^ m.val = 2 * 2 ^ (m.val - 1) ∧ (2 : Int) ^ (m.val - 1) * 2 ^ (64 - m.val) = 9223372036854775808 ∧ 1 ≤ (2 : Int) ^ (m.val - 1) ∧ (2 : Int) ^ (m.val - 1) ≤ 9223372036854775808 ∧ 1 ≤ (2 : Int) ^ (64 - m.val) ∧ (m.val < 64 → (2 : Int) ^ (m.val - 1) ≤ 4611686018427387904)) := by decide +kernel
  obtain ⟨m, rfl⟩ := Int.eq_ofNat_of_zero_le (show 0 ≤ n by omega)
  obtain ⟨a, b, c, d, e, f⟩ := key ⟨m, by omega⟩ (by show 1 ≤ m; omega)
  have t : ((m : Int)).toNat = m := by omega
  have t' : (64 - (m : Int)).toNat = 64 - m := by omega
  refine ⟨2 ^ (m - 1), 2 ^ (64 - m), by rw [t], by rw [t]; exact a, by rw [t'], b, c, d, e, fun h => f (by show m < 64; omega)⟩

/-- a number's lowest bits -/
def wr (v n : Int) : Int := v % 2 ^ n.toNat
/-- a number of so many bits with its sign -/
def sg (v n : Int) : Int := if v % 2 ^ n.toNat < 2 ^ (n.toNat - 1) then v % 2 ^ n.toNat else v % 2 ^ n.toNat - 2 ^ n.toNat

theorem mul_mod_mul (v P Q : Int) (hQ : 0 < Q) : (v * Q) % (P * Q) = (v % P) * Q := by
  rw [Int.mul_comm v Q, Int.mul_comm P Q, Int.mul_emod_mul_of_pos _ _ hQ, Int.mul_comm]
theorem wr_shift (v n : Int) (h1 : 1 ≤ n) (h2 : n ≤ 64) : v * 2 ^ (64 - n).toNat % 18446744073709551616 = wr v n * 2 ^ (64 - n).toNat := by
  obtain ⟨H, Q, eH, eP, eQ, e, a, b, c, d⟩ := pows n h1 h2
  unfold wr
  rw [eQ, eP]
  have : (18446744073709551616 : Int) = 2 * H * Q := by rw [Int.mul_assoc, e]; rfl
  rw [this]
  exact mul_mod_mul v (2 * H) Q (by omega)
theorem wr_range (v n : Int) (h1 : 1 ≤ n) (h2 : n ≤ 64) : 0 ≤ wr v n ∧ wr v n < 18446744073709551616 := by
  obtain ⟨H, Q, eH, eP, eQ, e, a, b, c, d⟩ := pows n h1 h2
  unfold wr
  rw [eP]
  have := Int.emod_nonneg v (show 2 * H ≠ 0 by omega)
  have := Int.emod_lt_of_pos v (show 0 < 2 * H by omega)
  omega
theorem wr_div (v n : Int) (h1 : 1 ≤ n) (h2 : n ≤ 64) : v * 2 ^ (64 - n).toNat % 18446744073709551616 / 2 ^ (64 - n).toNat = wr v n := by
  rw [wr_shift v n h1 h2]
  obtain ⟨H, Q, eH, eP, eQ, e, a, b, c, d⟩ := pows n h1 h2
  rw [eQ]
  exact Int.mul_ediv_cancel _ (by omega)
theorem sg_div (v n : Int) (h1 : 1 ≤ n) (h2 : n ≤ 64) : wrap64 (v * 2 ^ (64 - n).toNat % 18446744073709551616) / 2 ^ (64 - n).toNat = sg v n := by
  rw [wr_shift v n h1 h2]
  obtain ⟨H, Q, eH, eP, eQ, e, a, b, c, d⟩ := pows n h1 h2
  unfold sg wr
  rw [eQ, eP, eH]
  have r0 := Int.emod_nonneg v (show 2 * H ≠ 0 by omega)
  have r1 := Int.emod_lt_of_pos v (show 0 < 2 * H by omega)
  generalize v % (2 * H) = w at r0 r1
  have m0 : 0 ≤ w * Q := Int.mul_nonneg r0 (by omega)
  have m1 : w * Q < 2 * (H * Q) := by rw [← Int.mul_assoc]; exact Int.mul_lt_mul_of_pos_right r1 (by omega)
  by_cases hw : w < H
  · have m2 : w * Q < H * Q := Int.mul_lt_mul_of_pos_right hw (by omega)
    rw [if_pos hw]
    have : wrap64 (w * Q) = w * Q := by unfold wrap64; omega
    rw [this]
    exact Int.mul_ediv_cancel _ (by omega)
  · have m2 : H * Q ≤ w * Q := Int.mul_le_mul_of_nonneg_right (by omega) (by omega)
    rw [if_neg hw]
    have : wrap64 (w * Q) = (w - 2 * H) * Q := by
      have e2 : (w - 2 * H) * Q = w * Q - 2 * (H * Q) := by rw [Int.sub_mul, Int.mul_assoc]
      rw [e2]
      unfold wrap64; omega
    rw [this]
    exact Int.mul_ediv_cancel _ (by omega)
theorem sg_range (v n : Int) (h1 : 1 ≤ n) (h2 : n ≤ 64) : -(2 ^ (n.toNat - 1)) ≤ sg v n ∧ sg v n < 2 ^ (n.toNat - 1) := by
  obtain ⟨H, Q, eH, eP, eQ, e, a, b, c, d⟩ := pows n h1 h2
  unfold sg
  rw [eP, eH]
  have r0 := Int.emod_nonneg v (show 2 * H ≠ 0 by omega)
  have r1 := Int.emod_lt_of_pos v (show 0 < 2 * H by omega)
  generalize v % (2 * H) = w at r0 r1
  split <;> omega
theorem sg_i64 (v n : Int) (h1 : 1 ≤ n) (h2 : n ≤ 64) : -9223372036854775808 ≤ sg v n ∧ sg v n < 9223372036854775808 := by
  have := sg_range v n h1 h2
  obtain ⟨H, Q, eH, eP, eQ, e, a, b, c, d⟩ := pows n h1 h2
  rw [eH] at this
  omega
/-- what is within its bits has itself as its number with a sign -/
theorem sg_in (x n : Int) (h1 : 1 ≤ n) (h2 : n ≤ 64) (hx : -(2 ^ (n.toNat - 1)) ≤ x ∧ x < 2 ^ (n.toNat - 1)) : sg x n = x := by
  obtain ⟨H, Q, eH, eP, eQ, e, a, b, c, d⟩ := pows n h1 h2
  unfold sg
  rw [eP, eH]
  rw [eH] at hx
  by_cases h : 0 ≤ x
  · have : x % (2 * H) = x := Int.emod_eq_of_lt h (by omega)
    rw [this, if_pos (by omega)]
  · have : x % (2 * H) = x + 2 * H := by
      rw [← Int.add_emod_right x (2 * H)]
      exact Int.emod_eq_of_lt (by omega) (by omega)
    rw [this, if_neg (by omega)]; omega
theorem pow_dvd (n : Int) (h1 : 1 ≤ n) (h2 : n ≤ 64) : ((2 : Int) ^ n.toNat) ∣ 18446744073709551616 := by
  obtain ⟨H, Q, eH, eP, eQ, e, a, b, c, d⟩ := pows n h1 h2
  rw [eP]
  refine ⟨Q, ?_⟩
  rw [Int.mul_assoc, e]; rfl
theorem sg_mod (v n : Int) : sg v n % 2 ^ n.toNat = v % 2 ^ n.toNat := by
  unfold sg
  split
  · rw [Int.emod_emod]
  · rw [Int.sub_emod_right, Int.emod_emod]
theorem sg_of_mod (v w n : Int) (h : v % 2 ^ n.toNat = w % 2 ^ n.toNat) : sg v n = sg w n := by unfold sg; rw [h]
theorem wr_u64 (x n : Int) (h1 : 1 ≤ n) (h2 : n ≤ 64) : wr (x % 18446744073709551616) n = wr x n := Int.emod_emod_of_dvd x (pow_dvd n h1 h2)
theorem sg_u64 (x n : Int) (h1 : 1 ≤ n) (h2 : n ≤ 64) : sg (x % 18446744073709551616) n = sg x n := sg_of_mod _ _ n (Int.emod_emod_of_dvd x (pow_dvd n h1 h2))

end Go.Proofs.Ytbdfdnlhoomhaaa.Base
