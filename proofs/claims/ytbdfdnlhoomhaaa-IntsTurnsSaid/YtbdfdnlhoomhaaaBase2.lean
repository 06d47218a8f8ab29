/- Chapter 01, plain facts on numbers: shifting twice; a number of 32 bits, turned. No program in sight. -/
import Derived.Test.YtbdfdnlhoomhaaaBase
namespace Go.Proofs.Ytbdfdnlhoomhaaa.Base
open Go Go.RowKit
set_option linter.unusedVariables false

/-- to the left, in sixty-four bits -/
def lft (v : Int) (a : Nat) : Int := v * 2 ^ a % 18446744073709551616
/-- to the right -/
def rgt (v : Int) (a : Nat) : Int := v / 2 ^ a
theorem two_pos (a : Nat) : (0 : Int) < 2 ^ a := Int.pow_pos (by decide)
theorem lft_lft (v : Int) (a b : Nat) : lft (lft v a) b = lft v (a + b) := by
  unfold lft
  rw [Int.pow_add, ← Int.mul_assoc, Int.mul_emod, Int.emod_emod, ← Int.mul_emod]
theorem rgt_rgt (v : Int) (a b : Nat) : rgt (rgt v a) b = rgt v (a + b) := by
  unfold rgt
  rw [Int.pow_add, Int.ediv_ediv_of_nonneg (Int.le_of_lt (two_pos a))]
theorem pow64 : (2 : Int) ^ 64 = 18446744073709551616 := by decide +kernel
theorem lft_all (v : Int) (a : Nat) (h : 64 ≤ a) : lft v a = 0 := by
  unfold lft
  obtain ⟨c, rfl⟩ : ∃ c, a = c + 64 := ⟨a - 64, by omega⟩
  rw [Int.pow_add, pow64, ← Int.mul_assoc]
  exact Int.mul_emod_left _ _
theorem rgt_all (v : Int) (v0 : 0 ≤ v) (v1 : v < 18446744073709551616) (a : Nat) (h : 64 ≤ a) : rgt v a = 0 := by
  obtain ⟨c, rfl⟩ : ∃ c, a = 64 + c := ⟨a - 64, by omega⟩
  rw [← rgt_rgt]
  have : rgt v 64 = 0 := by unfold rgt; rw [pow64]; exact Int.ediv_eq_zero_of_lt v0 v1
  rw [this]
  unfold rgt; exact Int.zero_ediv _
theorem lft_range (v : Int) (a : Nat) : 0 ≤ lft v a ∧ lft v a < 18446744073709551616 := by unfold lft; omega
theorem rgt_range (v : Int) (v0 : 0 ≤ v) (v1 : v < 18446744073709551616) (a : Nat) : 0 ≤ rgt v a ∧ rgt v a < 18446744073709551616 := by
  unfold rgt
  have h0 := Int.ediv_nonneg v0 (Int.le_of_lt (two_pos a))
  have h1 := Int.ediv_le_self (2 ^ a) v0
  omega
theorem lft_zero (v : Int) (v0 : 0 ≤ v) (v1 : v < 18446744073709551616) : lft v 0 = v := by
  unfold lft
  have : (2 : Int) ^ 0 = 1 := by decide
  rw [this]; omega
theorem rgt_zero (v : Int) : rgt v 0 = v := by
  unfold rgt
  have : (2 : Int) ^ 0 = 1 := by decide
  rw [this]; omega

/-- a number of 32 bits, turned to the left -/
def rot (v : Int) (k : Nat) : Int := v * 2 ^ k % 4294967296 + v / 2 ^ (32 - k)
/-- powers that make thirty-two -/
theorem pow32 (k : Nat) (hk : k < 32) : ∃ P Q : Int, (2 : Int) ^ k = P ∧ (2 : Int) ^ (32 - k) = Q ∧ P * Q = 4294967296 ∧ 1 ≤ P ∧ 2 ≤ Q := by
  have key : ∀ m : Fin 32, (2 : Int) ^ m.val * 2 ^ (32 - m.val) = 4294967296 ∧ 1 ≤ (2 : Int) ^ m.val ∧ 2 ≤ (2 : Int) ^ (32 - m.val) := by decide +kernel
  obtain ⟨a, b, c⟩ := key ⟨k, hk⟩
  exact ⟨_, _, rfl, rfl, a, b, c⟩
theorem pos_pow (k : Nat) : ∃ P : Int, (2 : Int) ^ k = P ∧ 0 < P := ⟨_, rfl, two_pos k⟩
/-- the two parts of a turned number -/
theorem rot_parts (v P Q : Int) (v0 : 0 ≤ v) (v1 : v < 4294967296) (e : P * Q = 4294967296) (p : 1 ≤ P) (q : 2 ≤ Q) :
    v * P % 4294967296 = (v % Q) * P ∧ v / Q < P ∧ 0 ≤ v / Q ∧ 0 ≤ v % Q ∧ v % Q < Q ∧ v = Q * (v / Q) + v % Q := by
  have d := Int.mul_ediv_add_emod v Q
  have m0 := Int.emod_nonneg v (show Q ≠ 0 by omega)
  have m1 := Int.emod_lt_of_pos v (show 0 < Q by omega)
  refine ⟨?_, ?_, Int.ediv_nonneg v0 (by omega), m0, m1, d.symm⟩
  · rw [← e, Int.mul_comm P Q]
    exact mul_mod_mul v Q P (by omega)
  · apply Int.ediv_lt_of_lt_mul (by omega)
    rw [e]; exact v1
theorem rot_or (v : Int) (v0 : 0 ≤ v) (v1 : v < 4294967296) (k : Nat) (hk : k < 32) : Go.bits .or .u32 (v * 2 ^ k % 4294967296) (v / 2 ^ (32 - k)) = rot v k := by
  obtain ⟨P, Q, eP, eQ, e, p, q⟩ := pow32 k hk
  unfold rot
  have := rot_parts v P Q v0 v1 e p q
  rw [eP, eQ]
  obtain ⟨a, b, c, d, f, g⟩ := this
  refine bits_join .u32 32 (by decide) u32_wraps k _ _ (by omega) ?_ (by omega) c ?_ ?_
  · rw [a, eP]; exact Int.mul_emod_left _ _
  · rw [eP]; exact b
  · have : P ≤ 4294967296 := by
      rw [← e]
      have := Int.mul_le_mul_of_nonneg_left (show (1 : Int) ≤ Q by omega) (show 0 ≤ P by omega)
      omega
    omega
theorem rot_range (v : Int) (v0 : 0 ≤ v) (v1 : v < 4294967296) (k : Nat) (hk : k < 32) : 0 ≤ rot v k ∧ rot v k < 4294967296 := by
  obtain ⟨P, Q, eP, eQ, e, p, q⟩ := pow32 k hk
  unfold rot
  rw [eP, eQ]
  obtain ⟨a, b, c, d, f, g⟩ := rot_parts v P Q v0 v1 e p q
  rw [a]
  have h1 : (v % Q) * P ≤ (Q - 1) * P := Int.mul_le_mul_of_nonneg_right (by omega) (by omega)
  have h2 : (Q - 1) * P = 4294967296 - P := by rw [Int.sub_mul, Int.mul_comm Q P, e]; omega
  have h3 : 0 ≤ (v % Q) * P := Int.mul_nonneg d (by omega)
  omega
/-- turned, a number is times a power, by 2^32 - 1 -/
theorem rot_mod (v : Int) (v0 : 0 ≤ v) (v1 : v < 4294967296) (k : Nat) (hk : k < 32) : ∃ c : Int, v * 2 ^ k = rot v k + c * 4294967295 := by
  obtain ⟨P, Q, eP, eQ, e, p, q⟩ := pow32 k hk
  unfold rot
  rw [eP, eQ]
  obtain ⟨a, b, c, d, f, g⟩ := rot_parts v P Q v0 v1 e p q
  rw [a]
  refine ⟨v / Q, ?_⟩
  have h : v * P = (v / Q) * 4294967296 + (v % Q) * P := by
    have h1 : (Q * (v / Q) + v % Q) * P = (v / Q) * (P * Q) + (v % Q) * P := by
      rw [Int.add_mul, Int.mul_comm Q (v / Q), Int.mul_assoc, Int.mul_comm Q P]
    rw [e, ← g] at h1
    exact h1
  omega
theorem rot_none (v : Int) (v0 : 0 ≤ v) (v1 : v < 4294967296) (k : Nat) (hk : k < 32) (h : rot v k = 0) : v = 0 := by
  obtain ⟨P, Q, eP, eQ, e, p, q⟩ := pow32 k hk
  unfold rot at h
  rw [eP, eQ] at h
  obtain ⟨a, b, c, d, f, g⟩ := rot_parts v P Q v0 v1 e p q
  rw [a] at h
  have h3 : 0 ≤ (v % Q) * P := Int.mul_nonneg d (by omega)
  have h4 : v / Q = 0 := by omega
  have h5 : (v % Q) * P = 0 := by omega
  rcases Int.mul_eq_zero.1 h5 with h6 | h6
  · rw [h4, h6] at g; omega
  · omega
theorem rot_full (v : Int) (v0 : 0 ≤ v) (v1 : v < 4294967296) (k : Nat) (hk : k < 32) (h : rot v k = 4294967295) : v = 4294967295 := by
  obtain ⟨P, Q, eP, eQ, e, p, q⟩ := pow32 k hk
  unfold rot at h
  rw [eP, eQ] at h
  obtain ⟨a, b, c, d, f, g⟩ := rot_parts v P Q v0 v1 e p q
  rw [a] at h
  have h1 : (v % Q) * P ≤ (Q - 1) * P := Int.mul_le_mul_of_nonneg_right (by omega) (by omega)
  have h2 : (Q - 1) * P = 4294967296 - P := by rw [Int.sub_mul, Int.mul_comm Q P, e]; omega
  have h3 : v / Q = P - 1 := by omega
  have h4 : (v % Q) * P = (Q - 1) * P := by omega
  have h5 : v % Q = Q - 1 := Int.eq_of_mul_eq_mul_right (show P ≠ 0 by omega) h4
  rw [h3, h5, Int.mul_sub, Int.mul_comm Q P, e] at g
  omega
theorem rot_zero_in (k : Nat) (hk : k < 32) : rot 0 k = 0 := by
  unfold rot
  rw [Int.zero_mul, Int.zero_ediv]; rfl
theorem rot_full_in (k : Nat) (hk : k < 32) : rot 4294967295 k = 4294967295 := by
  have key : ∀ m : Fin 32, rot 4294967295 m.val = 4294967295 := by decide +kernel
  exact key ⟨k, hk⟩
theorem pow_mod (k : Nat) : ∃ c : Int, (2 : Int) ^ k = 2 ^ (k % 32) + c * 4294967295 := by
  induction k using Nat.strongRecOn with
  | ind k ih =>
    by_cases h : k < 32
    · exact ⟨0, by rw [Nat.mod_eq_of_lt h]; omega⟩
    · obtain ⟨c, e⟩ := ih (k - 32) (by omega)
      have e2 : (k - 32) % 32 = k % 32 := by omega
      rw [e2] at e
      have e3 : (2 : Int) ^ k = 2 ^ (k - 32) * 4294967296 := by
        have : k = (k - 32) + 32 := by omega
        rw [this, Int.pow_add]
        have : k - 32 + 32 - 32 = k - 32 := by omega
        rw [this]; rfl
      refine ⟨2 ^ (k - 32) + c, ?_⟩
      rw [e3, Int.add_mul]
      omega
theorem rot_two (v : Int) (v0 : 0 ≤ v) (v1 : v < 4294967296) (a b : Nat) (ha : a < 32) (hb : b < 32) : rot (rot v a) b = rot v ((a + b) % 32) := by
  have hc : (a + b) % 32 < 32 := Nat.mod_lt _ (by decide)
  obtain ⟨r0, r1⟩ := rot_range v v0 v1 a ha
  obtain ⟨s0, s1⟩ := rot_range (rot v a) r0 r1 b hb
  obtain ⟨t0, t1⟩ := rot_range v v0 v1 ((a + b) % 32) hc
  by_cases z : v = 0
  · subst z; rw [rot_zero_in a ha, rot_zero_in b hb, rot_zero_in _ hc]
  · by_cases y : v = 4294967295
    · subst y; rw [rot_full_in a ha, rot_full_in b hb, rot_full_in _ hc]
    · have n1 : rot v ((a + b) % 32) ≠ 0 := fun h => z (rot_none v v0 v1 _ hc h)
      have n2 : rot v ((a + b) % 32) ≠ 4294967295 := fun h => y (rot_full v v0 v1 _ hc h)
      have n3 : rot (rot v a) b ≠ 0 := fun h => z (rot_none v v0 v1 _ ha (rot_none _ r0 r1 _ hb h))
      have n4 : rot (rot v a) b ≠ 4294967295 := fun h => y (rot_full v v0 v1 _ ha (rot_full _ r0 r1 _ hb h))
      obtain ⟨c1, e1⟩ := rot_mod v v0 v1 a ha
      obtain ⟨c2, e2⟩ := rot_mod (rot v a) r0 r1 b hb
      obtain ⟨c3, e3⟩ := rot_mod v v0 v1 ((a + b) % 32) hc
      obtain ⟨c4, e4⟩ := pow_mod (a + b)
      have e5 : v * 2 ^ (a + b) = rot (rot v a) b + (c2 + c1 * 2 ^ b) * 4294967295 := by
        rw [Int.pow_add, ← Int.mul_assoc, e1, Int.add_mul, e2, Int.add_mul, Int.mul_assoc c1, Int.mul_comm 4294967295, ← Int.mul_assoc]
        omega
      have e6 : v * 2 ^ (a + b) = rot v ((a + b) % 32) + (c3 + v * c4) * 4294967295 := by
        rw [e4, Int.mul_add, e3, Int.add_mul, Int.mul_assoc v]
        omega
      generalize c2 + c1 * 2 ^ b = x at e5
      generalize c3 + v * c4 = x' at e6
      omega

end Go.Proofs.Ytbdfdnlhoomhaaa.Base
