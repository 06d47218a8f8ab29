/- Proved: turned by one number, and then by another one, is turned by both; by none, and by thirty-two, is as it was. For all numbers of 32 bits. -/
import Derived.Test.YtbdfdnlhoomhaaaPIntsTogetherx1
import Derived.Test.YtbdfdnlhoomhaaaBase2
namespace Go.Proofs.Ytbdfdnlhoomhaaa.Pure
open Go.RowKit Go.Proofs.Ytbdfdnlhoomhaaa.PIntsTogether Go.Proofs.YtbdfdnlhoomhaaaW.PrintWords Go.Proofs.YtbdfdnlhoomhaaaW.PrintLast Go.Proofs.YtbdfdnlhoomhaaaW.PrintMore Go.Proofs.Ytbdfdnlhoomhaaa.Base
set_option linter.unusedVariables false
theorem w64 (x : Int) (h : -9223372036854775808 ≤ x ∧ x < 9223372036854775808) : wrap64 x = x := by unfold wrap64; omega
theorem shl_u64 (v m : Int) (h0 : 0 ≤ m) (h1 : m ≤ 64) : shl .u64 v m = v * 2 ^ m.toNat % 18446744073709551616 := by
  unfold shl
  rw [u64_wrap, Nat.min_eq_left (by simp only [IntKind.bits]; omega)]
theorem shr_at (k : IntKind) (v m : Int) (h0 : 0 ≤ m) (h1 : m ≤ k.bits) : shr k v m = v / 2 ^ m.toNat := by
  unfold shr
  rw [Nat.min_eq_left (by omega)]
theorem size_f (n : Int) : ints_size.f n = some (decide (1 ≤ n ∧ n ≤ 64)) := by
  unfold ints_size.f
  by_cases h : n ≥ 1
  · rw [if_pos h]
    by_cases h2 : n ≤ 64
    · rw [decide_eq_true h2, decide_eq_true (show 1 ≤ n ∧ n ≤ 64 from ⟨h, h2⟩)]
    · rw [decide_eq_false h2, decide_eq_false (show ¬ (1 ≤ n ∧ n ≤ 64) by omega)]
  · rw [if_neg h, decide_eq_false (show ¬ (1 ≤ n ∧ n ≤ 64) by omega)]
theorem wrap_f (v n : Int) (h1 : 1 ≤ n) (h2 : n ≤ 64) : ints_Wrap.f v n = some (wr v n, 0) := by
  unfold ints_Wrap.f
  rw [size_f, decide_eq_true ⟨h1, h2⟩]
  simp only [Option.bind_some, if_true]
  rw [w64 (64 - n) (by omega), if_pos (by omega), shr_at _ _ _ (by omega) (by simp only [IntKind.bits]; omega), shl_u64 _ _ (by omega) (by omega), wr_div v n h1 h2]
theorem wrap_no (v n : Int) (h : ¬ (1 ≤ n ∧ n ≤ 64)) : ints_Wrap.f v n = some (0, 1) := by
  unfold ints_Wrap.f
  rw [size_f, decide_eq_false h]; rfl
theorem sign_f (v n : Int) (h1 : 1 ≤ n) (h2 : n ≤ 64) : ints_Sign.f v n = some (sg v n, 0) := by
  unfold ints_Sign.f
  rw [size_f, decide_eq_true ⟨h1, h2⟩]
  simp only [Option.bind_some, if_true]
  rw [w64 (64 - n) (by omega), if_pos (by omega), shr_at _ _ _ (by omega) (by simp only [IntKind.bits]; omega), shl_u64 _ _ (by omega) (by omega), sg_div v n h1 h2]
theorem sign_no (v n : Int) (h : ¬ (1 ≤ n ∧ n ≤ 64)) : ints_Sign.f v n = some (0, 1) := by
  unfold ints_Sign.f
  rw [size_f, decide_eq_false h]; rfl
/-- does a number with a sign fit so many bits? -/
def fits (x n : Int) : Prop := -(2 ^ (n.toNat - 1)) ≤ x ∧ x < 2 ^ (n.toNat - 1)
theorem bits_f (x n : Int) (h1 : 1 ≤ n) (h2 : n ≤ 64) (hx : fits x n) : ints_Bits.f x n = some (wr x n, 0) := by
  unfold ints_Bits.f
  rw [sign_f _ n h1 h2, wrap_f _ n h1 h2, u64_wrap, sg_u64 x n h1 h2, wr_u64 x n h1 h2, sg_in x n h1 h2 hx]
  simp
theorem bits_far (x n : Int) (h1 : 1 ≤ n) (h2 : n ≤ 64) (hx : ¬ fits x n) : ints_Bits.f x n = some (0, 6) := by
  unfold ints_Bits.f
  rw [sign_f _ n h1 h2, u64_wrap, sg_u64 x n h1 h2]
  have : ¬ sg x n = x := fun h => hx (by have := sg_range x n h1 h2; unfold fits; rw [h] at this; exact this)
  simp only [Option.bind_some, if_true]
  rw [if_neg this]
theorem bits_no (x n : Int) (h : ¬ (1 ≤ n ∧ n ≤ 64)) : ints_Bits.f x n = some (0, 1) := by
  unfold ints_Bits.f
  rw [sign_no _ n h]; rfl
/-- a number's remainder by sixty-four, and one -/
theorem mod64 (a : Int) : ∃ r : Int, 0 ≤ r ∧ r < 64 ∧ wrap64 (Int.tmod (IntKind.u64.wrap a) 64) = r := by
  rw [u64_wrap]
  have h := Int.emod_nonneg a (show (18446744073709551616 : Int) ≠ 0 by decide)
  generalize a % 18446744073709551616 = x at h
  rw [Int.tmod_eq_emod_of_nonneg h]
  refine ⟨x % 64, by omega, by omega, ?_⟩
  rw [w64 _ (by omega)]
theorem one_mod64 (a : Int) : ∃ n : Int, 1 ≤ n ∧ n ≤ 64 ∧ wrap64 (1 + wrap64 (Int.tmod (IntKind.u64.wrap a) 64)) = n := by
  obtain ⟨r, r0, r1, e⟩ := mod64 a
  exact ⟨1 + r, by omega, by omega, by rw [e, w64 _ (by omega)]⟩
theorem by_mod (m : Int) : Int.tmod (IntKind.u64.wrap m) 32 = m % 32 := by
  rw [u64_wrap]
  have h := Int.emod_nonneg m (show (18446744073709551616 : Int) ≠ 0 by decide)
  rw [Int.tmod_eq_emod_of_nonneg h]
  omega
theorem rotate_f (v m : Int) (v0 : 0 ≤ v) (v1 : v < 4294967296) : ints_Rotate.f v m = some (rot v (m % 32).toNat) := by
  unfold ints_Rotate.f
  rw [by_mod]
  have a := Int.emod_nonneg m (show (32 : Int) ≠ 0 by decide)
  have b := Int.emod_lt_of_pos m (show (0 : Int) < 32 by decide)
  generalize m % 32 = r at a b
  have e : IntKind.u64.wrap (32 - r) = 32 - r := by rw [u64_wrap]; omega
  have t : (32 - r).toNat = 32 - r.toNat := by omega
  rw [e, if_pos a, if_pos (by omega), shr_at _ _ _ (by omega) (by simp only [IntKind.bits]; omega), t]
  have s : shl .u32 v r = v * 2 ^ r.toNat % 4294967296 := by
    unfold shl
    rw [IntKind.wrap_u32, Nat.min_eq_left (by simp only [IntKind.bits]; omega)]
  rw [s, rot_or v v0 v1 r.toNat (by omega)]
theorem works_f (k : Nat) (hk : 10 < k) : tallboylaw01_works.f k = some true := by
  obtain ⟨k, rfl⟩ : ∃ m, k = m + 1 := ⟨k - 1, by omega⟩
  have a1 : ints_Wrap.f 300 8 = some (44, 0) := by decide +kernel
  have a2 : ints_Sign.f 200 8 = some (-56, 0) := by decide +kernel
  have a3 : ints_Bits.f (-56) 8 = some (200, 0) := by decide +kernel
  have a4 : ints_Bits.f 128 8 = some (0, 6) := by decide +kernel
  have a5 : ints_Narrow.f (-1) = some (-1, 255, -1, 65535, -1, 4294967295) := by decide +kernel
  have a6 : ints_Rotate.f 1 (-1) = some 2147483648 := by decide +kernel
  have a7 : ints_Shift.j0 k 5 2 (decide ((2 : Int) ≤ -64)) = ints_Shift.j0 k 5 2 false := by rfl
  have a8 : ints_Shift.f (k + 1) 5 2 = some 20 := by
    unfold ints_Shift.f
    rw [if_neg (by decide), decide_eq_false (by decide)]
    simp only [ints_Shift.j0]; decide +kernel
  have a9 : ints_Shift.f (k + 1) 5 (-1) = some 2 := by
    unfold ints_Shift.f
    rw [if_neg (by decide), decide_eq_false (by decide)]
    simp only [ints_Shift.j0]; decide +kernel
  unfold tallboylaw01_works.f
  rw [a1, a2, a3, a4, a5, a6, a8, a9]; rfl
theorem rot_zero (v : Int) (v0 : 0 ≤ v) (v1 : v < 4294967296) : rot v 0 = v := by
  unfold rot
  have e : (2 : Int) ^ 0 = 1 := by decide
  have e' : (2 : Int) ^ (32 - 0) = 4294967296 := by decide +kernel
  rw [e, e']; omega
theorem IntsTogether : tallboylaw01_IntsTogether.Pure := by
  intro v a b hv ha hb
  obtain ⟨v0, v1⟩ := bounds_u32 hv
  refine ⟨20, ?_⟩
  unfold tallboylaw01_IntsTogether.f
  rw [works_f _ (by decide)]
  simp only [Option.bind_some, if_true]
  have a1 : -1000 < Int.tmod a 1000 ∧ Int.tmod a 1000 < 1000 := by
    have := Int.tmod_lt_of_pos a (show (0 : Int) < 1000 by decide)
    have := Int.lt_tmod_of_pos a (show (0 : Int) < 1000 by decide)
    omega
  have b1 : -1000 < Int.tmod b 1000 ∧ Int.tmod b 1000 < 1000 := by
    have := Int.tmod_lt_of_pos b (show (0 : Int) < 1000 by decide)
    have := Int.lt_tmod_of_pos b (show (0 : Int) < 1000 by decide)
    omega
  generalize Int.tmod a 1000 = x at a1
  generalize Int.tmod b 1000 = y at b1
  have rx : (x % 32).toNat < 32 := by omega
  have ry : (y % 32).toNat < 32 := by omega
  obtain ⟨r0, r1⟩ := rot_range v v0 (by omega) _ rx
  rw [rotate_f v x v0 (by omega)]
  simp only [Option.bind_some]
  rw [rotate_f _ y r0 r1, w64 (x + y) (by omega), rotate_f v (x + y) v0 (by omega), rot_two v v0 (by omega) _ _ rx ry]
  simp only [Option.bind_some]
  have e : ((x % 32).toNat + (y % 32).toNat) % 32 = ((x + y) % 32).toNat := by omega
  rw [e, if_pos rfl, rotate_f v 0 v0 (by omega)]
  simp only [Option.bind_some]
  have e0 : ((0 : Int) % 32).toNat = 0 := by decide
  have e32 : ((32 : Int) % 32).toNat = 0 := by decide
  rw [e0, rot_zero v v0 (by omega), if_pos rfl, rotate_f v 32 v0 (by omega)]
  simp only [Option.bind_some]
  rw [e32, rot_zero v v0 (by omega), if_pos rfl, w64 (-x) (by omega), rotate_f _ (-x) r0 r1, rot_two v v0 (by omega) _ _ rx (by omega)]
  simp only [Option.bind_some]
  have e' : ((x % 32).toNat + ((-x) % 32).toNat) % 32 = 0 := by omega
  rw [e', rot_zero v v0 (by omega)]
  simp

end Go.Proofs.Ytbdfdnlhoomhaaa.Pure
