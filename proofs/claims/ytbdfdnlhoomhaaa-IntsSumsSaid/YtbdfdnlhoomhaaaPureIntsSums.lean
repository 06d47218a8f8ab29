/- Proved: sums and products of narrow numbers are those of the numbers, made narrow. For all numbers. -/
import Derived.Test.YtbdfdnlhoomhaaaPIntsSumsx1
import Derived.Test.YtbdfdnlhoomhaaaBase
namespace Go.Proofs.Ytbdfdnlhoomhaaa.Pure
open Go.RowKit Go.Proofs.Ytbdfdnlhoomhaaa.PIntsSums Go.Proofs.YtbdfdnlhoomhaaaW.PrintWords Go.Proofs.YtbdfdnlhoomhaaaW.PrintLast Go.Proofs.YtbdfdnlhoomhaaaW.PrintMore Go.Proofs.Ytbdfdnlhoomhaaa.Base
set_option linter.unusedVariables false
theorem w64 (x : Int) (h : -9223372036854775808 ≤ x ∧ x < 9223372036854775808) : wrap64 x = x := by unfold wrap64; omega
theorem shl_u64 (v m : Int) (h0 : 0 ≤ m) (h1 : m ≤ 64) : shl .u64 v m = v * 2 ^ m.toNat % 18446744073709551616 := by
  unfold shl
  rw [u64_wrap, Nat.min_eq_left (by simp only [IntKind.bits]; omega)]
theorem shr_at (k : IntKind) (v m : Int) (h0 : 0 ≤ m) (h1 : m ≤ k.bits) : shr k v m = v / 2 ^ m.toNat := by
  unfold shr
  rw [Nat.min_eq_left (by omega)]
theorem size_f (n : Int) : ints_size.f n = some (decide (1 ≤ n ∧ n ≤ 64)) := by
  unfold ints_size.f
  by_cases h : n ≥ 1
  · rw [if_pos h]
    by_cases h2 : n ≤ 64
    · rw [decide_eq_true h2, decide_eq_true (show 1 ≤ n ∧ n ≤ 64 from ⟨h, h2⟩)]
    · rw [decide_eq_false h2, decide_eq_false (show ¬ (1 ≤ n ∧ n ≤ 64) by omega)]
  · rw [if_neg h, decide_eq_false (show ¬ (1 ≤ n ∧ n ≤ 64) by omega)]
theorem wrap_f (v n : Int) (h1 : 1 ≤ n) (h2 : n ≤ 64) : ints_Wrap.f v n = some (wr v n, 0) := by
  unfold ints_Wrap.f
  rw [size_f, decide_eq_true ⟨h1, h2⟩]
  simp only [Option.bind_some, if_true]
  rw [w64 (64 - n) (by omega), if_pos (by omega), shr_at _ _ _ (by omega) (by simp only [IntKind.bits]; omega), shl_u64 _ _ (by omega) (by omega), wr_div v n h1 h2]
theorem wrap_no (v n : Int) (h : ¬ (1 ≤ n ∧ n ≤ 64)) : ints_Wrap.f v n = some (0, 1) := by
  unfold ints_Wrap.f
  rw [size_f, decide_eq_false h]; rfl
theorem sign_f (v n : Int) (h1 : 1 ≤ n) (h2 : n ≤ 64) : ints_Sign.f v n = some (sg v n, 0) := by
  unfold ints_Sign.f
  rw [size_f, decide_eq_true ⟨h1, h2⟩]
  simp only [Option.bind_some, if_true]
  rw [w64 (64 - n) (by omega), if_pos (by omega), shr_at _ _ _ (by omega) (by simp only [IntKind.bits]; omega), shl_u64 _ _ (by omega) (by omega), sg_div v n h1 h2]
theorem sign_no (v n : Int) (h : ¬ (1 ≤ n ∧ n ≤ 64)) : ints_Sign.f v n = some (0, 1) := by
  unfold ints_Sign.f
  rw [size_f, decide_eq_false h]; rfl
/-- does a number with a sign fit so many bits? -/
def fits (x n : Int) : Prop := -(2 ^ (n.toNat - 1)) ≤ x ∧ x < 2 ^ (n.toNat - 1)
theorem bits_f (x n : Int) (h1 : 1 ≤ n) (h2 : n ≤ 64) (hx : fits x n) : ints_Bits.f x n = some (wr x n, 0) := by
  unfold ints_Bits.f
  rw [sign_f _ n h1 h2, wrap_f _ n h1 h2, u64_wrap, sg_u64 x n h1 h2, wr_u64 x n h1 h2, sg_in x n h1 h2 hx]
  simp
theorem bits_far (x n : Int) (h1 : 1 ≤ n) (h2 : n ≤ 64) (hx : ¬ fits x n) : ints_Bits.f x n = some (0, 6) := by
  unfold ints_Bits.f
  rw [sign_f _ n h1 h2, u64_wrap, sg_u64 x n h1 h2]
  have : ¬ sg x n = x := fun h => hx (by have := sg_range x n h1 h2; unfold fits; rw [h] at this; exact this)
  simp only [Option.bind_some, if_true]
  rw [if_neg this]
theorem bits_no (x n : Int) (h : ¬ (1 ≤ n ∧ n ≤ 64)) : ints_Bits.f x n = some (0, 1) := by
  unfold ints_Bits.f
  rw [sign_no _ n h]; rfl
/-- a number's remainder by sixty-four, and one -/
theorem mod64 (a : Int) : ∃ r : Int, 0 ≤ r ∧ r < 64 ∧ wrap64 (Int.tmod (IntKind.u64.wrap a) 64) = r := by
  rw [u64_wrap]
  have h := Int.emod_nonneg a (show (18446744073709551616 : Int) ≠ 0 by decide)
  generalize a % 18446744073709551616 = x at h
  rw [Int.tmod_eq_emod_of_nonneg h]
  refine ⟨x % 64, by omega, by omega, ?_⟩
  rw [w64 _ (by omega)]
theorem one_mod64 (a : Int) : ∃ n : Int, 1 ≤ n ∧ n ≤ 64 ∧ wrap64 (1 + wrap64 (Int.tmod (IntKind.u64.wrap a) 64)) = n := by
  obtain ⟨r, r0, r1, e⟩ := mod64 a
  exact ⟨1 + r, by omega, by omega, by rw [e, w64 _ (by omega)]⟩
theorem works_f (k : Nat) (hk : 10 < k) : tallboylaw01_works.f k = some true := by
  obtain ⟨k, rfl⟩ : ∃ m, k = m + 1 := ⟨k - 1, by omega⟩
  have a1 : ints_Wrap.f 300 8 = some (44, 0) := by decide +kernel
  have a2 : ints_Sign.f 200 8 = some (-56, 0) := by decide +kernel
  have a3 : ints_Bits.f (-56) 8 = some (200, 0) := by decide +kernel
  have a4 : ints_Bits.f 128 8 = some (0, 6) := by decide +kernel
  have a5 : ints_Narrow.f (-1) = some (-1, 255, -1, 65535, -1, 4294967295) := by decide +kernel
  have a6 : ints_Rotate.f 1 (-1) = some 2147483648 := by decide +kernel
  have a7 : ints_Shift.j0 k 5 2 (decide ((2 : Int) ≤ -64)) = ints_Shift.j0 k 5 2 false := by rfl
  have a8 : ints_Shift.f (k + 1) 5 2 = some 20 := by
    unfold ints_Shift.f
    rw [if_neg (by decide), decide_eq_false (by decide)]
    simp only [ints_Shift.j0]; decide +kernel
  have a9 : ints_Shift.f (k + 1) 5 (-1) = some 2 := by
    unfold ints_Shift.f
    rw [if_neg (by decide), decide_eq_false (by decide)]
    simp only [ints_Shift.j0]; decide +kernel
  unfold tallboylaw01_works.f
  rw [a1, a2, a3, a4, a5, a6, a8, a9]; rfl
theorem IntsSums : tallboylaw01_IntsSums.Pure := by
  intro a b n ha hb hn
  obtain ⟨m, h1, h2, e⟩ := one_mod64 n
  refine ⟨20, ?_⟩
  unfold tallboylaw01_IntsSums.f
  rw [works_f _ (by decide)]
  simp only [Option.bind_some, if_true]
  rw [e, wrap_f a m h1 h2, wrap_f b m h1 h2]
  simp only [Option.bind_some]
  rw [wrap_f _ m h1 h2, wrap_f _ m h1 h2, wrap_f _ m h1 h2, wrap_f _ m h1 h2]
  simp only [Option.bind_some, if_true]
  rw [u64_wrap, u64_wrap, u64_wrap, u64_wrap, wr_u64 _ m h1 h2, wr_u64 _ m h1 h2, wr_u64 _ m h1 h2, wr_u64 _ m h1 h2]
  have s : wr (wr a m + wr b m) m = wr (a + b) m := by unfold wr; exact (Int.add_emod _ _ _).symm
  have p : wr (wr a m * wr b m) m = wr (a * b) m := by unfold wr; exact (Int.mul_emod _ _ _).symm
  rw [s, p]; simp

end Go.Proofs.Ytbdfdnlhoomhaaa.Pure
