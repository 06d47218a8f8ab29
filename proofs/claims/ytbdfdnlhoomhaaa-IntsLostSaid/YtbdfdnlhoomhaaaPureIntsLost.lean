/- Proved: shifted to the left and back, a number has lost its highest bits alone; shifted to the right and back its lowest. For all numbers. -/
import Derived.Test.YtbdfdnlhoomhaaaPIntsLostx1
import Derived.Test.YtbdfdnlhoomhaaaBase2
namespace Go.Proofs.Ytbdfdnlhoomhaaa.Pure
open Go.RowKit Go.Proofs.Ytbdfdnlhoomhaaa.PIntsLost Go.Proofs.YtbdfdnlhoomhaaaW.PrintWords Go.Proofs.YtbdfdnlhoomhaaaW.PrintLast Go.Proofs.YtbdfdnlhoomhaaaW.PrintMore Go.Proofs.Ytbdfdnlhoomhaaa.Base
set_option linter.unusedVariables false
theorem w64 (x : Int) (h : -9223372036854775808 ≤ x ∧ x < 9223372036854775808) : wrap64 x = x := by unfold wrap64; omega
theorem shl_u64 (v m : Int) (h0 : 0 ≤ m) (h1 : m ≤ 64) : shl .u64 v m = v * 2 ^ m.toNat % 18446744073709551616 := by
  unfold shl
  rw [u64_wrap, Nat.min_eq_left (by simp only [IntKind.bits]; omega)]
theorem shr_at (k : IntKind) (v m : Int) (h0 : 0 ≤ m) (h1 : m ≤ k.bits) : shr k v m = v / 2 ^ m.toNat := by
  unfold shr
  rw [Nat.min_eq_left (by omega)]
theorem size_f (n : Int) : ints_size.f n = some (decide (1 ≤ n ∧ n ≤ 64)) := by
  unfold ints_size.f
  by_cases h : n ≥ 1
  · rw [if_pos h]
    by_cases h2 : n ≤ 64
    · rw [decide_eq_true h2, decide_eq_true (show 1 ≤ n ∧ n ≤ 64 from ⟨h, h2⟩)]
    · rw [decide_eq_false h2, decide_eq_false (show ¬ (1 ≤ n ∧ n ≤ 64) by omega)]
  · rw [if_neg h, decide_eq_false (show ¬ (1 ≤ n ∧ n ≤ 64) by omega)]
theorem wrap_f (v n : Int) (h1 : 1 ≤ n) (h2 : n ≤ 64) : ints_Wrap.f v n = some (wr v n, 0) := by
  unfold ints_Wrap.f
  rw [size_f, decide_eq_true ⟨h1, h2⟩]
  simp only [Option.bind_some, if_true]
  rw [w64 (64 - n) (by omega), if_pos (by omega), shr_at _ _ _ (by omega) (by simp only [IntKind.bits]; omega), shl_u64 _ _ (by omega) (by omega), wr_div v n h1 h2]
theorem wrap_no (v n : Int) (h : ¬ (1 ≤ n ∧ n ≤ 64)) : ints_Wrap.f v n = some (0, 1) := by
  unfold ints_Wrap.f
  rw [size_f, decide_eq_false h]; rfl
theorem sign_f (v n : Int) (h1 : 1 ≤ n) (h2 : n ≤ 64) : ints_Sign.f v n = some (sg v n, 0) := by
  unfold ints_Sign.f
  rw [size_f, decide_eq_true ⟨h1, h2⟩]
  simp only [Option.bind_some, if_true]
  rw [w64 (64 - n) (by omega), if_pos (by omega), shr_at _ _ _ (by omega) (by simp only [IntKind.bits]; omega), shl_u64 _ _ (by omega) (by omega), sg_div v n h1 h2]
theorem sign_no (v n : Int) (h : ¬ (1 ≤ n ∧ n ≤ 64)) : ints_Sign.f v n = some (0, 1) := by
  unfold ints_Sign.f
  rw [size_f, decide_eq_false h]; rfl
/-- does a number with a sign fit so many bits? -/
def fits (x n : Int) : Prop := -(2 ^ (n.toNat - 1)) ≤ x ∧ x < 2 ^ (n.toNat - 1)
theorem bits_f (x n : Int) (h1 : 1 ≤ n) (h2 : n ≤ 64) (hx : fits x n) : ints_Bits.f x n = some (wr x n, 0) := by
  unfold ints_Bits.f
  rw [sign_f _ n h1 h2, wrap_f _ n h1 h2, u64_wrap, sg_u64 x n h1 h2, wr_u64 x n h1 h2, sg_in x n h1 h2 hx]
  simp
theorem bits_far (x n : Int) (h1 : 1 ≤ n) (h2 : n ≤ 64) (hx : ¬ fits x n) : ints_Bits.f x n = some (0, 6) := by
  unfold ints_Bits.f
  rw [sign_f _ n h1 h2, u64_wrap, sg_u64 x n h1 h2]
  have : ¬ sg x n = x := fun h => hx (by have := sg_range x n h1 h2; unfold fits; rw [h] at this; exact this)
  simp only [Option.bind_some, if_true]
  rw [if_neg this]
theorem bits_no (x n : Int) (h : ¬ (1 ≤ n ∧ n ≤ 64)) : ints_Bits.f x n = some (0, 1) := by
  unfold ints_Bits.f
  rw [sign_no _ n h]; rfl
/-- a number's remainder by sixty-four, and one -/
theorem mod64 (a : Int) : ∃ r : Int, 0 ≤ r ∧ r < 64 ∧ wrap64 (Int.tmod (IntKind.u64.wrap a) 64) = r := by
  rw [u64_wrap]
  have h := Int.emod_nonneg a (show (18446744073709551616 : Int) ≠ 0 by decide)
  generalize a % 18446744073709551616 = x at h
  rw [Int.tmod_eq_emod_of_nonneg h]
  refine ⟨x % 64, by omega, by omega, ?_⟩
  rw [w64 _ (by omega)]
theorem one_mod64 (a : Int) : ∃ n : Int, 1 ≤ n ∧ n ≤ 64 ∧ wrap64 (1 + wrap64 (Int.tmod (IntKind.u64.wrap a) 64)) = n := by
  obtain ⟨r, r0, r1, e⟩ := mod64 a
  exact ⟨1 + r, by omega, by omega, by rw [e, w64 _ (by omega)]⟩
theorem shift_l (k : Nat) (v m : Int) (h : 0 ≤ m) : ints_Shift.f (k + 1) v m = some (lft v m.toNat) := by
  unfold ints_Shift.f
  by_cases h1 : m ≥ 64
  · rw [if_pos h1, lft_all v m.toNat (by omega)]; rfl
  · rw [if_neg h1, decide_eq_false (show ¬ m ≤ -64 by omega)]
    simp only [ints_Shift.j0]
    rw [if_neg (by decide), if_pos h, if_pos h, shl_u64 v m h (by omega)]; rfl
theorem shift_r (k : Nat) (v m : Int) (v0 : 0 ≤ v) (v1 : v < 18446744073709551616) (h : m ≤ 0) (hm : -9223372036854775808 < m) : ints_Shift.f (k + 1) v m = some (rgt v (-m).toNat) := by
  by_cases h0 : m = 0
  · subst h0
    rw [shift_l k v 0 (by decide)]
    have e : (-(0 : Int)).toNat = 0 := by decide
    have e' : (0 : Int).toNat = 0 := by decide
    rw [e, e', rgt_zero, lft_zero v v0 v1]
  · unfold ints_Shift.f
    rw [if_neg (by omega)]
    by_cases h1 : m ≤ -64
    · rw [decide_eq_true h1, rgt_all v v0 v1 _ (by omega)]; rfl
    · rw [decide_eq_false h1]
      simp only [ints_Shift.j0]
      rw [if_neg (by decide), if_neg (by omega), w64 (-m) (by omega), if_pos (by omega), shr_at _ _ _ (by omega) (by simp only [IntKind.bits]; omega)]; rfl
theorem works_f (k : Nat) (hk : 10 < k) : tallboylaw01_works.f k = some true := by
  obtain ⟨k, rfl⟩ : ∃ m, k = m + 1 := ⟨k - 1, by omega⟩
  have a1 : ints_Wrap.f 300 8 = some (44, 0) := by decide +kernel
  have a2 : ints_Sign.f 200 8 = some (-56, 0) := by decide +kernel
  have a3 : ints_Bits.f (-56) 8 = some (200, 0) := by decide +kernel
  have a4 : ints_Bits.f 128 8 = some (0, 6) := by decide +kernel
  have a5 : ints_Narrow.f (-1) = some (-1, 255, -1, 65535, -1, 4294967295) := by decide +kernel
  have a6 : ints_Rotate.f 1 (-1) = some 2147483648 := by decide +kernel
  have a7 : ints_Shift.j0 k 5 2 (decide ((2 : Int) ≤ -64)) = ints_Shift.j0 k 5 2 false := by rfl
  have a8 : ints_Shift.f (k + 1) 5 2 = some 20 := by
    unfold ints_Shift.f
    rw [if_neg (by decide), decide_eq_false (by decide)]
    simp only [ints_Shift.j0]; decide +kernel
  have a9 : ints_Shift.f (k + 1) 5 (-1) = some 2 := by
    unfold ints_Shift.f
    rw [if_neg (by decide), decide_eq_false (by decide)]
    simp only [ints_Shift.j0]; decide +kernel
  unfold tallboylaw01_works.f
  rw [a1, a2, a3, a4, a5, a6, a8, a9]; rfl
theorem IntsLost : tallboylaw01_IntsLost.Pure := by
  intro v n hv hn
  obtain ⟨v0, v1⟩ := bounds_u64 hv
  obtain ⟨x, x0, x1, ex⟩ := mod64 n
  refine ⟨20, ?_⟩
  unfold tallboylaw01_IntsLost.f
  rw [works_f _ (by decide)]
  simp only [Option.bind_some, if_true]
  rw [ex, w64 (64 - x) (by omega), w64 (-x) (by omega)]
  have m1 : mx 1 (64 - x) = 64 - x := by unfold mx; omega
  have m2 : 1 ≤ mx 1 x ∧ mx 1 x ≤ 64 := by unfold mx; omega
  rw [m1, wrap_f v (64 - x) (by omega) (by omega), wrap_f v (mx 1 x) m2.1 m2.2]
  simp only [Option.bind_some]
  obtain ⟨l0, l1⟩ := lft_range v x.toNat
  obtain ⟨r0, r1⟩ := rgt_range v v0 (by omega) (- -x).toNat
  rw [shift_l 19 v x x0]
  simp only [Option.bind_some]
  rw [shift_r 19 _ (-x) l0 l1 (by omega) (by omega), shift_r 19 v (-x) v0 (by omega) (by omega) (by omega)]
  simp only [Option.bind_some]
  rw [shift_l 19 _ x x0]
  simp only [Option.bind_some]
  have e : (- -x).toNat = x.toNat := by omega
  rw [e]
  by_cases h : x = 0
  · subst h
    have e' : (0 : Int).toNat = 0 := by decide
    rw [if_pos rfl, e', lft_zero v v0 (by omega), rgt_zero, if_pos rfl, lft_zero v v0 (by omega)]
    simp
  · rw [if_neg h]
    simp only [if_true]
    have m3 : mx 1 x = x := by unfold mx; omega
    have f1 : rgt (lft v x.toNat) x.toNat = wr v (64 - x) := by
      have := wr_div v (64 - x) (by omega) (by omega)
      have t : (64 - (64 - x)).toNat = x.toNat := by omega
      rw [t] at this
      exact this
    have f2 : lft (rgt v x.toNat) x.toNat = v - wr v x := by
      unfold lft rgt wr
      have d := Int.mul_ediv_add_emod v (2 ^ x.toNat)
      rw [Int.mul_comm] at d
      have p := two_pos x.toNat
      have q0 := Int.emod_nonneg v (show (2 : Int) ^ x.toNat ≠ 0 by omega)
      have q1 : 0 ≤ v / 2 ^ x.toNat * 2 ^ x.toNat := Int.mul_nonneg (Int.ediv_nonneg v0 (by omega)) (by omega)
      generalize v / 2 ^ x.toNat * 2 ^ x.toNat = q at d q1
      generalize v % 2 ^ x.toNat = r at d q0
      omega
    have f3 : IntKind.u64.wrap (v - wr v x) = v - wr v x := by
      rw [u64_wrap, ← f2]
      have := lft_range (rgt v x.toNat) x.toNat
      omega
    rw [f1, if_pos rfl, m3, f3, f2]
    simp

end Go.Proofs.Ytbdfdnlhoomhaaa.Pure
