/- Proved: with twice as many buckets a number's bucket is the one it had, or so many more. For any number of 32 bits. -/
import Derived.Test.YtihoefnflbfebaaPFnvGrowsx1
import Derived.Test.YtihoefnflbfebaaBase
namespace Go.Proofs.Ytihoefnflbfebaa.Pure
open Go.RowKit Go.Proofs.Ytihoefnflbfebaa.PFnvGrows Go.Proofs.YtihoefnflbfebaaW.PrintWords Go.Proofs.YtihoefnflbfebaaW.PrintLast Go.Proofs.YtihoefnflbfebaaW.PrintMore Go.Proofs.Ytihoefnflbfebaa.Base
set_option linter.unusedVariables false
/-- the number of the d bytes from i on, behind a number -/
def fm (s : ByteArray) : Nat → Nat → Int → Int
  | _, 0, x => x
  | i, d + 1, x => fm s (i + 1) d (stp x (bt s i))
theorem more_l0 (s : ByteArray) (hs : s.size ≤ 140737488351232) (d : Nat) : ∀ (k i : Nat) (x : Int), i + d = s.size → d < k →
    fnv_More.l0 k x s (s.size : Int) (i : Int) = some (fm s i d x) := by
  induction d with
  | zero =>
    intro k i x h hk
    obtain ⟨k, rfl⟩ : ∃ m, k = m + 1 := ⟨k - 1, by omega⟩
    simp only [fnv_More.l0]; rw [if_neg (by omega)]; rfl
  | succ d ih =>
    intro k i x h hk
    obtain ⟨k, rfl⟩ : ∃ m, k = m + 1 := ⟨k - 1, by omega⟩
    simp only [fnv_More.l0]; rw [if_pos (by omega), if_pos (by omega), if_pos (by omega), wrap1 (by omega)]
    exact ih k (i + 1) _ (by omega) (by omega)
theorem more_f (s : ByteArray) (hs : s.size ≤ 140737488351232) (k : Nat) (hk : s.size < k) (x : Int) : fnv_More.f k x s = some (fm s 0 s.size x) := by
  unfold fnv_More.f
  exact more_l0 s hs s.size k 0 x (by omega) hk
theorem sum_f (s : ByteArray) (hs : s.size ≤ 140737488351232) (k : Nat) (hk : s.size < k) : fnv_Sum.f k s = some (fm s 0 s.size 2166136261) := by
  unfold fnv_Sum.f
  rw [more_f s hs k hk]; rfl
theorem fm_range (s : ByteArray) (d : Nat) : ∀ (i : Nat) (x : Int), 0 ≤ x → x < 4294967296 → 0 ≤ fm s i d x ∧ fm s i d x < 4294967296 := by
  induction d with
  | zero => intro i x h0 h1; exact ⟨h0, h1⟩
  | succ d ih => intro i x h0 h1; exact ih _ _ (stp_range _ _).1 (stp_range _ _).2
/-- are the d bytes from i on all of a key's? -/
def kb (s : ByteArray) : Nat → Nat → Bool
  | _, 0 => true
  | i, d + 1 => (decide (33 ≤ bt s i) && decide (bt s i ≤ 126)) && kb s (i + 1) d
theorem key_l0 (s : ByteArray) (hs : s.size ≤ 140737488351232) (d : Nat) : ∀ (k i : Nat), i + d = s.size → d < k →
    fnv_Key.l0 k s (s.size : Int) (i : Int) = some (kb s i d) := by
  induction d with
  | zero =>
    intro k i h hk
    obtain ⟨k, rfl⟩ : ∃ m, k = m + 1 := ⟨k - 1, by omega⟩
    simp only [fnv_Key.l0]; rw [if_neg (by omega)]; rfl
  | succ d ih =>
    intro k i h hk
    obtain ⟨k, rfl⟩ : ∃ m, k = m + 1 := ⟨k - 1, by omega⟩
    simp only [fnv_Key.l0]; rw [if_pos (by omega), if_pos (by omega), if_pos (by omega), wrap1 (by omega)]
    by_cases h1 : bt s i < 33
    · rw [if_pos h1]; simp only [kb]; rw [decide_eq_false (by omega)]; rfl
    · rw [if_neg h1]
      by_cases h2 : bt s i > 126
      · rw [if_pos h2]; simp only [kb]; rw [decide_eq_true (by omega), decide_eq_false (by omega)]; rfl
      · rw [if_neg h2, ih k (i + 1) (by omega) (by omega)]; simp only [kb]; rw [decide_eq_true (by omega), decide_eq_true (by omega)]; rfl
theorem toList_nil (s : ByteArray) : s.toList = ([] : List UInt8) ↔ s.size = 0 := by
  rw [ByteArray.toList_eq]
  constructor
  · intro h
    have := congrArg List.length h
    simpa using this
  · intro h
    apply List.eq_nil_of_length_eq_zero
    simpa using h
def keyB (s : ByteArray) : Bool := decide (1 ≤ s.size) && decide (s.size ≤ 32) && kb s 0 s.size
theorem key_f (s : ByteArray) (hs : s.size ≤ 140737488351232) (k : Nat) (hk : s.size + 1 < k) : fnv_Key.f k s = some (keyB s) := by
  obtain ⟨k, rfl⟩ : ∃ m, k = m + 1 := ⟨k - 1, by omega⟩
  unfold fnv_Key.f keyB
  by_cases h0 : s.size = 0
  · rw [if_pos ((toList_nil s).2 h0), decide_eq_false (show ¬ 1 ≤ s.size by omega)]; rfl
  · rw [if_neg (fun h => h0 ((toList_nil s).1 h)), decide_eq_true (show 1 ≤ s.size by omega)]
    by_cases h1 : s.size ≤ 32
    · rw [decide_eq_true h1, decide_eq_false (show ¬ ((s.size : Int) > 32) by omega)]
      simp only [fnv_Key.j0]
      rw [if_neg (by decide)]
      exact key_l0 s hs s.size k 0 (by omega) (by omega)
    · rw [decide_eq_false h1, decide_eq_true (show ((s.size : Int) > 32) by omega)]; rfl
theorem works_f (k : Nat) (hk : 10 < k) : tallboylaw04_works.f k = some true := by
  have k1 : keyB (⟨#[107, 101, 121]⟩ : ByteArray) = true := by decide +kernel
  have k2 : keyB (⟨#[97, 32, 98]⟩ : ByteArray) = false := by decide +kernel
  have k3 : keyB (⟨#[]⟩ : ByteArray) = false := by decide +kernel
  have s1 : fm (⟨#[]⟩ : ByteArray) 0 (⟨#[]⟩ : ByteArray).size 2166136261 = 2166136261 := by decide +kernel
  have s2 : fm (⟨#[97]⟩ : ByteArray) 0 (⟨#[97]⟩ : ByteArray).size 2166136261 = 3826002220 := by decide +kernel
  have b1 : fnv_Bucket.f 13 8 = some (5, 0) := by decide +kernel
  have b2 : fnv_Bucket.f 13 12 = some (0, 1) := by decide +kernel
  have t1 : fnv_Stripe.f 327680 = some 1 := by decide +kernel
  unfold tallboylaw04_works.f
  rw [b1, b2, t1, sum_f _ (by decide) k (by simp [ByteArray.size]; omega), sum_f _ (by decide) k (by simp [ByteArray.size]; omega), key_f _ (by decide) k (by simp [ByteArray.size]; omega), key_f _ (by decide) k (by simp [ByteArray.size]; omega), key_f _ (by decide) k (by simp [ByteArray.size]; omega), k1, k2, k3, s1, s2]
  rfl
theorem bucket_no (x n : Int) (h : ¬ (n = 1 ∨ n = 2 ∨ n = 4 ∨ n = 8 ∨ n = 16 ∨ n = 32 ∨ n = 64)) : fnv_Bucket.f x n = some (0, 1) := by
  unfold fnv_Bucket.f
  by_cases h1 : n < 1
  · rw [if_pos h1]
  · rw [if_neg h1]
    by_cases h2 : n > 64
    · rw [if_pos h2]
    · rw [if_neg h2]
      by_cases h3 : Go.bits .and .i64 n (wrap64 (n - 1)) = 0
      · exact absurd (pow_of n (by omega) (by omega) h3) h
      · rw [if_neg h3]
theorem bucket_pow (x : Int) (h0 : 0 ≤ x) (h1 : x < 4294967296) (i : Nat) (hi : i ≤ 6) : fnv_Bucket.f x ((2 : Int) ^ i) = some (x % 2 ^ i, 0) := by
  have hb : 1 ≤ ((2 : Int) ^ i) ∧ ((2 : Int) ^ i) ≤ 64 := by
    have : i = 0 ∨ i = 1 ∨ i = 2 ∨ i = 3 ∨ i = 4 ∨ i = 5 ∨ i = 6 := by omega
    rcases this with rfl | rfl | rfl | rfl | rfl | rfl | rfl <;> decide +kernel
  unfold fnv_Bucket.f
  rw [if_neg (by omega), if_neg (by omega), if_pos (and_pow i hi), and_low x h0 h1 i hi]
theorem stripe_f (x : Int) (h0 : 0 ≤ x) (h1 : x < 4294967296) : fnv_Stripe.f x = some (x / 65536 % 4) := by
  unfold fnv_Stripe.f
  rw [stripe_of x h0 h1]
theorem u64_wrap (n : Int) : IntKind.u64.wrap n = n % 18446744073709551616 := by simp [IntKind.wrap, IntKind.bits, IntKind.signed]
theorem tmod_small (a : Int) (m : Nat) (hm : 0 < m) : ∃ j : Nat, j < m ∧ Int.tmod (IntKind.u64.wrap a) (m : Int) = (j : Int) := by
  rw [u64_wrap]
  have h := Int.emod_nonneg a (show (18446744073709551616 : Int) ≠ 0 by decide)
  generalize a % 18446744073709551616 = r at h
  rw [Int.tmod_eq_emod_of_nonneg h]
  refine ⟨(r % m).toNat, ?_, ?_⟩
  · have := Int.emod_lt_of_pos r (show (0 : Int) < (m : Int) by omega)
    have := Int.emod_nonneg r (show (m : Int) ≠ 0 by omega)
    omega
  · have := Int.emod_nonneg r (show (m : Int) ≠ 0 by omega)
    omega
theorem shl_one (j : Nat) (hj : j ≤ 6) : shl .i64 1 (j : Int) = (2 : Int) ^ j := by
  have : j = 0 ∨ j = 1 ∨ j = 2 ∨ j = 3 ∨ j = 4 ∨ j = 5 ∨ j = 6 := by omega
  rcases this with rfl | rfl | rfl | rfl | rfl | rfl | rfl <;> decide +kernel
theorem FnvGrows : tallboylaw04_FnvGrows.Pure := by
  intro x n hx hn
  obtain ⟨h0, h1⟩ := bounds_u32 hx
  obtain ⟨j, hj, e⟩ := tmod_small n 6 (by decide)
  have e' : Int.tmod (IntKind.u64.wrap n) 6 = (j : Int) := e
  refine ⟨20000, ?_⟩
  unfold tallboylaw04_FnvGrows.f
  rw [works_f _ (by decide)]
  simp only [Option.bind_some, if_true]
  rw [e', shl_one j (by omega), if_pos (by omega)]
  have e2 : wrap64 (2 * (2 : Int) ^ j) = 2 ^ (j + 1) := by
    have : j = 0 ∨ j = 1 ∨ j = 2 ∨ j = 3 ∨ j = 4 ∨ j = 5 := by omega
    rcases this with rfl | rfl | rfl | rfl | rfl | rfl <;> decide +kernel
  rw [e2, bucket_pow x h0 (by omega) j (by omega), bucket_pow x h0 (by omega) (j + 1) (by omega)]
  simp only [Option.bind_some, if_true]
  have hp : ∀ p : Int, 0 < p → p ≤ 32 → 2 * p = 2 ^ (j + 1) → (if x % p ≥ 0 then (if x % p < p then (if x % 2 ^ (j + 1) = x % p then some true else some (x % 2 ^ (j + 1) == wrap64 (x % p + p))) else some false) else some false) = some true := by
    intro p p0 p1 p2
    have a0 := Int.emod_nonneg x (show p ≠ 0 by omega)
    have a1 := Int.emod_lt_of_pos x p0
    rw [if_pos (by omega), if_pos a1]
    by_cases hb : x % 2 ^ (j + 1) = x % p
    · rw [if_pos hb]
    · rw [if_neg hb, ← p2]
      have b0 := Int.emod_nonneg x (show 2 * p ≠ 0 by omega)
      have b1 := Int.emod_lt_of_pos x (show 0 < 2 * p by omega)
      have b2 : x % (2 * p) % p = x % p := Int.emod_emod_of_dvd x (Int.dvd_mul_left 2 p)
      rw [← p2] at hb
      generalize x % (2 * p) = r at b0 b1 b2 hb
      generalize x % p = q at a0 a1 b2 hb
      have b3 : r = q + p := by
        by_cases hr : r < p
        · rw [Int.emod_eq_of_lt b0 hr] at b2; exact absurd b2 hb
        · have : (r - p) % p = r % p := Int.sub_emod_right r p
          rw [Int.emod_eq_of_lt (by omega) (by omega)] at this
          omega
      have b4 : wrap64 (q + p) = r := by unfold wrap64; omega
      rw [b4]; simp
  have hj' : j = 0 ∨ j = 1 ∨ j = 2 ∨ j = 3 ∨ j = 4 ∨ j = 5 := by omega
  refine hp (2 ^ j) ?_ ?_ ?_
  all_goals (rcases hj' with rfl | rfl | rfl | rfl | rfl | rfl <;> decide +kernel)

end Go.Proofs.Ytihoefnflbfebaa.Pure
