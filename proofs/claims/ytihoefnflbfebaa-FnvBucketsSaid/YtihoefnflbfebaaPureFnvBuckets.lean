/- Proved: of any number of 32 bits and any number of buckets, the bucket, the refusal and the stripe are those of the reference. No condition beyond the arguments' own kinds. -/
import Derived.Test.YtihoefnflbfebaaPFnvBucketsx1
import Derived.Test.YtihoefnflbfebaaBase
namespace Go.Proofs.Ytihoefnflbfebaa.Pure
open Go.RowKit Go.Proofs.Ytihoefnflbfebaa.PFnvBuckets Go.Proofs.YtihoefnflbfebaaW.PrintWords Go.Proofs.YtihoefnflbfebaaW.PrintLast Go.Proofs.Ytihoefnflbfebaa.Base
set_option linter.unusedVariables false
theorem bucket_no (x n : Int) (h : ¬ (n = 1 ∨ n = 2 ∨ n = 4 ∨ n = 8 ∨ n = 16 ∨ n = 32 ∨ n = 64)) : fnv_Bucket.f x n = some (0, 1) := by
  unfold fnv_Bucket.f
  by_cases h1 : n < 1
  · rw [if_pos h1]
  · rw [if_neg h1]
    by_cases h2 : n > 64
    · rw [if_pos h2]
    · rw [if_neg h2]
      by_cases h3 : Go.bits .and .i64 n (wrap64 (n - 1)) = 0
      · exact absurd (pow_of n (by omega) (by omega) h3) h
      · rw [if_neg h3]
theorem bucket_pow (x : Int) (h0 : 0 ≤ x) (h1 : x < 4294967296) (i : Nat) (hi : i ≤ 6) : fnv_Bucket.f x ((2 : Int) ^ i) = some (x % 2 ^ i, 0) := by
  have hb : 1 ≤ ((2 : Int) ^ i) ∧ ((2 : Int) ^ i) ≤ 64 := by
    have : i = 0 ∨ i = 1 ∨ i = 2 ∨ i = 3 ∨ i = 4 ∨ i = 5 ∨ i = 6 := by omega
    rcases this with rfl | rfl | rfl | rfl | rfl | rfl | rfl <;> decide +kernel
  unfold fnv_Bucket.f
  rw [if_neg (by omega), if_neg (by omega), if_pos (and_pow i hi), and_low x h0 h1 i hi]
theorem stripe_f (x : Int) (h0 : 0 ≤ x) (h1 : x < 4294967296) : fnv_Stripe.f x = some (x / 65536 % 4) := by
  unfold fnv_Stripe.f
  rw [stripe_of x h0 h1]
theorem refb_no (x n : Int) (h : ¬ (n = 1 ∨ n = 2 ∨ n = 4 ∨ n = 8 ∨ n = 16 ∨ n = 32 ∨ n = 64)) (k : Nat) : tallboyref04_Bucket.f (k + 9) x n = some (0, 1) := by
  unfold tallboyref04_Bucket.f
  simp only [tallboyref04_Bucket.l0]
  have w1 : wrap64 (2 * 1) = 2 := by decide +kernel
  have w2 : wrap64 (2 * 2) = 4 := by decide +kernel
  have w3 : wrap64 (2 * 4) = 8 := by decide +kernel
  have w4 : wrap64 (2 * 8) = 16 := by decide +kernel
  have w5 : wrap64 (2 * 16) = 32 := by decide +kernel
  have w6 : wrap64 (2 * 32) = 64 := by decide +kernel
  have w7 : wrap64 (2 * 64) = 128 := by decide +kernel
  rw [w1, w2, w3, w4, w5, w6, w7]
  rw [if_pos (by decide), if_neg (by omega), if_pos (by decide), if_neg (by omega), if_pos (by decide), if_neg (by omega), if_pos (by decide), if_neg (by omega), if_pos (by decide), if_neg (by omega), if_pos (by decide), if_neg (by omega), if_pos (by decide), if_neg (by omega), if_neg (by decide)]
theorem refb_at (x p n : Int) (h0 : 0 ≤ x) (h1 : x < 4294967296) (hp : 1 ≤ p ∧ p ≤ 64) (k : Nat) : tallboyref04_Bucket.l0 (k + 1) x p p = some (x % p, 0) := by
  simp only [tallboyref04_Bucket.l0]
  have e : p % 4294967296 = p := by omega
  have e2 : Int.tmod x p = x % p := Int.tmod_eq_emod_of_nonneg h0
  have hl := Int.emod_lt_of_pos x (show 0 < p by omega)
  have hg := Int.emod_nonneg x (show p ≠ 0 by omega)
  have e3 : wrap64 (x % p) = x % p := by
    generalize x % p = r at hl hg
    unfold wrap64; omega
  rw [if_pos (by omega), if_pos trivial, e, if_neg (by omega), e2, e3]
theorem refb_up (x p q n : Int) (h : p ≠ n) (hp : 1 ≤ p ∧ p ≤ 64) (hq : 2 * p = q) (k : Nat) : tallboyref04_Bucket.l0 (k + 1) x n p = tallboyref04_Bucket.l0 k x n q := by
  simp only [tallboyref04_Bucket.l0]
  have e : wrap64 (2 * p) = q := by unfold wrap64; omega
  rw [if_pos (by omega), if_neg h, e]
theorem refb_pow (x : Int) (h0 : 0 ≤ x) (h1 : x < 4294967296) (n : Int) (h : n = 1 ∨ n = 2 ∨ n = 4 ∨ n = 8 ∨ n = 16 ∨ n = 32 ∨ n = 64) (k : Nat) : tallboyref04_Bucket.f (k + 9) x n = some (x % n, 0) := by
  unfold tallboyref04_Bucket.f
  rcases h with rfl | rfl | rfl | rfl | rfl | rfl | rfl
  · exact refb_at x 1 1 h0 h1 (by decide) _
  · rw [refb_up x 1 2 _ (by decide) (by decide) (by decide)]; exact refb_at x 2 1 h0 h1 (by decide) _
  · rw [refb_up x 1 2 _ (by decide) (by decide) (by decide), refb_up x 2 4 _ (by decide) (by decide) (by decide)]; exact refb_at x 4 1 h0 h1 (by decide) _
  · rw [refb_up x 1 2 _ (by decide) (by decide) (by decide), refb_up x 2 4 _ (by decide) (by decide) (by decide), refb_up x 4 8 _ (by decide) (by decide) (by decide)]; exact refb_at x 8 1 h0 h1 (by decide) _
  · rw [refb_up x 1 2 _ (by decide) (by decide) (by decide), refb_up x 2 4 _ (by decide) (by decide) (by decide), refb_up x 4 8 _ (by decide) (by decide) (by decide), refb_up x 8 16 _ (by decide) (by decide) (by decide)]; exact refb_at x 16 1 h0 h1 (by decide) _
  · rw [refb_up x 1 2 _ (by decide) (by decide) (by decide), refb_up x 2 4 _ (by decide) (by decide) (by decide), refb_up x 4 8 _ (by decide) (by decide) (by decide), refb_up x 8 16 _ (by decide) (by decide) (by decide), refb_up x 16 32 _ (by decide) (by decide) (by decide)]; exact refb_at x 32 1 h0 h1 (by decide) _
  · rw [refb_up x 1 2 _ (by decide) (by decide) (by decide), refb_up x 2 4 _ (by decide) (by decide) (by decide), refb_up x 4 8 _ (by decide) (by decide) (by decide), refb_up x 8 16 _ (by decide) (by decide) (by decide), refb_up x 16 32 _ (by decide) (by decide) (by decide), refb_up x 32 64 _ (by decide) (by decide) (by decide)]; exact refb_at x 64 1 h0 h1 (by decide) _
theorem bucket_yes (x : Int) (h0 : 0 ≤ x) (h1 : x < 4294967296) (n : Int) (h : n = 1 ∨ n = 2 ∨ n = 4 ∨ n = 8 ∨ n = 16 ∨ n = 32 ∨ n = 64) : fnv_Bucket.f x n = some (x % n, 0) := by
  rcases h with rfl | rfl | rfl | rfl | rfl | rfl | rfl
  · exact bucket_pow x h0 h1 0 (by decide)
  · exact bucket_pow x h0 h1 1 (by decide)
  · exact bucket_pow x h0 h1 2 (by decide)
  · exact bucket_pow x h0 h1 3 (by decide)
  · exact bucket_pow x h0 h1 4 (by decide)
  · exact bucket_pow x h0 h1 5 (by decide)
  · exact bucket_pow x h0 h1 6 (by decide)

theorem FnvBuckets : tallboylaw04_FnvBuckets.Pure := by
  intro x n hx hn
  obtain ⟨h0, h1⟩ := bounds_u32 hx
  have hs : tallboyref04_Stripe.f x = some (x / 65536 % 4) := by
    unfold tallboyref04_Stripe.f
    have e : Int.tdiv x 65536 = x / 65536 := Int.tdiv_eq_ediv_of_nonneg h0
    rw [e]
    have : x / 65536 % 4294967296 = x / 65536 := by omega
    rw [this]
  refine ⟨9, ?_⟩
  unfold tallboylaw04_FnvBuckets.f
  by_cases h : n = 1 ∨ n = 2 ∨ n = 4 ∨ n = 8 ∨ n = 16 ∨ n = 32 ∨ n = 64
  · rw [bucket_yes x h0 (by omega) n h, refb_pow x h0 (by omega) n h 0, stripe_f x h0 (by omega), hs]
    simp
  · rw [bucket_no x n h, refb_no x n h 0, stripe_f x h0 (by omega), hs]
    simp

end Go.Proofs.Ytihoefnflbfebaa.Pure
