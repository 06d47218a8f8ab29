/- Proved: any number in any number of bits, with a sign and without, is what the reference says, or refused as there. For all numbers. -/
import Derived.Test.YtbdfdnlhoomhaaaPIntsSizesx1
import Derived.Test.YtbdfdnlhoomhaaaBase
namespace Go.Proofs.Ytbdfdnlhoomhaaa.Pure
open Go.RowKit Go.Proofs.Ytbdfdnlhoomhaaa.PIntsSizes Go.Proofs.YtbdfdnlhoomhaaaW.PrintWords Go.Proofs.YtbdfdnlhoomhaaaW.PrintLast Go.Proofs.YtbdfdnlhoomhaaaW.PrintMore Go.Proofs.Ytbdfdnlhoomhaaa.Base
set_option linter.unusedVariables false
theorem w64 (x : Int) (h : -9223372036854775808 ≤ x ∧ x < 9223372036854775808) : wrap64 x = x := by unfold wrap64; omega
theorem shl_u64 (v m : Int) (h0 : 0 ≤ m) (h1 : m ≤ 64) : shl .u64 v m = v * 2 ^ m.toNat % 18446744073709551616 := by
  unfold shl
  rw [u64_wrap, Nat.min_eq_left (by simp only [IntKind.bits]; omega)]
theorem shr_at (k : IntKind) (v m : Int) (h0 : 0 ≤ m) (h1 : m ≤ k.bits) : shr k v m = v / 2 ^ m.toNat := by
  unfold shr
  rw [Nat.min_eq_left (by omega)]
theorem size_f (n : Int) : ints_size.f n = some (decide (1 ≤ n ∧ n ≤ 64)) := by
  unfold ints_size.f
  by_cases h : n ≥ 1
  · rw [if_pos h]
    by_cases h2 : n ≤ 64
    · rw [decide_eq_true h2, decide_eq_true (show 1 ≤ n ∧ n ≤ 64 from ⟨h, h2⟩)]
    · rw [decide_eq_false h2, decide_eq_false (show ¬ (1 ≤ n ∧ n ≤ 64) by omega)]
  · rw [if_neg h, decide_eq_false (show ¬ (1 ≤ n ∧ n ≤ 64) by omega)]
theorem wrap_f (v n : Int) (h1 : 1 ≤ n) (h2 : n ≤ 64) : ints_Wrap.f v n = some (wr v n, 0) := by
  unfold ints_Wrap.f
  rw [size_f, decide_eq_true ⟨h1, h2⟩]
  simp only [Option.bind_some, if_true]
  rw [w64 (64 - n) (by omega), if_pos (by omega), shr_at _ _ _ (by omega) (by simp only [IntKind.bits]; omega), shl_u64 _ _ (by omega) (by omega), wr_div v n h1 h2]
theorem wrap_no (v n : Int) (h : ¬ (1 ≤ n ∧ n ≤ 64)) : ints_Wrap.f v n = some (0, 1) := by
  unfold ints_Wrap.f
  rw [size_f, decide_eq_false h]; rfl
theorem sign_f (v n : Int) (h1 : 1 ≤ n) (h2 : n ≤ 64) : ints_Sign.f v n = some (sg v n, 0) := by
  unfold ints_Sign.f
  rw [size_f, decide_eq_true ⟨h1, h2⟩]
  simp only [Option.bind_some, if_true]
  rw [w64 (64 - n) (by omega), if_pos (by omega), shr_at _ _ _ (by omega) (by simp only [IntKind.bits]; omega), shl_u64 _ _ (by omega) (by omega), sg_div v n h1 h2]
theorem sign_no (v n : Int) (h : ¬ (1 ≤ n ∧ n ≤ 64)) : ints_Sign.f v n = some (0, 1) := by
  unfold ints_Sign.f
  rw [size_f, decide_eq_false h]; rfl
/-- does a number with a sign fit so many bits? -/
def fits (x n : Int) : Prop := -(2 ^ (n.toNat - 1)) ≤ x ∧ x < 2 ^ (n.toNat - 1)
theorem bits_f (x n : Int) (h1 : 1 ≤ n) (h2 : n ≤ 64) (hx : fits x n) : ints_Bits.f x n = some (wr x n, 0) := by
  unfold ints_Bits.f
  rw [sign_f _ n h1 h2, wrap_f _ n h1 h2, u64_wrap, sg_u64 x n h1 h2, wr_u64 x n h1 h2, sg_in x n h1 h2 hx]
  simp
theorem bits_far (x n : Int) (h1 : 1 ≤ n) (h2 : n ≤ 64) (hx : ¬ fits x n) : ints_Bits.f x n = some (0, 6) := by
  unfold ints_Bits.f
  rw [sign_f _ n h1 h2, u64_wrap, sg_u64 x n h1 h2]
  have : ¬ sg x n = x := fun h => hx (by have := sg_range x n h1 h2; unfold fits; rw [h] at this; exact this)
  simp only [Option.bind_some, if_true]
  rw [if_neg this]
theorem bits_no (x n : Int) (h : ¬ (1 ≤ n ∧ n ≤ 64)) : ints_Bits.f x n = some (0, 1) := by
  unfold ints_Bits.f
  rw [sign_no _ n h]; rfl
/-- a number's remainder by sixty-four, and one -/
theorem mod64 (a : Int) : ∃ r : Int, 0 ≤ r ∧ r < 64 ∧ wrap64 (Int.tmod (IntKind.u64.wrap a) 64) = r := by
  rw [u64_wrap]
  have h := Int.emod_nonneg a (show (18446744073709551616 : Int) ≠ 0 by decide)
  generalize a % 18446744073709551616 = x at h
  rw [Int.tmod_eq_emod_of_nonneg h]
  refine ⟨x % 64, by omega, by omega, ?_⟩
  rw [w64 _ (by omega)]
theorem one_mod64 (a : Int) : ∃ n : Int, 1 ≤ n ∧ n ≤ 64 ∧ wrap64 (1 + wrap64 (Int.tmod (IntKind.u64.wrap a) 64)) = n := by
  obtain ⟨r, r0, r1, e⟩ := mod64 a
  exact ⟨1 + r, by omega, by omega, by rw [e, w64 _ (by omega)]⟩
theorem refwrap_no (v n : Int) (h : ¬ (1 ≤ n ∧ n ≤ 64)) (k : Nat) : tallboyref01_Wrap.f (k + 1) v n = some (0, 1) := by
  unfold tallboyref01_Wrap.f
  by_cases h1 : n < 1
  · rw [if_pos h1]; rfl
  · rw [if_neg h1, decide_eq_true (show n > 64 by omega)]; rfl
theorem refwrap_f (v n : Int) (v0 : 0 ≤ v) (v1 : v < 18446744073709551616) (h1 : 1 ≤ n) (h2 : n ≤ 64) (k : Nat) : tallboyref01_Wrap.f (k + 1) v n = some (wr v n, 0) := by
  unfold tallboyref01_Wrap.f
  rw [if_neg (by omega), decide_eq_false (by omega)]
  simp only [tallboyref01_Wrap.j0]
  rw [if_neg (by decide)]
  obtain ⟨H, Q, eH, eP, eQ, e, a, b, c, d⟩ := pows n h1 h2
  by_cases hn : n = 64
  · subst hn
    rw [if_pos rfl]
    have : wr v 64 = v := by unfold wr; exact Int.emod_eq_of_lt v0 (by have h64 : (2 : Int) ^ (64 : Int).toNat = 18446744073709551616 := (by decide +kernel); rw [h64]; exact v1)
    rw [this]
  · rw [if_neg hn, if_pos (by omega), shl_u64 _ _ (by omega) (by omega), eP]
    have d' := d (by omega)
    have : 1 * (2 * H) % 18446744073709551616 = 2 * H := by omega
    rw [this, if_neg (by omega), Int.tmod_eq_emod_of_nonneg v0]
    unfold wr
    rw [eP]
theorem refsign_no (v n : Int) (h : ¬ (1 ≤ n ∧ n ≤ 64)) (k : Nat) : tallboyref01_Sign.f (k + 1) v n = some (0, 1) := by
  unfold tallboyref01_Sign.f
  rw [refwrap_no v n h k]; rfl
theorem refsign_f (v n : Int) (v0 : 0 ≤ v) (v1 : v < 18446744073709551616) (h1 : 1 ≤ n) (h2 : n ≤ 64) (k : Nat) : tallboyref01_Sign.f (k + 1) v n = some (sg v n, 0) := by
  unfold tallboyref01_Sign.f
  rw [refwrap_f v n v0 v1 h1 h2 k]
  simp only [Option.bind_some, if_true]
  obtain ⟨H, Q, eH, eP, eQ, e, a, b, c, d⟩ := pows n h1 h2
  have t : (n - 1).toNat = n.toNat - 1 := by omega
  rw [w64 (n - 1) (by omega), if_pos (by omega), shl_u64 _ _ (by omega) (by omega), t, eH]
  have : 1 * H % 18446744073709551616 = H := by omega
  rw [this]
  unfold sg wr
  rw [eP, eH]
  have r0 := Int.emod_nonneg v (show 2 * H ≠ 0 by omega)
  have r1 := Int.emod_lt_of_pos v (show 0 < 2 * H by omega)
  generalize v % (2 * H) = w at r0 r1
  by_cases hw : w < H
  · rw [if_pos hw, if_pos hw, w64 _ (by omega)]
  · rw [if_neg hw, if_neg hw, u64_wrap, u64_wrap, Int.emod_eq_of_lt (a := w - H) (by omega) (by omega), Int.emod_eq_of_lt (a := H - 1) (by omega) (by omega), w64 (w - H) (by omega), w64 (H - 1) (by omega), w64 (w - H - 1) (by omega), w64 _ (by omega)]
    have : w - H - 1 - (H - 1) = w - 2 * H := by omega
    rw [this]
theorem refbits_no (x n : Int) (h : ¬ (1 ≤ n ∧ n ≤ 64)) (k : Nat) : tallboyref01_Bits.f (k + 1) x n = some (0, 1) := by
  unfold tallboyref01_Bits.f
  by_cases h1 : n < 1
  · rw [if_pos h1]; rfl
  · rw [if_neg h1, decide_eq_true (show n > 64 by omega)]; rfl
theorem refbits_open (x n : Int) (h1 : 1 ≤ n) (h2 : n ≤ 64) (hx : -9223372036854775808 ≤ x ∧ x < 9223372036854775808) (k : Nat) :
    tallboyref01_Bits.f (k + 2) x n = if x > 2 ^ (n.toNat - 1) - 1 then some (0, 6) else if x < -(2 ^ (n.toNat - 1)) then some (0, 6) else some (wr x n, 0) := by
  unfold tallboyref01_Bits.f
  rw [if_neg (by omega), decide_eq_false (by omega)]
  simp only [tallboyref01_Bits.j0]
  obtain ⟨H, Q, eH, eP, eQ, e, a, b, c, d⟩ := pows n h1 h2
  have t : (n - 1).toNat = n.toNat - 1 := by omega
  rw [if_neg (by decide), w64 (n - 1) (by omega), if_pos (by omega), shl_u64 _ _ (by omega) (by omega), t, eH]
  have : 1 * H % 18446744073709551616 = H := by omega
  rw [this, u64_wrap, u64_wrap, Int.emod_eq_of_lt (a := H - 1) (by omega) (by omega), w64 (H - 1) (by omega), w64 (-(H - 1)) (by omega), w64 (-(H - 1) - 1) (by omega)]
  rw [refwrap_f _ n (by omega) (by omega) h1 h2 k, wr_u64 x n h1 h2]
  have : -(H - 1) - 1 = -H := by omega
  rw [this]; rfl

theorem IntsSizes : tallboylaw01_IntsSizes.Pure := by
  intro v n hv hn
  obtain ⟨v0, v1⟩ := bounds_u64 hv
  refine ⟨2, ?_⟩
  unfold tallboylaw01_IntsSizes.f
  by_cases h : 1 ≤ n ∧ n ≤ 64
  · obtain ⟨h1, h2⟩ := h
    have hx : -9223372036854775808 ≤ wrap64 v ∧ wrap64 v < 9223372036854775808 := by unfold wrap64; omega
    rw [wrap_f v n h1 h2, refwrap_f v n v0 (by omega) h1 h2 1, sign_f v n h1 h2, refsign_f v n v0 (by omega) h1 h2 1, refbits_open _ n h1 h2 hx 0]
    generalize wrap64 v = x at hx
    by_cases hf : fits x n
    · rw [bits_f x n h1 h2 hf, if_neg (by unfold fits at hf; omega), if_neg (by unfold fits at hf; omega)]; simp
    · rw [bits_far x n h1 h2 hf]
      unfold fits at hf
      by_cases hg : x > 2 ^ (n.toNat - 1) - 1
      · rw [if_pos hg]; simp
      · rw [if_neg hg, if_pos (by omega)]; simp
  · rw [wrap_no v n h, refwrap_no v n h 1, sign_no v n h, refsign_no v n h 1, bits_no _ n h, refbits_no _ n h 1]; simp

end Go.Proofs.Ytbdfdnlhoomhaaa.Pure
