/- Proved: the number of any text, alone and behind any number, and whether it is a key, are those of the reference. For texts up to 10000 bytes, as the statement says. -/
import Derived.Test.YtihoefnflbfebaaPFnvSumsx1
import Derived.Test.YtihoefnflbfebaaBase
namespace Go.Proofs.Ytihoefnflbfebaa.Pure
open Go.RowKit Go.Proofs.Ytihoefnflbfebaa.PFnvSums Go.Proofs.YtihoefnflbfebaaW.PrintWords Go.Proofs.YtihoefnflbfebaaW.PrintLast Go.Proofs.Ytihoefnflbfebaa.Base
set_option linter.unusedVariables false
/-- the number of the d bytes from i on, behind a number -/
def fm (s : ByteArray) : Nat → Nat → Int → Int
  | _, 0, x => x
  | i, d + 1, x => fm s (i + 1) d (stp x (bt s i))
theorem more_l0 (s : ByteArray) (hs : s.size ≤ 140737488351232) (d : Nat) : ∀ (k i : Nat) (x : Int), i + d = s.size → d < k →
    fnv_More.l0 k x s (s.size : Int) (i : Int) = some (fm s i d x) := by
  induction d with
  | zero =>
    intro k i x h hk
    obtain ⟨k, rfl⟩ : ∃ m, k = m + 1 := ⟨k - 1, by omega⟩
    simp only [fnv_More.l0]; rw [if_neg (by omega)]; rfl
  | succ d ih =>
    intro k i x h hk
    obtain ⟨k, rfl⟩ : ∃ m, k = m + 1 := ⟨k - 1, by omega⟩
    simp only [fnv_More.l0]; rw [if_pos (by omega), if_pos (by omega), if_pos (by omega), wrap1 (by omega)]
    exact ih k (i + 1) _ (by omega) (by omega)
theorem more_f (s : ByteArray) (hs : s.size ≤ 140737488351232) (k : Nat) (hk : s.size < k) (x : Int) : fnv_More.f k x s = some (fm s 0 s.size x) := by
  unfold fnv_More.f
  exact more_l0 s hs s.size k 0 x (by omega) hk
theorem sum_f (s : ByteArray) (hs : s.size ≤ 140737488351232) (k : Nat) (hk : s.size < k) : fnv_Sum.f k s = some (fm s 0 s.size 2166136261) := by
  unfold fnv_Sum.f
  rw [more_f s hs k hk]; rfl
theorem fm_range (s : ByteArray) (d : Nat) : ∀ (i : Nat) (x : Int), 0 ≤ x → x < 4294967296 → 0 ≤ fm s i d x ∧ fm s i d x < 4294967296 := by
  induction d with
  | zero => intro i x h0 h1; exact ⟨h0, h1⟩
  | succ d ih => intro i x h0 h1; exact ih _ _ (stp_range _ _).1 (stp_range _ _).2
/-- are the d bytes from i on all of a key's? -/
def kb (s : ByteArray) : Nat → Nat → Bool
  | _, 0 => true
  | i, d + 1 => (decide (33 ≤ bt s i) && decide (bt s i ≤ 126)) && kb s (i + 1) d
theorem key_l0 (s : ByteArray) (hs : s.size ≤ 140737488351232) (d : Nat) : ∀ (k i : Nat), i + d = s.size → d < k →
    fnv_Key.l0 k s (s.size : Int) (i : Int) = some (kb s i d) := by
  induction d with
  | zero =>
    intro k i h hk
    obtain ⟨k, rfl⟩ : ∃ m, k = m + 1 := ⟨k - 1, by omega⟩
    simp only [fnv_Key.l0]; rw [if_neg (by omega)]; rfl
  | succ d ih =>
    intro k i h hk
    obtain ⟨k, rfl⟩ : ∃ m, k = m + 1 := ⟨k - 1, by omega⟩
    simp only [fnv_Key.l0]; rw [if_pos (by omega), if_pos (by omega), if_pos (by omega), wrap1 (by omega)]
    by_cases h1 : bt s i < 33
    · rw [if_pos h1]; simp only [kb]; rw [decide_eq_false (by omega)]; rfl
    · rw [if_neg h1]
      by_cases h2 : bt s i > 126
      · rw [if_pos h2]; simp only [kb]; rw [decide_eq_true (by omega), decide_eq_false (by omega)]; rfl
      · rw [if_neg h2, ih k (i + 1) (by omega) (by omega)]; simp only [kb]; rw [decide_eq_true (by omega), decide_eq_true (by omega)]; rfl
theorem toList_nil (s : ByteArray) : s.toList = ([] : List UInt8) ↔ s.size = 0 := by
  rw [ByteArray.toList_eq]
  constructor
  · intro h
    have := congrArg List.length h
    simpa using this
  · intro h
    apply List.eq_nil_of_length_eq_zero
    simpa using h
def keyB (s : ByteArray) : Bool := decide (1 ≤ s.size) && decide (s.size ≤ 32) && kb s 0 s.size
theorem key_f (s : ByteArray) (hs : s.size ≤ 140737488351232) (k : Nat) (hk : s.size + 1 < k) : fnv_Key.f k s = some (keyB s) := by
  obtain ⟨k, rfl⟩ : ∃ m, k = m + 1 := ⟨k - 1, by omega⟩
  unfold fnv_Key.f keyB
  by_cases h0 : s.size = 0
  · rw [if_pos ((toList_nil s).2 h0), decide_eq_false (show ¬ 1 ≤ s.size by omega)]; rfl
  · rw [if_neg (fun h => h0 ((toList_nil s).1 h)), decide_eq_true (show 1 ≤ s.size by omega)]
    by_cases h1 : s.size ≤ 32
    · rw [decide_eq_true h1, decide_eq_false (show ¬ ((s.size : Int) > 32) by omega)]
      simp only [fnv_Key.j0]
      rw [if_neg (by decide)]
      exact key_l0 s hs s.size k 0 (by omega) (by omega)
    · rw [decide_eq_false h1, decide_eq_true (show ((s.size : Int) > 32) by omega)]; rfl
theorem refstep (x c : Int) : (Int.tmod (IntKind.u64.wrap ((IntKind.u64.wrap (Go.bits .xor .u32 x (c % 4294967296))) * 16777619)) 4294967296) % 4294967296 = stp x c := by
  have hb : 0 ≤ Go.bits .xor .u32 x (c % 4294967296) ∧ Go.bits .xor .u32 x (c % 4294967296) < 4294967296 := by
    unfold Go.bits
    rw [IntKind.wrap_u32]
    omega
  unfold stp
  generalize Go.bits .xor .u32 x (c % 4294967296) = b at hb
  have w : ∀ n : Int, 0 ≤ n → n < 18446744073709551616 → IntKind.u64.wrap n = n := by
    intro n h0 h1
    have : IntKind.u64.wrap n = n % 18446744073709551616 := by simp [IntKind.wrap, IntKind.bits, IntKind.signed]
    omega
  rw [w b (by omega) (by omega), w (b * 16777619) (by omega) (by omega), Int.tmod_eq_emod_of_nonneg (by omega)]
  omega
theorem refmore_l0 (s : ByteArray) (hs : s.size ≤ 140737488351232) (d : Nat) : ∀ (k i : Nat) (x : Int), i + d = s.size → d < k →
    tallboyref04_More.l0 k x s (i : Int) = some (fm s i d x) := by
  induction d with
  | zero =>
    intro k i x h hk
    obtain ⟨k, rfl⟩ : ∃ m, k = m + 1 := ⟨k - 1, by omega⟩
    simp only [tallboyref04_More.l0]; rw [if_neg (by omega)]; rfl
  | succ d ih =>
    intro k i x h hk
    obtain ⟨k, rfl⟩ : ∃ m, k = m + 1 := ⟨k - 1, by omega⟩
    simp only [tallboyref04_More.l0]; rw [if_pos (by omega), if_pos (by omega), refstep, wrap1 (by omega)]
    exact ih k (i + 1) _ (by omega) (by omega)
theorem refmore_f (s : ByteArray) (hs : s.size ≤ 140737488351232) (k : Nat) (hk : s.size < k) (x : Int) : tallboyref04_More.f k x s = some (fm s 0 s.size x) := by
  unfold tallboyref04_More.f
  exact refmore_l0 s hs s.size k 0 x (by omega) hk
theorem refsum_f (s : ByteArray) (hs : s.size ≤ 140737488351232) (k : Nat) (hk : s.size < k) : tallboyref04_Sum.f k s = some (fm s 0 s.size 2166136261) := by
  unfold tallboyref04_Sum.f
  rw [refmore_f s hs k hk]; rfl
theorem refkey_l0 (s : ByteArray) (hs : s.size ≤ 140737488351232) (d : Nat) : ∀ (k i : Nat) (ok : Bool), i + d = s.size → d < k →
    tallboyref04_Key.l0 k s ok (i : Int) = some (ok && kb s i d) := by
  induction d with
  | zero =>
    intro k i ok h hk
    obtain ⟨k, rfl⟩ : ∃ m, k = m + 1 := ⟨k - 1, by omega⟩
    simp only [tallboyref04_Key.l0]; rw [if_neg (by omega)]; simp [kb]
  | succ d ih =>
    intro k i ok h hk
    obtain ⟨k, rfl⟩ : ∃ m, k = m + 1 := ⟨k - 1, by omega⟩
    simp only [tallboyref04_Key.l0]; rw [if_pos (by omega)]
    cases ok with
    | false => simp
    | true =>
      rw [if_pos rfl, if_pos (by omega), wrap1 (by omega)]
      by_cases h1 : bt s i ≥ 33
      · rw [if_pos h1, ih k (i + 1) _ (by omega) (by omega)]; simp only [kb]; rw [decide_eq_true (show 33 ≤ bt s i by omega)]; simp
      · rw [if_neg h1, ih k (i + 1) _ (by omega) (by omega)]; simp only [kb]; rw [decide_eq_false (show ¬ 33 ≤ bt s i by omega)]; rfl
theorem refkey_f (s : ByteArray) (hs : s.size ≤ 140737488351232) (k : Nat) (hk : s.size + 1 < k) : tallboyref04_Key.f k s = some (keyB s) := by
  obtain ⟨k, rfl⟩ : ∃ m, k = m + 1 := ⟨k - 1, by omega⟩
  unfold tallboyref04_Key.f keyB
  by_cases h0 : s.size = 0
  · rw [if_neg (by omega), decide_eq_false (show ¬ 1 ≤ s.size by omega)]
    simp only [tallboyref04_Key.j0]
    exact refkey_l0 s hs s.size k 0 false (by omega) (by omega)
  · rw [if_pos (by omega), decide_eq_true (show 1 ≤ s.size by omega)]
    have e : decide ((s.size : Int) ≤ 32) = decide (s.size ≤ 32) := by
      by_cases h1 : s.size ≤ 32
      · rw [decide_eq_true h1, decide_eq_true (show (s.size : Int) ≤ 32 by omega)]
      · rw [decide_eq_false h1, decide_eq_false (show ¬ (s.size : Int) ≤ 32 by omega)]
    rw [e]
    simp only [tallboyref04_Key.j0]
    have := refkey_l0 s hs s.size k 0 (decide (s.size ≤ 32)) (by omega) (by omega)
    rw [Bool.true_and]
    exact this

theorem FnvSums : tallboylaw04_FnvSums.Pure := by
  intro s x hs hx
  refine ⟨20000, ?_⟩
  unfold tallboylaw04_FnvSums.f
  by_cases h : (s.size : Int) > 10000
  · rw [if_pos h]
  · rw [if_neg h, sum_f s hs _ (by omega), refsum_f s hs _ (by omega)]
    simp only [Option.bind_some, if_true]
    rw [more_f s hs _ (by omega), refmore_f s hs _ (by omega)]
    simp only [Option.bind_some, if_true]
    rw [key_f s hs _ (by omega), refkey_f s hs _ (by omega)]
    simp

end Go.Proofs.Ytihoefnflbfebaa.Pure
