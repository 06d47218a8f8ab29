/- Proved: a text is a key just if its two parts are, and it is not too long. For texts of 2 to 1000 bytes, as the statement says. -/
import Derived.Test.YtihoefnflbfebaaPFnvKeysx1
import Derived.Test.YtihoefnflbfebaaBase
namespace Go.Proofs.Ytihoefnflbfebaa.Pure
open Go.RowKit Go.Proofs.Ytihoefnflbfebaa.PFnvKeys Go.Proofs.YtihoefnflbfebaaW.PrintWords Go.Proofs.YtihoefnflbfebaaW.PrintLast Go.Proofs.YtihoefnflbfebaaW.PrintMore Go.Proofs.Ytihoefnflbfebaa.Base
set_option linter.unusedVariables false
/-- the number of the d bytes from i on, behind a number -/
def fm (s : ByteArray) : Nat → Nat → Int → Int
  | _, 0, x => x
  | i, d + 1, x => fm s (i + 1) d (stp x (bt s i))
theorem more_l0 (s : ByteArray) (hs : s.size ≤ 140737488351232) (d : Nat) : ∀ (k i : Nat) (x : Int), i + d = s.size → d < k →
    fnv_More.l0 k x s (s.size : Int) (i : Int) = some (fm s i d x) := by
  induction d with
  | zero =>
    intro k i x h hk
    obtain ⟨k, rfl⟩ : ∃ m, k = m + 1 := ⟨k - 1, by omega⟩
    simp only [fnv_More.l0]; rw [if_neg (by omega)]; rfl
  | succ d ih =>
    intro k i x h hk
    obtain ⟨k, rfl⟩ : ∃ m, k = m + 1 := ⟨k - 1, by omega⟩
    simp only [fnv_More.l0]; rw [if_pos (by omega), if_pos (by omega), if_pos (by omega), wrap1 (by omega)]
    exact ih k (i + 1) _ (by omega) (by omega)
theorem more_f (s : ByteArray) (hs : s.size ≤ 140737488351232) (k : Nat) (hk : s.size < k) (x : Int) : fnv_More.f k x s = some (fm s 0 s.size x) := by
  unfold fnv_More.f
  exact more_l0 s hs s.size k 0 x (by omega) hk
theorem sum_f (s : ByteArray) (hs : s.size ≤ 140737488351232) (k : Nat) (hk : s.size < k) : fnv_Sum.f k s = some (fm s 0 s.size 2166136261) := by
  unfold fnv_Sum.f
  rw [more_f s hs k hk]; rfl
theorem fm_range (s : ByteArray) (d : Nat) : ∀ (i : Nat) (x : Int), 0 ≤ x → x < 4294967296 → 0 ≤ fm s i d x ∧ fm s i d x < 4294967296 := by
  induction d with
  | zero => intro i x h0 h1; exact ⟨h0, h1⟩
  | succ d ih => intro i x h0 h1; exact ih _ _ (stp_range _ _).1 (stp_range _ _).2
/-- are the d bytes from i on all of a key's? -/
def kb (s : ByteArray) : Nat → Nat → Bool
  | _, 0 => true
  | i, d + 1 => (decide (33 ≤ bt s i) && decide (bt s i ≤ 126)) && kb s (i + 1) d
theorem key_l0 (s : ByteArray) (hs : s.size ≤ 140737488351232) (d : Nat) : ∀ (k i : Nat), i + d = s.size → d < k →
    fnv_Key.l0 k s (s.size : Int) (i : Int) = some (kb s i d) := by
  induction d with
  | zero =>
    intro k i h hk
    obtain ⟨k, rfl⟩ : ∃ m, k = m + 1 := ⟨k - 1, by omega⟩
    simp only [fnv_Key.l0]; rw [if_neg (by omega)]; rfl
  | succ d ih =>
    intro k i h hk
    obtain ⟨k, rfl⟩ : ∃ m, k = m + 1 := ⟨k - 1, by omega⟩
    simp only [fnv_Key.l0]; rw [if_pos (by omega), if_pos (by omega), if_pos (by omega), wrap1 (by omega)]
    by_cases h1 : bt s i < 33
    · rw [if_pos h1]; simp only [kb]; rw [decide_eq_false (by omega)]; rfl
    · rw [if_neg h1]
      by_cases h2 : bt s i > 126
      · rw [if_pos h2]; simp only [kb]; rw [decide_eq_true (by omega), decide_eq_false (by omega)]; rfl
      · rw [if_neg h2, ih k (i + 1) (by omega) (by omega)]; simp only [kb]; rw [decide_eq_true (by omega), decide_eq_true (by omega)]; rfl
theorem toList_nil (s : ByteArray) : s.toList = ([] : List UInt8) ↔ s.size = 0 := by
  rw [ByteArray.toList_eq]
  constructor
  · intro h
    have := congrArg List.length h
    simpa using this
  · intro h
    apply List.eq_nil_of_length_eq_zero
    simpa using h
def keyB (s : ByteArray) : Bool := decide (1 ≤ s.size) && decide (s.size ≤ 32) && kb s 0 s.size
theorem key_f (s : ByteArray) (hs : s.size ≤ 140737488351232) (k : Nat) (hk : s.size + 1 < k) : fnv_Key.f k s = some (keyB s) := by
  obtain ⟨k, rfl⟩ : ∃ m, k = m + 1 := ⟨k - 1, by omega⟩
  unfold fnv_Key.f keyB
  by_cases h0 : s.size = 0
  · rw [if_pos ((toList_nil s).2 h0), decide_eq_false (show ¬ 1 ≤ s.size by omega)]; rfl
  · rw [if_neg (fun h => h0 ((toList_nil s).1 h)), decide_eq_true (show 1 ≤ s.size by omega)]
    by_cases h1 : s.size ≤ 32
    · rw [decide_eq_true h1, decide_eq_false (show ¬ ((s.size : Int) > 32) by omega)]
      simp only [fnv_Key.j0]
      rw [if_neg (by decide)]
      exact key_l0 s hs s.size k 0 (by omega) (by omega)
    · rw [decide_eq_false h1, decide_eq_true (show ((s.size : Int) > 32) by omega)]; rfl
theorem works_f (k : Nat) (hk : 10 < k) : tallboylaw04_works.f k = some true := by
  have k1 : keyB (⟨#[107, 101, 121]⟩ : ByteArray) = true := by decide +kernel
  have k2 : keyB (⟨#[97, 32, 98]⟩ : ByteArray) = false := by decide +kernel
  have k3 : keyB (⟨#[]⟩ : ByteArray) = false := by decide +kernel
  have s1 : fm (⟨#[]⟩ : ByteArray) 0 (⟨#[]⟩ : ByteArray).size 2166136261 = 2166136261 := by decide +kernel
  have s2 : fm (⟨#[97]⟩ : ByteArray) 0 (⟨#[97]⟩ : ByteArray).size 2166136261 = 3826002220 := by decide +kernel
  have b1 : fnv_Bucket.f 13 8 = some (5, 0) := by decide +kernel
  have b2 : fnv_Bucket.f 13 12 = some (0, 1) := by decide +kernel
  have t1 : fnv_Stripe.f 327680 = some 1 := by decide +kernel
  unfold tallboylaw04_works.f
  rw [b1, b2, t1, sum_f _ (by decide) k (by simp [ByteArray.size]; omega), sum_f _ (by decide) k (by simp [ByteArray.size]; omega), key_f _ (by decide) k (by simp [ByteArray.size]; omega), key_f _ (by decide) k (by simp [ByteArray.size]; omega), key_f _ (by decide) k (by simp [ByteArray.size]; omega), k1, k2, k3, s1, s2]
  rfl
theorem u64_wrap (n : Int) : IntKind.u64.wrap n = n % 18446744073709551616 := by simp [IntKind.wrap, IntKind.bits, IntKind.signed]
theorem tmod_small (a : Int) (m : Nat) (hm : 0 < m) : ∃ j : Nat, j < m ∧ Int.tmod (IntKind.u64.wrap a) (m : Int) = (j : Int) := by
  rw [u64_wrap]
  have h := Int.emod_nonneg a (show (18446744073709551616 : Int) ≠ 0 by decide)
  generalize a % 18446744073709551616 = r at h
  rw [Int.tmod_eq_emod_of_nonneg h]
  refine ⟨(r % m).toNat, ?_, ?_⟩
  · have := Int.emod_lt_of_pos r (show (0 : Int) < (m : Int) by omega)
    have := Int.emod_nonneg r (show (m : Int) ≠ 0 by omega)
    omega
  · have := Int.emod_nonneg r (show (m : Int) ≠ 0 by omega)
    omega
theorem shl_one (j : Nat) (hj : j ≤ 6) : shl .i64 1 (j : Int) = (2 : Int) ^ j := by
  have : j = 0 ∨ j = 1 ∨ j = 2 ∨ j = 3 ∨ j = 4 ∨ j = 5 ∨ j = 6 := by omega
  rcases this with rfl | rfl | rfl | rfl | rfl | rfl | rfl <;> decide +kernel
theorem kb_app (s : ByteArray) (c d : Nat) : ∀ i, kb s i (c + d) = (kb s i c && kb s (i + c) d) := by
  induction c with
  | zero => intro i; simp [kb]
  | succ c ih =>
    intro i
    have e : c + 1 + d = (c + d) + 1 := by omega
    rw [e]; simp only [kb]; rw [ih]
    have e2 : i + 1 + c = i + (c + 1) := by omega
    rw [e2]; simp only [Bool.and_assoc]
theorem kb_same (s t : ByteArray) (d : Nat) : ∀ (i j : Nat), (∀ m, m < d → bt s ((i + m : Nat) : Int) = bt t ((j + m : Nat) : Int)) → kb s i d = kb t j d := by
  induction d with
  | zero => intro i j h; rfl
  | succ d ih =>
    intro i j h
    have h0 := h 0 (by omega)
    simp only [Nat.add_zero] at h0
    simp only [kb]; rw [h0]
    rw [ih (i + 1) (j + 1) fun m hm => ?_]
    have := h (m + 1) (by omega)
    have e1 : i + (m + 1) = i + 1 + m := by omega
    have e2 : j + (m + 1) = j + 1 + m := by omega
    rw [e1, e2] at this
    exact this
theorem bt_extract (s : ByteArray) (a b m : Nat) (hb : b ≤ s.size) (h : a + m < b) : bt (s.extract a b) (m : Int) = bt s ((a + m : Nat) : Int) := by
  unfold bt
  have e : ((a + m : Nat) : Int).toNat = a + m := by omega
  have e' : ((m : Nat) : Int).toNat = m := by omega
  have hz : (s.extract a b).size = b - a := by rw [ByteArray.size_extract]; omega
  rw [dif_pos (by omega), dif_pos (by omega)]
  simp only [e, e']
  rw [ByteArray.getElem_extract]
theorem key_two (s : ByteArray) (c : Nat) (h1 : 1 ≤ c) (h2 : c < s.size) (h3 : s.size ≤ 32) : keyB s = (keyB (s.extract 0 c) && keyB (s.extract c s.size)) := by
  unfold keyB
  have z1 : (s.extract 0 c).size = c := by rw [ByteArray.size_extract]; omega
  have z2 : (s.extract c s.size).size = s.size - c := by rw [ByteArray.size_extract]; omega
  rw [z1, z2, decide_eq_true (show 1 ≤ s.size by omega), decide_eq_true h3, decide_eq_true h1, decide_eq_true (show c ≤ 32 by omega), decide_eq_true (show 1 ≤ s.size - c by omega), decide_eq_true (show s.size - c ≤ 32 by omega)]
  simp only [Bool.true_and]
  rw [kb_same (s.extract 0 c) s c 0 0 (fun m hm => by rw [Nat.zero_add]; have := bt_extract s 0 c m (by omega) (by omega); rwa [Nat.zero_add] at this),
    kb_same (s.extract c s.size) s (s.size - c) 0 c (fun m hm => by rw [Nat.zero_add]; exact bt_extract s c s.size m (by omega) (by omega))]
  have := kb_app s c (s.size - c) 0
  rw [Nat.zero_add] at this
  rw [← this]
  have e : c + (s.size - c) = s.size := by omega
  rw [e]
theorem FnvKeys : tallboylaw04_FnvKeys.Pure := by
  intro s n hs hn
  refine ⟨20000, ?_⟩
  unfold tallboylaw04_FnvKeys.f
  rw [works_f _ (by decide)]
  simp only [Option.bind_some, if_true]
  by_cases h1 : (s.size : Int) < 2
  · rw [if_pos h1]; rfl
  · rw [if_neg h1]
    by_cases h2 : (s.size : Int) > 1000
    · rw [decide_eq_true h2]; rfl
    · rw [decide_eq_false h2]
      simp only [tallboylaw04_FnvKeys.j0]
      obtain ⟨r, hr, er⟩ := tmod_small n (s.size - 1) (by omega)
      have eu : IntKind.u64.wrap (wrap64 ((s.size : Int) - 1)) = ((s.size - 1 : Nat) : Int) := by
        have : wrap64 ((s.size : Int) - 1) = ((s.size - 1 : Nat) : Int) := by unfold wrap64; omega
        rw [this, u64_wrap]; omega
      have ew : wrap64 (1 + wrap64 (r : Int)) = ((r + 1 : Nat) : Int) := by unfold wrap64; omega
      rw [eu, er, ew]
      have et : (((r + 1 : Nat) : Int)).toNat = r + 1 := by omega
      rw [et]
      have z1 : (s.extract 0 (r + 1)).size = r + 1 := by rw [ByteArray.size_extract]; omega
      have z2 : (s.extract (r + 1) s.size).size = s.size - (r + 1) := by rw [ByteArray.size_extract]; omega
      rw [if_neg (by decide), if_neg (by omega), if_pos (by omega), if_pos (by omega), key_f _ (by omega) _ (by omega), key_f _ (by omega) _ (by omega), key_f _ (by omega) _ (by omega)]
      simp only [Option.bind_some]
      by_cases h3 : (s.size : Int) > 32
      · rw [if_pos h3]
        unfold keyB
        rw [decide_eq_false (show ¬ s.size ≤ 32 by omega)]
        simp
      · rw [if_neg h3, key_two s (r + 1) (by omega) (by omega) (by omega)]
        cases keyB (s.extract 0 (r + 1)) <;> cases keyB (s.extract (r + 1) s.size) <;> rfl

end Go.Proofs.Ytihoefnflbfebaa.Pure
