/- Proved: the number of two texts together is that of the second one behind the first one's, and behind an empty text a number is as it was. For texts up to 5000 bytes each, as the statement says. -/
import Derived.Test.YtihoefnflbfebaaPFnvPartsx1
import Derived.Test.YtihoefnflbfebaaBase
namespace Go.Proofs.Ytihoefnflbfebaa.Pure
open Go.RowKit Go.Proofs.Ytihoefnflbfebaa.PFnvParts Go.Proofs.YtihoefnflbfebaaW.PrintWords Go.Proofs.YtihoefnflbfebaaW.PrintLast Go.Proofs.Ytihoefnflbfebaa.Base
set_option linter.unusedVariables false
/-- the number of the d bytes from i on, behind a number -/
def fm (s : ByteArray) : Nat → Nat → Int → Int
  | _, 0, x => x
  | i, d + 1, x => fm s (i + 1) d (stp x (bt s i))
theorem more_l0 (s : ByteArray) (hs : s.size ≤ 140737488351232) (d : Nat) : ∀ (k i : Nat) (x : Int), i + d = s.size → d < k →
    fnv_More.l0 k x s (s.size : Int) (i : Int) = some (fm s i d x) := by
  induction d with
  | zero =>
    intro k i x h hk
    obtain ⟨k, rfl⟩ : ∃ m, k = m + 1 := ⟨k - 1, by omega⟩
    simp only [fnv_More.l0]; rw [if_neg (by omega)]; rfl
  | succ d ih =>
    intro k i x h hk
    obtain ⟨k, rfl⟩ : ∃ m, k = m + 1 := ⟨k - 1, by omega⟩
    simp only [fnv_More.l0]; rw [if_pos (by omega), if_pos (by omega), if_pos (by omega), wrap1 (by omega)]
    exact ih k (i + 1) _ (by omega) (by omega)
theorem more_f (s : ByteArray) (hs : s.size ≤ 140737488351232) (k : Nat) (hk : s.size < k) (x : Int) : fnv_More.f k x s = some (fm s 0 s.size x) := by
  unfold fnv_More.f
  exact more_l0 s hs s.size k 0 x (by omega) hk
theorem sum_f (s : ByteArray) (hs : s.size ≤ 140737488351232) (k : Nat) (hk : s.size < k) : fnv_Sum.f k s = some (fm s 0 s.size 2166136261) := by
  unfold fnv_Sum.f
  rw [more_f s hs k hk]; rfl
theorem fm_range (s : ByteArray) (d : Nat) : ∀ (i : Nat) (x : Int), 0 ≤ x → x < 4294967296 → 0 ≤ fm s i d x ∧ fm s i d x < 4294967296 := by
  induction d with
  | zero => intro i x h0 h1; exact ⟨h0, h1⟩
  | succ d ih => intro i x h0 h1; exact ih _ _ (stp_range _ _).1 (stp_range _ _).2
/-- are the d bytes from i on all of a key's? -/
def kb (s : ByteArray) : Nat → Nat → Bool
  | _, 0 => true
  | i, d + 1 => (decide (33 ≤ bt s i) && decide (bt s i ≤ 126)) && kb s (i + 1) d
theorem key_l0 (s : ByteArray) (hs : s.size ≤ 140737488351232) (d : Nat) : ∀ (k i : Nat), i + d = s.size → d < k →
    fnv_Key.l0 k s (s.size : Int) (i : Int) = some (kb s i d) := by
  induction d with
  | zero =>
    intro k i h hk
    obtain ⟨k, rfl⟩ : ∃ m, k = m + 1 := ⟨k - 1, by omega⟩
    simp only [fnv_Key.l0]; rw [if_neg (by omega)]; rfl
  | succ d ih =>
    intro k i h hk
    obtain ⟨k, rfl⟩ : ∃ m, k = m + 1 := ⟨k - 1, by omega⟩
    simp only [fnv_Key.l0]; rw [if_pos (by omega), if_pos (by omega), if_pos (by omega), wrap1 (by omega)]
    by_cases h1 : bt s i < 33
    · rw [if_pos h1]; simp only [kb]; rw [decide_eq_false (by omega)]; rfl
    · rw [if_neg h1]
      by_cases h2 : bt s i > 126
      · rw [if_pos h2]; simp only [kb]; rw [decide_eq_true (by omega), decide_eq_false (by omega)]; rfl
      · rw [if_neg h2, ih k (i + 1) (by omega) (by omega)]; simp only [kb]; rw [decide_eq_true (by omega), decide_eq_true (by omega)]; rfl
theorem toList_nil (s : ByteArray) : s.toList = ([] : List UInt8) ↔ s.size = 0 := by
  rw [ByteArray.toList_eq]
  constructor
  · intro h
    have := congrArg List.length h
    simpa using this
  · intro h
    apply List.eq_nil_of_length_eq_zero
    simpa using h
def keyB (s : ByteArray) : Bool := decide (1 ≤ s.size) && decide (s.size ≤ 32) && kb s 0 s.size
theorem key_f (s : ByteArray) (hs : s.size ≤ 140737488351232) (k : Nat) (hk : s.size + 1 < k) : fnv_Key.f k s = some (keyB s) := by
  obtain ⟨k, rfl⟩ : ∃ m, k = m + 1 := ⟨k - 1, by omega⟩
  unfold fnv_Key.f keyB
  by_cases h0 : s.size = 0
  · rw [if_pos ((toList_nil s).2 h0), decide_eq_false (show ¬ 1 ≤ s.size by omega)]; rfl
  · rw [if_neg (fun h => h0 ((toList_nil s).1 h)), decide_eq_true (show 1 ≤ s.size by omega)]
    by_cases h1 : s.size ≤ 32
    · rw [decide_eq_true h1, decide_eq_false (show ¬ ((s.size : Int) > 32) by omega)]
      simp only [fnv_Key.j0]
      rw [if_neg (by decide)]
      exact key_l0 s hs s.size k 0 (by omega) (by omega)
    · rw [decide_eq_false h1, decide_eq_true (show ((s.size : Int) > 32) by omega)]; rfl
theorem works_f (k : Nat) (hk : 10 < k) : tallboylaw04_works.f k = some true := by
  have k1 : keyB (⟨#[107, 101, 121]⟩ : ByteArray) = true := by decide +kernel
  have k2 : keyB (⟨#[97, 32, 98]⟩ : ByteArray) = false := by decide +kernel
  have k3 : keyB (⟨#[]⟩ : ByteArray) = false := by decide +kernel
  have s1 : fm (⟨#[]⟩ : ByteArray) 0 (⟨#[]⟩ : ByteArray).size 2166136261 = 2166136261 := by decide +kernel
  have s2 : fm (⟨#[97]⟩ : ByteArray) 0 (⟨#[97]⟩ : ByteArray).size 2166136261 = 3826002220 := by decide +kernel
  have b1 : fnv_Bucket.f 13 8 = some (5, 0) := by decide +kernel
  have b2 : fnv_Bucket.f 13 12 = some (0, 1) := by decide +kernel
  have t1 : fnv_Stripe.f 327680 = some 1 := by decide +kernel
  unfold tallboylaw04_works.f
  rw [b1, b2, t1, sum_f _ (by decide) k (by simp [ByteArray.size]; omega), sum_f _ (by decide) k (by simp [ByteArray.size]; omega), key_f _ (by decide) k (by simp [ByteArray.size]; omega), key_f _ (by decide) k (by simp [ByteArray.size]; omega), key_f _ (by decide) k (by simp [ByteArray.size]; omega), k1, k2, k3, s1, s2]
  rfl
theorem fm_app (s : ByteArray) (c d : Nat) : ∀ (i : Nat) (x : Int), fm s i (c + d) x = fm s (i + c) d (fm s i c x) := by
  induction c with
  | zero => intro i x; simp [fm]
  | succ c ih =>
    intro i x
    have e : c + 1 + d = (c + d) + 1 := by omega
    rw [e]; simp only [fm]; rw [ih]
    have e2 : i + 1 + c = i + (c + 1) := by omega
    rw [e2]
theorem fm_same (s t : ByteArray) (d : Nat) : ∀ (i j : Nat) (x : Int), (∀ m, m < d → bt s ((i + m : Nat) : Int) = bt t ((j + m : Nat) : Int)) → fm s i d x = fm t j d x := by
  induction d with
  | zero => intro i j x h; rfl
  | succ d ih =>
    intro i j x h
    have h0 := h 0 (by omega)
    simp only [Nat.add_zero] at h0
    simp only [fm]; rw [h0]
    refine ih _ _ _ fun m hm => ?_
    have := h (m + 1) (by omega)
    have e1 : i + (m + 1) = i + 1 + m := by omega
    have e2 : j + (m + 1) = j + 1 + m := by omega
    rw [e1, e2] at this
    exact this
theorem bt_left (a b : ByteArray) (m : Nat) (h : m < a.size) : bt (a ++ b) (m : Int) = bt a (m : Int) := by
  unfold bt
  have e : ((m : Nat) : Int).toNat = m := by omega
  rw [dif_pos (by rw [ByteArray.size_append]; omega), dif_pos (by omega)]
  simp only [e]
  rw [ByteArray.getElem_append_left h]
theorem bt_right (a b : ByteArray) (m : Nat) (h : m < b.size) : bt (a ++ b) ((a.size + m : Nat) : Int) = bt b (m : Int) := by
  unfold bt
  have e : ((a.size + m : Nat) : Int).toNat = a.size + m := by omega
  have e' : ((m : Nat) : Int).toNat = m := by omega
  rw [dif_pos (by rw [ByteArray.size_append]; omega), dif_pos (by omega)]
  simp only [e, e']
  rw [ByteArray.getElem_append_right (by omega)]
  simp
theorem fm_two (a b : ByteArray) (x : Int) : fm (a ++ b) 0 (a ++ b).size x = fm b 0 b.size (fm a 0 a.size x) := by
  rw [ByteArray.size_append, fm_app, Nat.zero_add, fm_same (a ++ b) a a.size 0 0 x (fun m hm => by rw [Nat.zero_add]; exact bt_left a b m hm)]
  exact fm_same (a ++ b) b b.size a.size 0 _ (fun m hm => by rw [Nat.zero_add]; exact bt_right a b m hm)

theorem FnvParts : tallboylaw04_FnvParts.Pure := by
  intro a b ha hb
  refine ⟨20000, ?_⟩
  unfold tallboylaw04_FnvParts.f
  rw [works_f _ (by decide)]
  simp only [Option.bind_some, if_true]
  by_cases h1 : (a.size : Int) > 5000
  · rw [if_pos h1]; rfl
  · rw [if_neg h1]
    by_cases h2 : (b.size : Int) > 5000
    · rw [decide_eq_true h2]; rfl
    · rw [decide_eq_false h2]
      simp only [tallboylaw04_FnvParts.j0]
      have hab : (a ++ b).size = a.size + b.size := ByteArray.size_append
      have z : fm (⟨#[]⟩ : ByteArray) 0 (⟨#[]⟩ : ByteArray).size 7 = 7 := by decide +kernel
      rw [if_neg (by decide), if_pos (by omega), sum_f _ (by omega) _ (by omega), sum_f _ ha _ (by omega)]
      simp only [Option.bind_some]
      rw [more_f b hb _ (by omega)]
      simp only [Option.bind_some]
      rw [fm_two, if_pos rfl, more_f _ (by decide) _ (by simp [ByteArray.size]), z]
      rfl

end Go.Proofs.Ytihoefnflbfebaa.Pure
