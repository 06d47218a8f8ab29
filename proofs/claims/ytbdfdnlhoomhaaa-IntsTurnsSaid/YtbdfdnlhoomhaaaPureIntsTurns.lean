/- Proved: any number turned, made narrow, and shifted, is what the reference says. For all numbers. -/
import Derived.Test.YtbdfdnlhoomhaaaPIntsTurnsx2
import Derived.Test.YtbdfdnlhoomhaaaBase2
namespace Go.Proofs.Ytbdfdnlhoomhaaa.Pure
open Go.RowKit Go.Proofs.Ytbdfdnlhoomhaaa.PIntsTurns Go.Proofs.YtbdfdnlhoomhaaaW.PrintWords Go.Proofs.YtbdfdnlhoomhaaaW.PrintLast Go.Proofs.YtbdfdnlhoomhaaaW.PrintMore Go.Proofs.Ytbdfdnlhoomhaaa.Base
set_option linter.unusedVariables false
theorem w64 (x : Int) (h : -9223372036854775808 ≤ x ∧ x < 9223372036854775808) : wrap64 x = x := by unfold wrap64; omega
theorem shl_u64 (v m : Int) (h0 : 0 ≤ m) (h1 : m ≤ 64) : shl .u64 v m = v * 2 ^ m.toNat % 18446744073709551616 := by
  unfold shl
  rw [u64_wrap, Nat.min_eq_left (by simp only [IntKind.bits]; omega)]
theorem shr_at (k : IntKind) (v m : Int) (h0 : 0 ≤ m) (h1 : m ≤ k.bits) : shr k v m = v / 2 ^ m.toNat := by
  unfold shr
  rw [Nat.min_eq_left (by omega)]
theorem shift_l (k : Nat) (v m : Int) (h : 0 ≤ m) : ints_Shift.f (k + 1) v m = some (lft v m.toNat) := by
  unfold ints_Shift.f
  by_cases h1 : m ≥ 64
  · rw [if_pos h1, lft_all v m.toNat (by omega)]; rfl
  · rw [if_neg h1, decide_eq_false (show ¬ m ≤ -64 by omega)]
    simp only [ints_Shift.j0]
    rw [if_neg (by decide), if_pos h, if_pos h, shl_u64 v m h (by omega)]; rfl
theorem shift_r (k : Nat) (v m : Int) (v0 : 0 ≤ v) (v1 : v < 18446744073709551616) (h : m ≤ 0) (hm : -9223372036854775808 < m) : ints_Shift.f (k + 1) v m = some (rgt v (-m).toNat) := by
  by_cases h0 : m = 0
  · subst h0
    rw [shift_l k v 0 (by decide)]
    have e : (-(0 : Int)).toNat = 0 := by decide
    have e' : (0 : Int).toNat = 0 := by decide
    rw [e, e', rgt_zero, lft_zero v v0 v1]
  · unfold ints_Shift.f
    rw [if_neg (by omega)]
    by_cases h1 : m ≤ -64
    · rw [decide_eq_true h1, rgt_all v v0 v1 _ (by omega)]; rfl
    · rw [decide_eq_false h1]
      simp only [ints_Shift.j0]
      rw [if_neg (by decide), if_neg (by omega), w64 (-m) (by omega), if_pos (by omega), shr_at _ _ _ (by omega) (by simp only [IntKind.bits]; omega)]; rfl
theorem by_mod (m : Int) : Int.tmod (IntKind.u64.wrap m) 32 = m % 32 := by
  rw [u64_wrap]
  have h := Int.emod_nonneg m (show (18446744073709551616 : Int) ≠ 0 by decide)
  rw [Int.tmod_eq_emod_of_nonneg h]
  omega
theorem rotate_f (v m : Int) (v0 : 0 ≤ v) (v1 : v < 4294967296) : ints_Rotate.f v m = some (rot v (m % 32).toNat) := by
  unfold ints_Rotate.f
  rw [by_mod]
  have a := Int.emod_nonneg m (show (32 : Int) ≠ 0 by decide)
  have b := Int.emod_lt_of_pos m (show (0 : Int) < 32 by decide)
  generalize m % 32 = r at a b
  have e : IntKind.u64.wrap (32 - r) = 32 - r := by rw [u64_wrap]; omega
  have t : (32 - r).toNat = 32 - r.toNat := by omega
  rw [e, if_pos a, if_pos (by omega), shr_at _ _ _ (by omega) (by simp only [IntKind.bits]; omega), t]
  have s : shl .u32 v r = v * 2 ^ r.toNat % 4294967296 := by
    unfold shl
    rw [IntKind.wrap_u32, Nat.min_eq_left (by simp only [IntKind.bits]; omega)]
  rw [s, rot_or v v0 v1 r.toNat (by omega)]
theorem refwrap_f (v n : Int) (v0 : 0 ≤ v) (v1 : v < 18446744073709551616) (h1 : 1 ≤ n) (h2 : n ≤ 32) (k : Nat) : tallboyref01_Wrap.f (k + 1) v n = some (wr v n, 0) := by
  unfold tallboyref01_Wrap.f
  rw [if_neg (by omega), decide_eq_false (by omega)]
  simp only [tallboyref01_Wrap.j0]
  rw [if_neg (by decide)]
  obtain ⟨H, Q, eH, eP, eQ, e, a, b, c, d⟩ := pows n h1 (by omega)
  rw [if_neg (by omega), if_pos (by omega), shl_u64 _ _ (by omega) (by omega), eP]
  have d' := d (by omega)
  have : 1 * (2 * H) % 18446744073709551616 = 2 * H := by omega
  rw [this, if_neg (by omega), Int.tmod_eq_emod_of_nonneg v0]
  unfold wr
  rw [eP]
theorem refsign_f (v n : Int) (v0 : 0 ≤ v) (v1 : v < 18446744073709551616) (h1 : 1 ≤ n) (h2 : n ≤ 32) (k : Nat) : tallboyref01_Sign.f (k + 1) v n = some (sg v n, 0) := by
  unfold tallboyref01_Sign.f
  rw [refwrap_f v n v0 v1 h1 h2 k]
  simp only [Option.bind_some, if_true]
  obtain ⟨H, Q, eH, eP, eQ, e, a, b, c, d⟩ := pows n h1 (by omega)
  have t : (n - 1).toNat = n.toNat - 1 := by omega
  rw [w64 (n - 1) (by omega), if_pos (by omega), shl_u64 _ _ (by omega) (by omega), t, eH]
  have : 1 * H % 18446744073709551616 = H := by omega
  rw [this]
  unfold sg wr
  rw [eP, eH]
  have r0 := Int.emod_nonneg v (show 2 * H ≠ 0 by omega)
  have r1 := Int.emod_lt_of_pos v (show 0 < 2 * H by omega)
  generalize v % (2 * H) = w at r0 r1
  by_cases hw : w < H
  · rw [if_pos hw, if_pos hw, w64 _ (by omega)]
  · rw [if_neg hw, if_neg hw, u64_wrap, u64_wrap, Int.emod_eq_of_lt (a := w - H) (by omega) (by omega), Int.emod_eq_of_lt (a := H - 1) (by omega) (by omega), w64 (w - H) (by omega), w64 (H - 1) (by omega), w64 (w - H - 1) (by omega), w64 _ (by omega)]
    have : w - H - 1 - (H - 1) = w - 2 * H := by omega
    rw [this]
/-- one bit more of a turned number -/
theorem rot_bit (u : Int) (i k : Nat) (hi : i < 32) (hk : k < 32) (u0 : 0 ≤ u) (u1 : u < 2 ^ i) : rot (u + 2 ^ i) k = (rot u k + 2 ^ ((i + k) % 32)) % 4294967296 := by
  have p2 : (2 : Int) ^ i * 2 = 2 ^ (i + 1) := by rw [Int.pow_succ]
  have le : ∀ a b : Nat, a ≤ b → (2 : Int) ^ a ≤ 2 ^ b := fun a b h => by
    obtain ⟨c, rfl⟩ : ∃ c, b = a + c := ⟨b - a, by omega⟩
    rw [Int.pow_add]
    have h1 := two_pos c
    have h2 := Int.le_of_lt (two_pos a)
    have := Int.mul_le_mul_of_nonneg_left (show (1 : Int) ≤ 2 ^ c by omega) h2
    omega
  have h32 : (2 : Int) ^ 32 = 4294967296 := by decide +kernel
  have li := le (i + 1) 32 (by omega)
  have hv : 0 ≤ u + 2 ^ i ∧ u + 2 ^ i < 4294967296 := by omega
  have hr := rot_range (u + 2 ^ i) hv.1 hv.2 k hk
  unfold rot at hr ⊢
  by_cases h : i + k < 32
  · have e1 : (i + k) % 32 = i + k := Nat.mod_eq_of_lt h
    have z1 : (u + 2 ^ i) / 2 ^ (32 - k) = 0 := Int.ediv_eq_zero_of_lt (by omega) (by have := le (i + 1) (32 - k) (by omega); omega)
    have z2 : u / 2 ^ (32 - k) = 0 := Int.ediv_eq_zero_of_lt u0 (by have := le i (32 - k) (by omega); omega)
    rw [e1, z1, z2, Int.add_mul, ← Int.pow_add]
    omega
  · have e1 : (i + k) % 32 = i + k - 32 := by omega
    have d : (2 : Int) ^ i = 2 ^ (i + k - 32) * 2 ^ (32 - k) := by
      rw [← Int.pow_add]
      congr 1
      omega
    have z1 : (u + 2 ^ i) / 2 ^ (32 - k) = u / 2 ^ (32 - k) + 2 ^ (i + k - 32) := by
      rw [d, Int.add_mul_ediv_right _ _ (by have := two_pos (32 - k); omega)]
    have z2 : (u + 2 ^ i) * 2 ^ k % 4294967296 = u * 2 ^ k % 4294967296 := by
      have e2 : (2 : Int) ^ i * 2 ^ k = 2 ^ (i + k - 32) * 4294967296 := by
        rw [← h32, ← Int.pow_add, ← Int.pow_add]
        congr 1
        omega
      rw [Int.add_mul, e2, Int.add_mul_emod_self_right]
    rw [e1, z1, z2]
    rw [z1, z2] at hr
    omega
theorem bit_next (v : Int) (i : Nat) : v % 2 ^ (i + 1) = v % 2 ^ i + 2 ^ i * (v / 2 ^ i % 2) := by
  have p := two_pos i
  have e : (2 : Int) ^ (i + 1) = 2 ^ i * 2 := by rw [Int.pow_succ]
  have d := Int.mul_ediv_add_emod v (2 ^ i)
  have m0 := Int.emod_nonneg v (show (2 : Int) ^ i ≠ 0 by omega)
  have m1 := Int.emod_lt_of_pos v p
  generalize v / 2 ^ i = q at d
  generalize v % 2 ^ i = u at d m0 m1
  have d2 := Int.mul_ediv_add_emod q 2
  have hb : q % 2 = 0 ∨ q % 2 = 1 := by omega
  have e3 : v = (u + 2 ^ i * (q % 2)) + 2 ^ (i + 1) * (q / 2) := by
    rw [e, Int.mul_assoc, ← d]
    have : 2 ^ i * q = 2 ^ i * (2 * (q / 2) + q % 2) := by rw [d2]
    rw [this, Int.mul_add]
    omega
  rw [e3, Int.add_mul_emod_self_left]
  apply Int.emod_eq_of_lt
  · rcases hb with h | h <;> rw [h] <;> omega
  · rcases hb with h | h <;> rw [h] <;> omega
theorem and_one (v : Int) (v0 : 0 ≤ v) (v1 : v < 4294967296) (i : Nat) (hi : i < 32) : Go.bits .and .u32 (shr .u32 v (i : Int)) 1 = v / 2 ^ i % 2 := by
  have e : shr .u32 v (i : Int) = v / 2 ^ i := by
    rw [shr_at _ _ _ (by omega) (by simp only [IntKind.bits]; omega)]; rfl
  rw [e]
  have h0 := Int.ediv_nonneg v0 (Int.le_of_lt (two_pos i))
  have h1 := Int.ediv_le_self (2 ^ i) v0
  have := bits_mask .u32 32 (by decide) u32_wraps 1 (by decide) (v / 2 ^ i) h0 (by omega)
  have e1 : (2 : Int) ^ 1 - 1 = 1 := by decide
  have e2 : (2 : Int) ^ 1 = 2 := by decide
  rw [e1, e2] at this
  exact this
theorem refrot_l0 (v : Int) (v0 : 0 ≤ v) (v1 : v < 4294967296) (r : Nat) (hr : r < 32) (d : Nat) : ∀ (k i : Nat), i + d = 32 → d < k →
    tallboyref01_Rotate.l0 k v (r : Int) (rot (v % 2 ^ i) r) (i : Int) = some (rot v r) := by
  induction d with
  | zero =>
    intro k i h hk
    obtain ⟨k, rfl⟩ : ∃ m, k = m + 1 := ⟨k - 1, by omega⟩
    obtain rfl : i = 32 := by omega
    have e : v % 2 ^ 32 = v := Int.emod_eq_of_lt v0 (by have h32 : (2 : Int) ^ 32 = 4294967296 := (by decide +kernel); omega)
    simp only [tallboyref01_Rotate.l0]; rw [if_neg (by omega), e]
  | succ d ih =>
    intro k i h hk
    obtain ⟨k, rfl⟩ : ∃ m, k = m + 1 := ⟨k - 1, by omega⟩
    simp only [tallboyref01_Rotate.l0]
    have w1 : wrap64 ((i : Int) + r) = ((i + r : Nat) : Int) := by unfold wrap64; omega
    have w2 : wrap64 ((i : Int) + 1) = ((i + 1 : Nat) : Int) := by unfold wrap64; omega
    have t : Int.tmod ((i + r : Nat) : Int) 32 = (((i + r) % 32 : Nat) : Int) := by
      rw [Int.tmod_eq_emod_of_nonneg (by omega)]; omega
    rw [if_pos (by omega), if_pos (by omega), and_one v v0 v1 i (by omega), w1, w2, t]
    have bn := bit_next v i
    have p := two_pos i
    have m0 := Int.emod_nonneg v (show (2 : Int) ^ i ≠ 0 by omega)
    have m1 := Int.emod_lt_of_pos v p
    have next := ih k (i + 1) (by omega) (by omega)
    rw [bn] at next
    by_cases hb : v / 2 ^ i % 2 = 1
    · rw [if_pos hb, if_pos (by omega)]
      have s : shl .u32 1 (((i + r) % 32 : Nat) : Int) = 2 ^ ((i + r) % 32) := by
        have key : ∀ m : Fin 32, shl .u32 1 (m.val : Int) = 2 ^ m.val := by decide +kernel
        exact key ⟨(i + r) % 32, Nat.mod_lt _ (by decide)⟩
      rw [s, ← rot_bit (v % 2 ^ i) i r (by omega) hr m0 m1]
      rw [hb, Int.mul_one] at next
      exact next
    · have hz : v / 2 ^ i % 2 = 0 := by omega
      rw [if_neg hb]
      rw [hz, Int.mul_zero, Int.add_zero] at next
      exact next
theorem refrot_f (v m : Int) (v0 : 0 ≤ v) (v1 : v < 4294967296) (k : Nat) (hk : 40 < k) : tallboyref01_Rotate.f k v m = some (rot v (m % 32).toNat) := by
  obtain ⟨k, rfl⟩ : ∃ m, k = m + 1 := ⟨k - 1, by omega⟩
  unfold tallboyref01_Rotate.f
  have z : rot (v % 2 ^ 0) (m % 32).toNat = 0 := by
    have e : v % 2 ^ 0 = 0 := by
      have : (2 : Int) ^ 0 = 1 := by decide
      rw [this]; omega
    rw [e]
    exact rot_zero_in _ (by omega)
  have all := refrot_l0 v v0 v1 (m % 32).toNat (by omega) 32 k 0 (by omega) (by omega)
  rw [z] at all
  have et : (((m % 32).toNat : Nat) : Int) = m % 32 := by omega
  rw [et] at all
  have a := Int.tmod_lt_of_pos m (show (0 : Int) < 32 by decide)
  have b := Int.lt_tmod_of_pos m (show (0 : Int) < 32 by decide)
  have c : Int.tmod m 32 % 32 = m % 32 := by
    have := Int.mul_tdiv_add_tmod m 32
    omega
  by_cases h : Int.tmod m 32 < 0
  · rw [if_pos h]
    have : wrap64 (Int.tmod m 32 + 32) = m % 32 := by unfold wrap64; omega
    rw [this]
    simp only [tallboyref01_Rotate.j0]
    exact all
  · rw [if_neg h]
    have : Int.tmod m 32 = m % 32 := by omega
    rw [this]
    simp only [tallboyref01_Rotate.j0]
    exact all
theorem refsh_l0 (d : Nat) : ∀ (k : Nat) (v m i : Int), m - i = d → 0 ≤ i → m ≤ 100 → d + 1 < k →
    tallboyref01_Shift.l0 k v m i = tallboyref01_Shift.l1 (k - d - 1) (if d = 0 then v else lft v d) m 0 := by
  induction d with
  | zero =>
    intro k v m i h h0 hm hk
    obtain ⟨k, rfl⟩ : ∃ m, k = m + 1 := ⟨k - 1, by omega⟩
    simp only [tallboyref01_Shift.l0]
    rw [if_neg (by omega), if_pos trivial]; rfl
  | succ d ih =>
    intro k v m i h h0 hm hk
    obtain ⟨k, rfl⟩ : ∃ m, k = m + 1 := ⟨k - 1, by omega⟩
    simp only [tallboyref01_Shift.l0]
    have w : wrap64 (i + 1) = i + 1 := w64 _ (by omega)
    rw [if_pos (by omega), w, u64_wrap, ih k _ m (i + 1) (by omega) (by omega) hm (by omega)]
    have e1 : k + 1 - (d + 1) - 1 = k - d - 1 := by omega
    rw [e1, if_neg (show ¬ d + 1 = 0 by omega)]
    have one : v * 2 % 18446744073709551616 = lft v 1 := by
      unfold lft
      have : (2 : Int) ^ 1 = 2 := by decide
      rw [this]
    by_cases hd : d = 0
    · subst hd; rw [if_pos rfl, one]
    · rw [if_neg hd, one, lft_lft, Nat.add_comm 1 d]
theorem refsh_l1 (d : Nat) : ∀ (k : Nat) (v m i : Int), 0 ≤ v → v < 18446744073709551616 → i - m = d → i ≤ 0 → -100 ≤ m → d < k →
    tallboyref01_Shift.l1 k v m i = some (rgt v d) := by
  induction d with
  | zero =>
    intro k v m i v0 v1 h h0 hm hk
    obtain ⟨k, rfl⟩ : ∃ m, k = m + 1 := ⟨k - 1, by omega⟩
    simp only [tallboyref01_Shift.l1]
    rw [if_neg (by omega), rgt_zero]
  | succ d ih =>
    intro k v m i v0 v1 h h0 hm hk
    obtain ⟨k, rfl⟩ : ∃ m, k = m + 1 := ⟨k - 1, by omega⟩
    simp only [tallboyref01_Shift.l1]
    have w : wrap64 (i - 1) = i - 1 := w64 _ (by omega)
    have t : IntKind.u64.wrap (Int.tdiv v 2) = rgt v 1 := by
      rw [u64_wrap, Int.tdiv_eq_ediv_of_nonneg v0]
      unfold rgt
      have : (2 : Int) ^ 1 = 2 := by decide
      rw [this]; omega
    obtain ⟨g0, g1⟩ := rgt_range v v0 v1 1
    rw [if_pos (by omega), w, t, ih k _ m (i - 1) g0 g1 (by omega) (by omega) hm (by omega), rgt_rgt, Nat.add_comm 1 d]
theorem shifts_same (v m : Int) (v0 : 0 ≤ v) (v1 : v < 18446744073709551616) (hm : -9223372036854775808 ≤ m) (k : Nat) : ∃ x, ints_Shift.f (k + 1) v m = some x ∧ ∀ q, 200 < q → tallboyref01_Shift.f q v m = some x := by
  by_cases h1 : m < -63
  · refine ⟨0, ?_, ?_⟩
    · unfold ints_Shift.f
      rw [if_neg (by omega), decide_eq_true (show m ≤ -64 by omega)]; rfl
    · intro q hq
      obtain ⟨q, rfl⟩ : ∃ m, q = m + 1 := ⟨q - 1, by omega⟩
      unfold tallboyref01_Shift.f
      rw [if_pos h1]; rfl
  · by_cases h2 : m > 63
    · refine ⟨0, ?_, ?_⟩
      · unfold ints_Shift.f
        rw [if_pos (by omega)]; rfl
      · intro q hq
        obtain ⟨q, rfl⟩ : ∃ m, q = m + 1 := ⟨q - 1, by omega⟩
        unfold tallboyref01_Shift.f
        rw [if_neg h1, decide_eq_true h2]; rfl
    · by_cases h3 : 0 ≤ m
      · refine ⟨_, shift_l k v m h3, ?_⟩
        intro q hq
        obtain ⟨q, rfl⟩ : ∃ m, q = m + 1 := ⟨q - 1, by omega⟩
        unfold tallboyref01_Shift.f
        rw [if_neg h1, decide_eq_false h2]
        simp only [tallboyref01_Shift.j0]
        rw [if_neg (by decide), refsh_l0 m.toNat q v m 0 (by omega) (by decide) (by omega) (by omega)]
        obtain ⟨p, e⟩ : ∃ p, q - m.toNat - 1 = p + 1 := ⟨q - m.toNat - 2, by omega⟩
        rw [e]
        simp only [tallboyref01_Shift.l1]
        rw [if_neg (by omega)]
        by_cases hz : m.toNat = 0
        · rw [if_pos hz, hz, lft_zero v v0 v1]
        · rw [if_neg hz]
      · refine ⟨_, shift_r k v m v0 v1 (by omega) (by omega), ?_⟩
        intro q hq
        obtain ⟨q, rfl⟩ : ∃ m, q = m + 2 := ⟨q - 2, by omega⟩
        unfold tallboyref01_Shift.f
        rw [if_neg h1, decide_eq_false h2]
        simp only [tallboyref01_Shift.j0]
        rw [if_neg (by decide)]
        simp only [tallboyref01_Shift.l0]
        rw [if_neg (by omega), refsh_l1 (-m).toNat q v m 0 v0 v1 (by omega) (by decide) (by omega) (by omega)]

theorem IntsTurns : tallboylaw01_IntsTurns.Pure := by
  intro v m hv hm
  obtain ⟨v0, v1⟩ := bounds_u64 hv
  obtain ⟨m0, m1⟩ := bounds_i64 hm
  obtain ⟨x, sx, rx⟩ := shifts_same v m v0 (by omega) m0 999
  refine ⟨1000, ?_⟩
  unfold tallboylaw01_IntsTurns.f ints_Narrow.f tallboyref01_Narrow.f
  have ha : -9223372036854775808 ≤ wrap64 v ∧ wrap64 v < 9223372036854775808 := by unfold wrap64; omega
  generalize wrap64 v = a at ha
  have u0 : 0 ≤ a % 18446744073709551616 := by omega
  have u1 : a % 18446744073709551616 < 18446744073709551616 := by omega
  rw [u64_wrap, refsign_f _ 8 u0 u1 (by decide) (by decide) 999, refwrap_f _ 8 u0 u1 (by decide) (by decide) 999, refsign_f _ 16 u0 u1 (by decide) (by decide) 999, refwrap_f _ 16 u0 u1 (by decide) (by decide) 999, refsign_f _ 32 u0 u1 (by decide) (by decide) 999, refwrap_f _ 32 u0 u1 (by decide) (by decide) 999]
  rw [sg_u64 a 8 (by decide) (by decide), wr_u64 a 8 (by decide) (by decide), sg_u64 a 16 (by decide) (by decide), wr_u64 a 16 (by decide) (by decide), sg_u64 a 32 (by decide) (by decide), wr_u64 a 32 (by decide) (by decide)]
  simp only [Option.bind_some]
  have p8 : (2 : Int) ^ (8 : Int).toNat = 256 ∧ (2 : Int) ^ ((8 : Int).toNat - 1) = 128 := by decide +kernel
  have p16 : (2 : Int) ^ (16 : Int).toNat = 65536 ∧ (2 : Int) ^ ((16 : Int).toNat - 1) = 32768 := by decide +kernel
  have p32 : (2 : Int) ^ (32 : Int).toNat = 4294967296 ∧ (2 : Int) ^ ((32 : Int).toNat - 1) = 2147483648 := by decide +kernel
  have g8 : IntKind.i8.wrap (sg a 8) = IntKind.i8.wrap a := by
    unfold sg; rw [p8.1, p8.2, i8_wrap, i8_wrap]; split <;> omega
  have w8 : wr a 8 % 256 = a % 256 := by unfold wr; rw [p8.1]; omega
  have g16 : IntKind.i16.wrap (sg a 16) = IntKind.i16.wrap a := by
    unfold sg; rw [p16.1, p16.2, i16_wrap, i16_wrap]; split <;> omega
  have w16 : IntKind.u16.wrap (wr a 16) = IntKind.u16.wrap a := by unfold wr; rw [p16.1, u16_wrap, u16_wrap]; omega
  have g32 : wrap32 (sg a 32) = wrap32 a := by
    unfold sg wrap32; rw [p32.1, p32.2]; split <;> omega
  have w32 : wr a 32 % 4294967296 = a % 4294967296 := by unfold wr; rw [p32.1]; omega
  rw [g8, w8, g16, w16, g32, w32]
  simp only [if_true]
  rw [rotate_f _ m (by omega) (by omega), refrot_f _ m (by omega) (by omega) 1000 (by decide), sx, rx 1000 (by decide)]
  simp

end Go.Proofs.Ytbdfdnlhoomhaaa.Pure
