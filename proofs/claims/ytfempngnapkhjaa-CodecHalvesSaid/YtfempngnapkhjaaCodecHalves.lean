/- The walk of the law CodecHalves: it returns true at any number. -/
import Derived.Test.YtfempngnapkhjaaCodecWorks
import Derived.Test.YtfempngnapkhjaaCodecFacts
import Derived.OpenShut
namespace Go.Proofs.Ytfempngnapkhjaa.Codec
open Go.RowKit Go.Proofs.Ytfempngnapkhjaa.Mem Go.Proofs.Ytfempngnapkhjaa.CodecPure
set_option linter.unusedVariables false

theorem halves_walk (v : Int) (w : World) (hv : (Lit.int .u64 v).wf = true) :
    Calls Try.prog 6 #[.int .u64 v] w fun e w' => e = .returned (.bool true) ∧ Below w.heap.size w w' := by
  have hv2 := bounds_u64 hv
  obtain ⟨v0, v1⟩ := hv2
  clear hv
  have hmk : ∀ W : World, (Instr.makeSlice 22 (.int .i64 8) (.int .i64 8)).run Try.prog W = .ok (.slice (some ⟨W.heap.size, 0, none⟩) 8 8) (W.alloc (.cells #[.int .u8 0, .int .u8 0, .int .u8 0, .int .u8 0, .int .u8 0, .int .u8 0, .int .u8 0, .int .u8 0] 5)) := fun _ => by kernel_rfl
  obtain ⟨X, eX⟩ : ∃ X, leb v 8 = X := ⟨_, rfl⟩
  have bX : Hid (Bytes X) := by rw [← eX]; exact leb_bytes 8 v
  have lX : Hid (X.length = 8) := by rw [← eX]; exact leb_length 8 v
  have k1 : Hid (∀ A base W, Own W base 5 .u8 (.slice A 8 8) Z0 → Calls Try.prog 9 #[.slice A 8 8, .int .i64 0, .int .i64 8, .int .u64 v] W (Wr W base A 8 8 X 0)) := fun A base W ho => by
    have := put_own A 8 base Z0 0 8 v W ho (by decide) (by decide) v0 (by omega)
    have e : putC Z0 0 8 v = (X, 0) := by
      have := putC_all Z0 8 v (by decide) rfl (by rintro ⟨h, _⟩; exact absurd h (by decide))
      rw [eX] at this
      exact this
    rw [e] at this
    exact this
  have k2 : Hid (∀ A base W, Own W base 5 .u8 (.slice A 8 8) X → Calls Try.prog 11 #[.slice A 8 8, .int .i64 0, .int .i64 4] W fun e w' => e = .returned (.tuple #[.int .u64 (v % 4294967296), .int .i64 0]) ∧ W = w') := fun A base W ho => by
    have := get_calls A X 8 0 4 W ho.sl bX.out (by rw [lX.out]; decide) (by decide) (by decide)
    have e : getC X 0 4 = (v % 4294967296, 0) := by
      have := getC_leb v 8 0 4 (by decide) (by decide)
      rw [eX] at this
      have z : v / 2 ^ (8 * 0) = v := Int.ediv_one v
      rw [z] at this
      exact this
    rw [e, lX.out] at this
    exact this
  have k3 : Hid (∀ A base W, Own W base 5 .u8 (.slice A 8 8) X → Calls Try.prog 11 #[.slice A 8 8, .int .i64 4, .int .i64 4] W fun e w' => e = .returned (.tuple #[.int .u64 (v / 4294967296), .int .i64 0]) ∧ W = w') := fun A base W ho => by
    have := get_calls A X 8 4 4 W ho.sl bX.out (by rw [lX.out]; decide) (by decide) (by decide)
    have e : getC X 4 4 = (v / 4294967296, 0) := by
      have := getC_leb v 8 4 4 (by decide) (by decide)
      rw [eX] at this
      have z : v / 2 ^ (8 * 4) % 2 ^ (8 * 4) = v / 4294967296 := by
        show v / 4294967296 % 4294967296 = v / 4294967296
        omega
      rw [z] at this
      exact this
    rw [e, lX.out] at this
    exact this
  have k4 : Hid (∀ A base W (k : Nat), k < 8 → Own W base 5 .u8 (.slice A 8 8) X → Calls Try.prog 11 #[.slice A 8 8, .int .i64 k, .int .i64 1] W fun e w' => e = .returned (.tuple #[.int .u64 (v / 2 ^ (8 * k) % 256), .int .i64 0]) ∧ W = w') := fun A base W k hk ho => by
    have := get_calls A X 8 k 1 W ho.sl bX.out (by rw [lX.out]; decide) (by decide) (by omega)
    have e : getC X k 1 = (v / 2 ^ (8 * k) % 256, 0) := by
      have := getC_leb v 8 k 1 (by decide) (by omega)
      rw [eX] at this
      exact this
    rw [e, lX.out] at this
    exact this
  have VN : Hid (0 ≤ v) := v0
  clear eX
  go_enter Try.func6, Try.ntmps6
  go_wp2_with (go_at_call 17; refine (works_calls _).mono ?_; rintro e w1 ⟨rfl, hb⟩; have B1 := Lib.hid hb; clear hb)
  have o0 : Hid (Own (w1.alloc (.cells #[.int .u8 0, .int .u8 0, .int .u8 0, .int .u8 0, .int .u8 0, .int .u8 0, .int .u8 0, .int .u8 0] 5)) w1.heap.size 5 .u8 (.slice (some ⟨w1.heap.size, 0, none⟩) 8 8) Z0) := Own.lit w1 5 .u8 Z0 (by decide)
  refine (k1.out _ w1.heap.size _ o0.out).mono ?_
  rintro e w2 ⟨rfl, ho, hc⟩
  have o2 := Lib.hid ho
  have c2 : Hid (Chg (fun b => w1.heap.size ≤ b) w1 w2) := (Chg.alloc _ w1 _).trans hc
  clear ho hc hmk
  go_wp2_with (first | (go_at_call 11; (with_reducible refine (k2.out _ w1.heap.size _ o2.out).mono ?_); rintro e w' ⟨rfl, rfl⟩) | (go_at_call 11; (with_reducible refine (k3.out _ w1.heap.size _ o2.out).mono ?_); rintro e w' ⟨rfl, rfl⟩))
  go_loop [8] (fun i => ∃ k : Nat, k ≤ 8 ∧ i = .int .i64 k) (fun i => 8 - (intOf i).toNat)
  case atStart => exact ⟨0, by decide, rfl⟩
  case round =>
    obtain ⟨k, hk, rfl⟩ := hrel
    by_cases hlt : k < 8
    · have tm : (v / 2 ^ (8 * k)).tmod 256 = v / 2 ^ (8 * k) % 256 := Int.tmod_eq_emod_of_nonneg (Int.ediv_nonneg VN.out (Int.le_of_lt (two_pos _)))
      go_wp2_with (go_at_call 11; refine (k4.out _ w1.heap.size _ k hlt o2.out).mono ?_; rintro e w' ⟨rfl, rfl⟩)
      go_round
      case rel => exact ⟨k + 1, hlt, by go_num⟩
      case measure => simp [intOf]; omega
    · obtain rfl : k = 8 := by omega
      go_wp2
      go_ret
      exact ⟨rfl, B1.out.trans ((c2.out.below (Nat.le_refl _) fun b h => h).mono B1.out.size)⟩

end Go.Proofs.Ytfempngnapkhjaa.Codec
