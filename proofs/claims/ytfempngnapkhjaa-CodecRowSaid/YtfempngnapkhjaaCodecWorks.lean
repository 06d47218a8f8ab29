/- The walk of chapter 03's works: it returns true. -/
import Derived.Test.YtfempngnapkhjaaCodecOwn
namespace Go.Proofs.Ytfempngnapkhjaa.Codec
open Go.RowKit Go.Proofs.Ytfempngnapkhjaa.Mem Go.Proofs.Ytfempngnapkhjaa.CodecPure
set_option linter.unusedVariables false

def Z0 : List Int := [0, 0, 0, 0, 0, 0, 0, 0]
def Z1 : List Int := [0, 2, 1, 0, 0, 0, 0, 0]
def Z2 : List Int := [0, 2, 1, 0, 255, 255, 255, 255]
theorem Wr.own {w w' : World} {base : Nat} {A : Option Addr} {n c : Nat} {l : List Int} {err : Int} {e : Ending} (h : Wr w base A n c l err e w') : Own w' base 5 .u8 (.slice A n c) l := h.2.1
theorem Own.room {w : World} {base : Nat} {e : TypeId} {k : IntKind} {A : Option Addr} {n c : Nat} {l : List Int} (h : Own w base e k (.slice A n c) l) : l.length ≤ c ∧ c ≤ 9223372036854775807 := by
  rcases h.2 with ⟨e1, e2⟩ | ⟨g, cap, cur, e1, _, _, e2, e3, _⟩
  · injection e1 with _ _ e4
    omega
  · injection e1 with _ _ e4
    subst e4
    exact ⟨e2, e3⟩
set_option maxHeartbeats 1000000 in
theorem works_calls (w : World) : Calls Try.prog 17 #[] w fun e w' => e = .returned (.bool true) ∧ Below w.heap.size w w' := by
  have hmk : ∀ W : World, (Instr.makeSlice 22 (.int .i64 8) (.int .i64 8)).run Try.prog W = .ok (.slice (some ⟨W.heap.size, 0, none⟩) 8 8) (W.alloc (.cells #[.int .u8 0, .int .u8 0, .int .u8 0, .int .u8 0, .int .u8 0, .int .u8 0, .int .u8 0, .int .u8 0] 5)) := fun _ => by kernel_rfl
  have bz : Hid (Bytes Z2) := fun x hx => by
    simp only [Z2, List.mem_cons, List.not_mem_nil, or_false] at hx
    omega
  have k1 : Hid (∀ A base W, Own W base 5 .u8 (.slice A 8 8) Z0 → Calls Try.prog 9 #[.slice A 8 8, .int .i64 1, .int .i64 2, .int .u64 258] W (Wr W base A 8 8 Z1 0)) := fun A base W ho => by
    have := put_own A 8 base Z0 1 2 258 W ho (by decide) (by decide) (by decide) (by decide)
    have e : putC Z0 1 2 258 = (Z1, 0) := by decide +kernel
    rw [e] at this
    exact this
  have k2 : Hid (∀ A base W, Own W base 5 .u8 (.slice A 8 8) Z1 → Calls Try.prog 15 #[.slice A 8 8, .int .i64 4, .int .i64 (-1)] W (Wr W base A 8 8 Z2 0)) := fun A base W ho => by
    have := putplace_own A 8 base Z1 4 (-1) W ho (by decide) (by decide) (by decide)
    have e : putPlaceC Z1 4 (-1) = (Z2, 0) := by decide +kernel
    rw [e] at this
    exact this
  have k3 : Hid (∀ A base W, Own W base 5 .u8 (.slice A 8 8) Z2 → Calls Try.prog 11 #[.slice A 8 8, .int .i64 0, .int .i64 4] W fun e w' => e = .returned (.tuple #[.int .u64 66048, .int .i64 0]) ∧ W = w') := fun A base W ho => by
    have := get_calls A Z2 8 0 4 W ho.sl bz.out (by decide) (by decide) (by decide)
    have e : getC Z2 0 4 = (66048, 0) := by decide +kernel
    rw [e] at this
    exact this
  have k4 : Hid (∀ A base W, Own W base 5 .u8 (.slice A 8 8) Z2 → Calls Try.prog 13 #[.slice A 8 8, .int .i64 4] W fun e w' => e = .returned (.tuple #[.int .i64 (-1), .int .i64 0]) ∧ W = w') := fun A base W ho => by
    have := getplace_calls A Z2 8 4 W ho.sl bz.out (by decide) (by decide) (by decide)
    have e : getPlaceC Z2 4 = (-1, 0) := by decide +kernel
    rw [e] at this
    exact this
  have k5 : Hid (∀ A base W, Own W base 5 .u8 (.slice A 8 8) Z2 → Calls Try.prog 9 #[.slice A 8 8, .int .i64 0, .int .i64 1, .int .u64 256] W (Wr W base A 8 8 Z2 6)) := fun A base W ho => by
    have := put_own A 8 base Z2 0 1 256 W ho (by decide) (by decide) (by decide) (by decide)
    have e : putC Z2 0 1 256 = (Z2, 6) := by decide +kernel
    rw [e] at this
    exact this
  have k6 : Hid (∀ A base W, Own W base 5 .u8 (.slice A 8 8) Z2 → Calls Try.prog 9 #[.slice A 8 8, .int .i64 7, .int .i64 2, .int .u64 1] W (Wr W base A 8 8 Z2 1)) := fun A base W ho => by
    have := put_own A 8 base Z2 7 2 1 W ho (by decide) (by decide) (by decide) (by decide)
    have e : putC Z2 7 2 1 = (Z2, 1) := by decide +kernel
    rw [e] at this
    exact this
  have o0 : Hid (Own (w.alloc (.cells #[.int .u8 0, .int .u8 0, .int .u8 0, .int .u8 0, .int .u8 0, .int .u8 0, .int .u8 0, .int .u8 0] 5)) w.heap.size 5 .u8 (.slice (some ⟨w.heap.size, 0, none⟩) 8 8) Z0) := Own.lit w 5 .u8 Z0 (by decide)
  go_enter Try.func17, Try.ntmps17
  go_wp2_with fail
  refine (k1.out _ w.heap.size _ o0.out).mono ?_
  rintro e w1 ⟨rfl, ho, hc⟩
  have o1 := Lib.hid ho
  have c1 : Hid (Chg (fun b => w.heap.size ≤ b) w w1) := (Chg.alloc _ w _).trans hc
  clear ho hc hmk
  go_wp2_with fail
  refine (k2.out _ w.heap.size _ o1.out).mono ?_
  rintro e w2 ⟨rfl, ho, hc⟩
  have o2 := Lib.hid ho
  have c2 : Hid (Chg (fun b => w.heap.size ≤ b) w w2) := c1.out.trans hc
  have kc : (Go.convert 22 9 (.slice (some ⟨w.heap.size, 0, none⟩) 8 8)).run Try.prog w2 = .ok (.string ⟨#[0, 2, 1, 0, 255, 255, 255, 255]⟩) w2 := conv_sl (l := Z2) (c := 8) Try.underlying22 Try.underlying5 Try.underlying9 ho.sl
  clear ho hc
  go_wp2_with (first | (go_at_call 11; refine (k3.out _ w.heap.size _ o2.out).mono ?_; rintro e w' ⟨rfl, rfl⟩) | (go_at_call 13; refine (k4.out _ w.heap.size _ o2.out).mono ?_; rintro e w' ⟨rfl, rfl⟩))
  refine (k5.out _ w.heap.size _ o2.out).mono ?_
  rintro e w3 ⟨rfl, ho, hc⟩
  have o3 := Lib.hid ho
  have c3 : Hid (Chg (fun b => w.heap.size ≤ b) w w3) := c2.out.trans hc
  clear ho hc
  go_wp2_with fail
  refine (k6.out _ w.heap.size _ o3.out).mono ?_
  rintro e w4 ⟨rfl, ho, hc⟩
  have c4 : Hid (Chg (fun b => w.heap.size ≤ b) w w4) := c3.out.trans hc
  clear ho hc
  go_wp2
  go_ret
  exact ⟨rfl, c4.out.below (Nat.le_refl _) fun b h => h⟩

end Go.Proofs.Ytfempngnapkhjaa.Codec
