/- The walk of ints.Wrap at 8, 16, 32 and 64 bits. -/
import Derived.Test.YtolpjgpimholcaaChecked
import Derived.WalkKit
import Derived.WalkLawsBesides
import Derived.Lib.Hide
namespace Go.Proofs.Ytolpjgpimholcaa.Wrap
open Go.RowKit
set_option linter.unusedVariables false

theorem u64_wrap (n : Int) : IntKind.u64.wrap n = n % 18446744073709551616 := by simp [IntKind.wrap, IntKind.bits, IntKind.signed]
theorem tup (a b : Int) (h : a = b) : Ending.returned (.tuple #[.int .u64 a, .int .i64 0]) = Ending.returned (.tuple #[.int .u64 b, .int .i64 0]) := by rw [h]
theorem wrap8 (v : Int) (w : World) (h0 : 0 ≤ v) (h1 : v < 18446744073709551616) : Calls Try.prog 113 #[.int .u64 v, .int .i64 8] w fun e w' => e = .returned (.tuple #[.int .u64 (v % 256), .int .i64 0]) ∧ w = w' := by
  go_enter Try.func113, Try.ntmps113
  go_wp2
  go_ret2
  exact ⟨tup _ _ (by rw [u64_wrap]; omega), rfl⟩
theorem wrap16 (v : Int) (w : World) (h0 : 0 ≤ v) (h1 : v < 18446744073709551616) : Calls Try.prog 113 #[.int .u64 v, .int .i64 16] w fun e w' => e = .returned (.tuple #[.int .u64 (v % 65536), .int .i64 0]) ∧ w = w' := by
  go_enter Try.func113, Try.ntmps113
  go_wp2
  go_ret2
  exact ⟨tup _ _ (by rw [u64_wrap]; omega), rfl⟩
theorem wrap32_ (v : Int) (w : World) (h0 : 0 ≤ v) (h1 : v < 18446744073709551616) : Calls Try.prog 113 #[.int .u64 v, .int .i64 32] w fun e w' => e = .returned (.tuple #[.int .u64 (v % 4294967296), .int .i64 0]) ∧ w = w' := by
  go_enter Try.func113, Try.ntmps113
  go_wp2
  go_ret2
  exact ⟨tup _ _ (by rw [u64_wrap]; omega), rfl⟩
theorem wrap64_ (v : Int) (w : World) (h0 : 0 ≤ v) (h1 : v < 18446744073709551616) : Calls Try.prog 113 #[.int .u64 v, .int .i64 64] w fun e w' => e = .returned (.tuple #[.int .u64 v, .int .i64 0]) ∧ w = w' := by
  go_enter Try.func113, Try.ntmps113
  go_wp2
  go_ret2
  exact ⟨tup _ _ (by try simp; try omega), rfl⟩

end Go.Proofs.Ytolpjgpimholcaa.Wrap
