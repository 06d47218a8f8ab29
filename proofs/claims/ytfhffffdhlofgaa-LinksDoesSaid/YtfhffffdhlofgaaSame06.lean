/- The walk of chapter 06's Same at two rows of the same numbers. -/
import Derived.Test.YtfhffffdhlofgaaCodec
import Derived.Test.YtfhffffdhlofgaaApp
import Derived.BigQuiet
import Derived.Deep.LoopGhost
import Derived.Deep.QuietTactic
namespace Go.Proofs.Ytfhffffdhlofgaa.Mem
open Go Go.RowKit
set_option linter.unusedVariables false
set_option maxRecDepth 100000
theorem same06_calls {w : World} {l : List Int} {A B : Option Addr} {c d : Nat} (hA : Sl w .i64 A l) (hB : Sl w .i64 B l) (hl : l.length ≤ 1000000) :
    Calls Try.prog 21 #[.slice A l.length c, .slice B l.length d] w fun e w' => e = .returned (.bool true) ∧ Dr w w' := by
  replace hA := Lib.hid hA
  replace hB := Lib.hid hB
  obtain ⟨n, hn⟩ : ∃ n, l.length = n := ⟨_, rfl⟩
  rw [hn] at hl ⊢
  replace hn := Lib.hid hn
  go_enter Try.func21, Try.ntmps21
  go_wp2_with fail
  go_loopg [5] n (fun g i wr => ∃ k : Nat, i = .int .i64 k ∧ g = n - k ∧ k ≤ n ∧ Hid (Dr w wr))
  case atStart => exact ⟨0, rfl, rfl, by omega, Dr.refl w⟩
  case round =>
    obtain ⟨k, rfl, hg, hk, HD⟩ := hrel
    obtain ⟨wo, rfl⟩ : ∃ wo : World, wo = wr := ⟨_, rfl⟩
    replace hg := Lib.hid hg
    by_cases h1 : k < n
    · have h1' : (k : Int) < n := by omega
      have x1 : ∃ ad, A = some ad ∧ wo.cell? (ad.add k) = some (.int .i64 (l.getD k 0)) := by
        obtain ⟨ad, e, hc⟩ := hA.out k (by rw [hn.out]; exact h1)
        obtain ⟨q, rfl⟩ := HD.out
        exact ⟨ad, e, hc⟩
      have x2 : ∃ ad, B = some ad ∧ wo.cell? (ad.add k) = some (.int .i64 (l.getD k 0)) := by
        obtain ⟨ad, e, hc⟩ := hB.out k (by rw [hn.out]; exact h1)
        obtain ⟨q, rfl⟩ := HD.out
        exact ⟨ad, e, hc⟩
      obtain ⟨ad, rfl, c1⟩ := x1
      obtain ⟨bd, rfl, c2⟩ := x2
      generalize l.getD k 0 = x at c1 c2
      go_wp2_with fail
      go_quiet (fail)
      go_wp2_with fail
      go_roundg (n - (k + 1))
      case measure => have := hg.out; omega
      case rel => exact ⟨k + 1, rfl, rfl, by omega, HD.out.step _⟩
    · have h1' : ¬ ((k : Int) < n) := by omega
      go_wp2_with fail
      go_ret
      exact ⟨rfl, HD.out⟩
end Go.Proofs.Ytfhffffdhlofgaa.Mem
