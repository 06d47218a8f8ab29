/- The walks of classes.For and item.Need, and of the reference's: what each answers. -/
import Derived.Test.YtolpjgpimholcaaChecked
import Derived.Test.YtolpjgpimholcaaMem
import Derived.Test.YtolpjgpimholcaaNeedPure
import Derived.WalkLawsBesides
import Derived.Lib.Hide
namespace Go.Proofs.Ytolpjgpimholcaa.Need
open Go.RowKit Go.Proofs.Ytolpjgpimholcaa.Mem Go.Proofs.Ytolpjgpimholcaa.NeedPure
set_option linter.unusedVariables false

theorem for_calls (A : Option Addr) (c : Nat) (l : List Int) (n : Int) (w : World) (hl : Sl w .i64 A l) (hm : l.length ≤ 1000000) :
    Calls Try.prog 56 #[.slice A l.length c, .int .i64 n] w fun e w' => e = .returned (.tuple #[.int .i64 (forC l n).1, .int .i64 (forC l n).2]) ∧ w = w' := by
  have HL := Lib.hid hl
  clear hl
  by_cases h0 : n < 0
  · rw [forC_far l n h0]
    go_enter Try.func56, Try.ntmps56
    go_wp2
    go_ret2
    exact ⟨rfl, rfl⟩
  · have F0 : decide (n < 0) = false := decide_eq_false h0
    have G0 := Lib.hid h0
    clear h0
    go_enter Try.func56, Try.ntmps56
    go_wp2
    go_loop [12] (fun v => ∃ k : Nat, v = .int .i64 k ∧ k ≤ l.length ∧ Hid (∀ j, j < k → l.getD j 0 < n)) (fun v => l.length - (intOf v).toNat)
    case atStart => exact ⟨0, rfl, Nat.zero_le _, fun j hj => by omega⟩
    case round =>
      obtain ⟨k, rfl, hk, H⟩ := hrel
      by_cases hlt : k < l.length
      · obtain ⟨ad, rfl, hc⟩ := HL.out k hlt
        obtain ⟨x, ex⟩ : ∃ x, l.getD k 0 = x := ⟨_, rfl⟩
        rw [ex] at hc
        by_cases hx : n ≤ x
        · have e := Lib.hid (forC_some l n (by have := G0.out; omega) k hlt H.out (by rw [ex]; exact hx))
          have hx' : decide (n ≤ x) = true := decide_eq_true hx
          clear hx ex
          go_wp2
          go_ret2
          exact ⟨by rw [e.out]; rfl, rfl⟩
        · have hx' : decide (n ≤ x) = false := decide_eq_false hx
          have X : Hid (l.getD k 0 < n) := by rw [ex]; show x < n; omega
          clear hx ex
          go_wp2
          go_round
          case rel => exact ⟨k + 1, by go_num, by omega, fun j hj => by
            by_cases e : j = k
            · subst e; exact X.out
            · exact H.out j (by omega)⟩
          case measure => simp [intOf]; omega
      · have e := Lib.hid (forC_none l n (by have := G0.out; omega) (fun j hj => H.out j (by omega)))
        go_wp2
        go_ret2
        exact ⟨by rw [e.out]; rfl, rfl⟩

theorem reffor_calls (A : Option Addr) (c : Nat) (l : List Int) (n : Int) (w : World) (hl : Sl w .i64 A l) (hm : l.length ≤ 1000000) :
    Calls Try.prog 114 #[.slice A l.length c, .int .i64 n] w fun e w' => e = .returned (.tuple #[.int .i64 (forC l n).1, .int .i64 (forC l n).2]) ∧ w = w' := by
  have HL := Lib.hid hl
  clear hl
  by_cases h0 : n < 0
  · rw [forC_far l n h0]
    go_enter Try.func114, Try.ntmps114
    go_wp2
    go_ret2
    exact ⟨rfl, rfl⟩
  · have F0 : decide (n < 0) = false := decide_eq_false h0
    have G0 := Lib.hid h0
    clear h0
    go_enter Try.func114, Try.ntmps114
    go_wp2
    go_loop [6] (fun v => ∃ k : Nat, v = .int .i64 k ∧ k ≤ l.length ∧ Hid (∀ j, j < k → l.getD j 0 < n)) (fun v => l.length - (intOf v).toNat)
    case atStart => exact ⟨0, rfl, Nat.zero_le _, fun j hj => by omega⟩
    case round =>
      obtain ⟨k, rfl, hk, H⟩ := hrel
      by_cases hlt : k < l.length
      · obtain ⟨ad, rfl, hc⟩ := HL.out k hlt
        obtain ⟨x, ex⟩ : ∃ x, l.getD k 0 = x := ⟨_, rfl⟩
        rw [ex] at hc
        by_cases hx : n ≤ x
        · have e := Lib.hid (forC_some l n (by have := G0.out; omega) k hlt H.out (by rw [ex]; exact hx))
          have hx' : decide (n ≤ x) = true := decide_eq_true hx
          clear hx ex
          go_wp2
          go_ret2
          exact ⟨by rw [e.out]; rfl, rfl⟩
        · have hx' : decide (n ≤ x) = false := decide_eq_false hx
          have X : Hid (l.getD k 0 < n) := by rw [ex]; show x < n; omega
          clear hx ex
          go_wp2
          go_round
          case rel => exact ⟨k + 1, by go_num, by omega, fun j hj => by
            by_cases e : j = k
            · subst e; exact X.out
            · exact H.out j (by omega)⟩
          case measure => simp [intOf]; omega
      · have e := Lib.hid (forC_none l n (by have := G0.out; omega) (fun j hj => H.out j (by omega)))
        go_wp2
        go_ret2
        exact ⟨by rw [e.out]; rfl, rfl⟩

end Go.Proofs.Ytolpjgpimholcaa.Need
