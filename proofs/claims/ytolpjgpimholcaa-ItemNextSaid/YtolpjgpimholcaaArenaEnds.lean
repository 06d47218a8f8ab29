/- The walk of the law ArenaEnds: it returns true at any page and any number. -/
import Derived.Test.YtolpjgpimholcaaArenaHere
import Derived.Test.YtolpjgpimholcaaRefArena3
namespace Go.Proofs.Ytolpjgpimholcaa.Arena
open Go Go.RowKit Go.Proofs.Ytolpjgpimholcaa.Mem Go.Proofs.Ytolpjgpimholcaa.CodecPure Go.Proofs.Ytolpjgpimholcaa.ArenaPure Go.Proofs.Ytolpjgpimholcaa.Codec
set_option linter.unusedVariables false
set_option maxRecDepth 100000
def E (k : Nat) : St := match k with
  | 0 => new 4
  | k + 1 => (grant (E k) (k : Int)).1
theorem E3_own : (E 3).own = [0, 1, 2, -1] := by decide +kernel
/-- a number made small by a uint64's rest -/
theorem small (x : Int) (m : Nat) (h0 : 0 < m) : ∃ p : Nat, p < m ∧ (IntKind.u64.wrap x).tmod m = p ∧ IntKind.u64.wrap x % m = p := by
  have h := Int.emod_nonneg (IntKind.u64.wrap x) (show (m : Int) ≠ 0 by omega)
  have h2 := Int.emod_lt_of_pos (IntKind.u64.wrap x) (show (0 : Int) < m by omega)
  obtain ⟨p, e⟩ := Int.eq_ofNat_of_zero_le h
  have u : 0 ≤ IntKind.u64.wrap x := by rw [u64_wrap]; omega
  exact ⟨p, by omega, by rw [Int.tmod_eq_emod_of_nonneg u]; exact e, e⟩
theorem E_within (p m : Nat) (x : Int) (hp : p < 3) (h1 : 1 ≤ m) (h2 : m ≤ 1024) : within (E 3) (1024 * ((p : Int) + 1) - m) x ↔ 0 ≤ x ∧ x ≤ m := by
  unfold within
  rw [E3_own]
  have e1 : (((1024 : Int) * ((p : Int) + 1) - m) / 1024).toNat = p := by omega
  have e2 : ((1024 : Int) * ((p : Int) + 1) - m) % 1024 = 1024 - m := by omega
  rw [e1, e2]
  have hg : 0 ≤ ([0, 1, 2, -1] : List Int).getD p 0 := by
    rcases p with _ | _ | _ | p
    · decide
    · decide
    · decide
    · omega
  simp only [List.length_cons, List.length_nil]
  omega
theorem bytes_zeros (n : Nat) : Bytes (List.replicate n 0) := fun x hx => by rw [List.eq_of_mem_replicate hx]; decide
end Go.Proofs.Ytolpjgpimholcaa.Arena
