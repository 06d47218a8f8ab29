/- Pieces of a row of the call's own: s[:n] and s[n:]. No program in sight. -/
import Derived.Test.YtolpjgpimholcaaApp
import Derived.Test.YtolpjgpimholcaaRefArena
namespace Go.Proofs.Ytolpjgpimholcaa.Mem
open Go Go.RowKit
set_option linter.unusedVariables false
theorem Sl.part {w : World} {k : IntKind} {A : Option Addr} {l : List Int} (h : Sl w k A l) (i n : Nat) (hn : i + n ≤ l.length) : Sl w k (A.map (·.add i)) ((l.drop i).take n) := by
  intro j hj
  have hj' : j < n := by rw [List.length_take, List.length_drop] at hj; omega
  obtain ⟨ad, rfl, hc⟩ := h (i + j) (by omega)
  refine ⟨ad.add i, rfl, ?_⟩
  rw [add_add, hc]
  congr 2
  rw [List.getD_eq_getElem?_getD, List.getD_eq_getElem?_getD, List.getElem?_take, if_pos hj', List.getElem?_drop]
theorem Own.nilc {w : World} {base : Nat} {e : TypeId} {k : IntKind} {A : Option Addr} {m c : Nat} {l : List Int} (h : Own w base e k (.slice A m c) l) : A = none → c = 0 := by
  rcases h.2 with ⟨e1, h0⟩ | ⟨g, cap, cur, e1, _, _, h1, _⟩
  · injection e1 with e2 e3 e4
    exact fun _ => e4
  · injection e1 with e2 e3 e4
    subst e2
    exact fun q => by cases q
/-- s[:n] -/
theorem slice_to {P : Program} {t : TypeId} (ht : P.underlying t = some (.slice (P.elem t))) (hz : ∀ W, (Go.sizeOf (P.elem t)).run P W = .ok 1 W) {w : World} {base : Nat} {e : TypeId} {k : IntKind} {A : Option Addr} {m c : Nat} {l : List Int}
    (h : Own w base e k (.slice A m c) l) (n : Nat) (hn : n ≤ l.length) : ∃ A' c', (∀ W, (Instr.sliceAt t (.slice A m c) none (some (.int .i64 n)) none).run P W = .ok (.slice A' n c') W) ∧ Sl w k A' (l.take n) ∧ (A' = none → c' = 0) := by
  have hs := h.sl
  have hcap : l.length ≤ c ∧ (A = none → c = 0) := by
    rcases h.2 with ⟨e1, h0⟩ | ⟨g, cap, cur, e1, _, _, h1, _⟩
    · injection e1 with e2 e3 e4
      subst e4
      exact ⟨by omega, fun _ => rfl⟩
    · injection e1 with e2 e3 e4
      subst e2 e4
      exact ⟨h1, fun q => by cases q⟩
  refine ⟨if c = 0 then A else A.map (·.add 0), c, fun W => ?_, ?_, fun q => ?_⟩
  · rw [run_sliceAt_slice W t _ _ _ _ ht, run_slice_h W t A m c ht .i64 n (by omega) (by omega), hz]
    show Result.ok (sliced A 0 ((n : Int)).toNat c 1) W = _
    have e1 : ((n : Int)).toNat = n := by omega
    rw [e1]
    unfold sliced
    simp
  · split
    · have : l.take n = [] := by
        have : n = 0 := by omega
        rw [this]; rfl
      rw [this]
      exact Sl.nil _ _ _
    · have := hs.part 0 n (by omega)
      rw [List.drop_zero] at this
      exact this
  · split at q
    · assumption
    · cases A with
      | none => exact hcap.2 rfl
      | some ad => cases q
/-- s[n:] -/
theorem slice_from {P : Program} {t : TypeId} (ht : P.underlying t = some (.slice (P.elem t))) (hz : ∀ W, (Go.sizeOf (P.elem t)).run P W = .ok 1 W) {w : World} {base : Nat} {e : TypeId} {k : IntKind} {A : Option Addr} {m c : Nat} {l : List Int}
    (h : Own w base e k (.slice A m c) l) (n q : Nat) (hq : n + q = l.length) : ∃ A' c', (∀ W, (Instr.sliceAt t (.slice A m c) (some (.int .i64 n)) none none).run P W = .ok (.slice A' q c') W) ∧ Sl w k A' (l.drop n) ∧ (A' = none → c' = 0) := by
  have hs := h.sl
  have hcap : m = l.length ∧ l.length ≤ c ∧ (A = none → c = 0) := by
    rcases h.2 with ⟨e1, h0⟩ | ⟨g, cap, cur, e1, _, _, h1, _⟩
    · injection e1 with e2 e3 e4
      subst e3 e4
      exact ⟨by omega, by omega, fun _ => rfl⟩
    · injection e1 with e2 e3 e4
      subst e2 e4
      exact ⟨e3, h1, fun q => by cases q⟩
  refine ⟨if c = n then A else A.map (·.add n), c - n, fun W => ?_, ?_, fun q => ?_⟩
  · rw [run_sliceAt_slice W t _ _ _ _ ht, run_slice_l W t A m c ht .i64 n (by omega) (by omega), hz]
    show Result.ok (sliced A ((n : Int)).toNat m c 1) W = _
    have e1 : ((n : Int)).toNat = n := by omega
    rw [e1]
    unfold sliced
    rw [Nat.mul_one, show m - n = q from by omega]
  · split
    · have : l.drop n = [] := List.drop_eq_nil_of_le (by omega)
      rw [this]
      exact Sl.nil _ _ _
    · have := hs.part n q (by omega)
      rw [List.take_of_length_le (by rw [List.length_drop]; omega)] at this
      exact this
  · split at q
    · omega
    · cases A with
      | none => have := hcap.2.2 rfl; omega
      | some ad => cases q
end Go.Proofs.Ytolpjgpimholcaa.Mem
