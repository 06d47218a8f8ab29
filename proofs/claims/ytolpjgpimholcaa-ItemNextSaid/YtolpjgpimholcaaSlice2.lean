/- Pieces of any row: s[n:], s[:n]. No program in sight. -/
import Derived.Test.YtolpjgpimholcaaSlice
namespace Go.Proofs.Ytolpjgpimholcaa.Mem
open Go Go.RowKit
set_option linter.unusedVariables false
/-- a slice value over numbers, wherever they lie -/
structure SlV (w : World) (k : IntKind) (v : Value) (l : List Int) : Prop where
  v : ∃ A c, v = .slice A l.length c ∧ Sl w k A l ∧ l.length ≤ c ∧ c ≤ maxLen ∧ (A = none → c = 0)
theorem SlV.of {w : World} {k : IntKind} {A : Option Addr} {n c : Nat} {l : List Int} (hs : Sl w k A l) (hn : n = l.length) (hc : n ≤ c) (hm : c ≤ maxLen) (h0 : A = none → c = 0) : SlV w k (.slice A n c) l := by
  subst hn; exact ⟨A, c, rfl, hs, hc, hm, h0⟩
theorem RowOf.slv {w : World} {k : IntKind} {A : Option Addr} {c b : Nat} {l : List Int} (h : RowOf w k A c l b) : SlV w k (.slice A l.length c) l := ⟨A, c, rfl, h.sl, h.cap, h.most, fun e => (h.nil e).2⟩
theorem Own.slv {w : World} {base : Nat} {e : TypeId} {k : IntKind} {v : Value} {l : List Int} (h : Own w base e k v l) : SlV w k v l := by
  obtain ⟨A, c, rfl⟩ := h.form
  refine ⟨A, c, rfl, h.sl, ?_, ?_, h.nilc⟩
  · rcases h.2 with ⟨e1, h0⟩ | ⟨g, cap, cur, e1, _, _, h1, h2, _⟩
    · injection e1 with e2 e3 e4; omega
    · injection e1 with e2 e3 e4; omega
  · rcases h.2 with ⟨e1, h0⟩ | ⟨g, cap, cur, e1, _, _, h1, h2, _⟩
    · injection e1 with e2 e3 e4; subst e4; exact Nat.zero_le _
    · injection e1 with e2 e3 e4; omega
theorem SlV.chg {w w' : World} {k : IntKind} {v : Value} {l : List Int} (h : SlV w k v l) (hc : Chg (fun _ => False) w w') : SlV w' k v l := by
  obtain ⟨A, c, e, h1, h2⟩ := h.v
  exact ⟨A, c, e, h1.chg hc fun _ _ => id, h2⟩
theorem SlV.later {w w' : World} {k : IntKind} {v : Value} {l : List Int} {B : Nat} (h : SlV w k v l) (hc : Chg (fun b => B ≤ b) w w') (hB : w.heap.size ≤ B) : SlV w' k v l := by
  obtain ⟨A, c, e, h1, h2⟩ := h.v
  exact ⟨A, c, e, h1.later hc hB, h2⟩
/-- s[n:] -/
theorem SlV.from {P : Program} {t : TypeId} (ht : P.underlying t = some (.slice (P.elem t))) (hz : ∀ W, (Go.sizeOf (P.elem t)).run P W = .ok 1 W) {w : World} {k : IntKind} {v : Value} {l : List Int}
    (h : SlV w k v l) (n : Nat) (hn : n ≤ l.length) : ∃ v', (∀ W, (Instr.sliceAt t v (some (.int .i64 n)) none none).run P W = .ok v' W) ∧ SlV w k v' (l.drop n) := by
  obtain ⟨A, c, rfl, hs, hc, hm, h0⟩ := h.v
  refine ⟨.slice (if c = n then A else A.map (·.add n)) (l.drop n).length (c - n), fun W => ?_, .of ?_ rfl ?_ (by omega) ?_⟩
  · rw [run_sliceAt_slice W t _ _ _ _ ht, run_slice_l W t A l.length c ht .i64 n (by omega) (by omega), hz]
    show Result.ok (sliced A ((n : Int)).toNat l.length c 1) W = _
    have e1 : ((n : Int)).toNat = n := by omega
    rw [e1]
    unfold sliced
    rw [Nat.mul_one, List.length_drop]
  · split
    · have : l.drop n = [] := List.drop_eq_nil_of_le (by omega)
      rw [this]
      exact Sl.nil _ _ _
    · have := hs.part n (l.length - n) (by omega)
      rw [List.take_of_length_le (by rw [List.length_drop]; omega)] at this
      exact this
  · rw [List.length_drop]; omega
  · intro q
    split at q
    · omega
    · cases A with
      | none => have := h0 rfl; omega
      | some ad => cases q
/-- s[:n] -/
theorem SlV.to {P : Program} {t : TypeId} (ht : P.underlying t = some (.slice (P.elem t))) (hz : ∀ W, (Go.sizeOf (P.elem t)).run P W = .ok 1 W) {w : World} {k : IntKind} {v : Value} {l : List Int}
    (h : SlV w k v l) (n : Nat) (hn : n ≤ l.length) : ∃ v', (∀ W, (Instr.sliceAt t v none (some (.int .i64 n)) none).run P W = .ok v' W) ∧ SlV w k v' (l.take n) := by
  obtain ⟨A, c, rfl, hs, hc, hm, h0⟩ := h.v
  refine ⟨.slice (if c = 0 then A else A.map (·.add 0)) n c, fun W => ?_, .of ?_ (by rw [List.length_take]; omega) (by omega) hm ?_⟩
  · rw [run_sliceAt_slice W t _ _ _ _ ht, run_slice_h W t A l.length c ht .i64 n (by omega) (by omega), hz]
    show Result.ok (sliced A 0 ((n : Int)).toNat c 1) W = _
    have e1 : ((n : Int)).toNat = n := by omega
    rw [e1]
    unfold sliced
    simp
  · split
    · have : l.take n = [] := by
        have : n = 0 := by omega
        rw [this]; rfl
      rw [this]
      exact Sl.nil _ _ _
    · have := hs.part 0 n (by omega)
      rw [List.drop_zero] at this
      exact this
  · intro q
    split at q
    · assumption
    · cases A with
      | none => exact h0 rfl
      | some ad => cases q
/-- s[n:] -/
theorem SlV.fromB {P : Program} {t : TypeId} (ht : P.underlying t = some (.slice (P.elem t))) (hz : ∀ W, (Go.sizeOf (P.elem t)).run P W = .ok 1 W) {w : World} {k : IntKind} {v : Value} {l : List Int}
    (h : SlV w k v l) (n : Nat) (hn : n ≤ l.length) : ∃ v', (∀ W, (Instr.sliceAt t v (some (.int .i64 n)) none none).run P W = .ok v' W) ∧ SlV w k v' (l.drop n) ∧ (∀ g, v'.ownBlock = some g → v.ownBlock = some g) := by
  obtain ⟨A, c, rfl, hs, hc, hm, h0⟩ := h.v
  refine ⟨.slice (if c = n then A else A.map (·.add n)) (l.drop n).length (c - n), fun W => ?_, .of ?_ rfl ?_ (by omega) ?_, fun g hg => ?_⟩
  · rw [run_sliceAt_slice W t _ _ _ _ ht, run_slice_l W t A l.length c ht .i64 n (by omega) (by omega), hz]
    show Result.ok (sliced A ((n : Int)).toNat l.length c 1) W = _
    have e1 : ((n : Int)).toNat = n := by omega
    rw [e1]
    unfold sliced
    rw [Nat.mul_one, List.length_drop]
  · split
    · have : l.drop n = [] := List.drop_eq_nil_of_le (by omega)
      rw [this]
      exact Sl.nil _ _ _
    · have := hs.part n (l.length - n) (by omega)
      rw [List.take_of_length_le (by rw [List.length_drop]; omega)] at this
      exact this
  · rw [List.length_drop]; omega
  · intro q
    split at q
    · omega
    · cases A with
      | none => have := h0 rfl; omega
      | some ad => cases q
  · split at hg
    · cases A with
      | none => cases hg
      | some ad => exact hg
    · cases A with
      | none => cases hg
      | some ad =>
        simp only [Value.ownBlock, Option.map_some] at hg ⊢
        rw [← hg, add_block]
/-- s[:n] -/
theorem SlV.toB {P : Program} {t : TypeId} (ht : P.underlying t = some (.slice (P.elem t))) (hz : ∀ W, (Go.sizeOf (P.elem t)).run P W = .ok 1 W) {w : World} {k : IntKind} {v : Value} {l : List Int}
    (h : SlV w k v l) (n : Nat) (hn : n ≤ l.length) : ∃ v', (∀ W, (Instr.sliceAt t v none (some (.int .i64 n)) none).run P W = .ok v' W) ∧ SlV w k v' (l.take n) ∧ (∀ g, v'.ownBlock = some g → v.ownBlock = some g) := by
  obtain ⟨A, c, rfl, hs, hc, hm, h0⟩ := h.v
  refine ⟨.slice (if c = 0 then A else A.map (·.add 0)) n c, fun W => ?_, .of ?_ (by rw [List.length_take]; omega) (by omega) hm ?_, fun g hg => ?_⟩
  · rw [run_sliceAt_slice W t _ _ _ _ ht, run_slice_h W t A l.length c ht .i64 n (by omega) (by omega), hz]
    show Result.ok (sliced A 0 ((n : Int)).toNat c 1) W = _
    have e1 : ((n : Int)).toNat = n := by omega
    rw [e1]
    unfold sliced
    simp
  · split
    · have : l.take n = [] := by
        have : n = 0 := by omega
        rw [this]; rfl
      rw [this]
      exact Sl.nil _ _ _
    · have := hs.part 0 n (by omega)
      rw [List.drop_zero] at this
      exact this
  · intro q
    split at q
    · assumption
    · cases A with
      | none => exact h0 rfl
      | some ad => cases q
  · split at hg
    · cases A with
      | none => cases hg
      | some ad => exact hg
    · cases A with
      | none => cases hg
      | some ad =>
        simp only [Value.ownBlock, Option.map_some] at hg ⊢
        rw [← hg, add_block]
/-- a slice whose row lies apart from what turned -/
theorem SlV.off {w w' : World} {k : IntKind} {v : Value} {l : List Int} {S : Nat → Prop} (h : SlV w k v l) (hc : Chg S w w') (ho : ∀ g, v.ownBlock = some g → ¬ S g) : SlV w' k v l := by
  obtain ⟨A, c, rfl, h1, h2⟩ := h.v
  exact ⟨A, c, rfl, h1.chg hc fun ad e => ho _ (by rw [e]; rfl), h2⟩
theorem add_zero (ad : Addr) : ad.add 0 = ad := by unfold Addr.add; rw [if_pos rfl]
end Go.Proofs.Ytolpjgpimholcaa.Mem
