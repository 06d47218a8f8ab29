/- The walk of the law ArenaKeeps: it returns true at any place, bytes and acts. -/
import Derived.Test.YtolpjgpimholcaaArenaClean
namespace Go.Proofs.Ytolpjgpimholcaa.Arena
open Go Go.RowKit Go.Proofs.Ytolpjgpimholcaa.Mem Go.Proofs.Ytolpjgpimholcaa.CodecPure Go.Proofs.Ytolpjgpimholcaa.ArenaPure Go.Proofs.Ytolpjgpimholcaa.Codec
set_option linter.unusedVariables false
set_option maxRecDepth 100000
/-- page 0 is granted, and b lies in it from A on -/
structure KInv (s : St) (A : Nat) (b : List Int) : Prop where
  ok : Ok s
  len : s.own.length = 4
  own : 0 ≤ s.own.getD 0 0
  byt : (s.B.drop A).take b.length = b
  fit : A + b.length ≤ 900
theorem splice_far (L X : List Int) (off a n : Nat) (h : off + X.length ≤ L.length) (hf : a + n ≤ off ∨ off + X.length ≤ a) : ((splice L off X).drop a).take n = (L.drop a).take n := by
  apply List.ext_getElem?
  intro i
  rw [List.getElem?_take, List.getElem?_take]
  by_cases hi : i < n
  · rw [if_pos hi, if_pos hi, List.getElem?_drop, List.getElem?_drop, splice_get _ _ _ h, if_neg (by omega)]
  · rw [if_neg hi, if_neg hi]
theorem KInv.grant {s : St} {A : Nat} {b : List Int} (h : KInv s A b) (c : Int) : KInv (grant s c).1 A b := by
  unfold ArenaPure.grant
  by_cases h1 : c < 0 ∨ 8 ≤ c
  · rw [if_pos h1]; exact h
  · rw [if_neg h1]
    by_cases h2 : first s.own < s.own.length
    · rw [if_pos h2]
      have hk : first s.own ≠ 0 := fun e => by
        have := first_at s.own h2
        rw [e] at this
        have := h.own
        omega
      have hl := h.ok.len
      have hz : 1024 * first s.own + Z1024.length ≤ s.B.length := by rw [Z1024_length]; omega
      refine ⟨granted_ok h.ok _ c h2 (by omega), by show (s.own.set _ c).length = 4; rw [List.length_set]; exact h.len, ?_, ?_, h.fit⟩
      · show 0 ≤ (s.own.set (first s.own) c).getD 0 0
        rw [getD_set _ _ _ _ h2, if_neg (fun e => hk e.symm)]; exact h.own
      · show ((splice s.B (1024 * first s.own) Z1024).drop A).take b.length = b
        rw [splice_far _ _ _ _ _ hz (.inl (by have := h.fit; omega))]; exact h.byt
    · rw [if_neg h2]; exact h
theorem KInv.ret {s : St} {A : Nat} {b : List Int} (h : KInv s A b) (n : Int) (hn : n ≠ 0) : KInv (ArenaPure.ret s n).1 A b := by
  unfold ArenaPure.ret
  by_cases h1 : n < 0 ∨ (s.own.length : Int) ≤ n
  · rw [if_pos h1]; exact h
  · rw [if_neg h1]
    by_cases h2 : s.own.getD n.toNat 0 < 0
    · rw [if_pos h2]; exact h
    · rw [if_neg h2]
      have hi : n.toNat < s.own.length := by omega
      refine ⟨ok_set h.ok _ (-1) hi (by decide) _ rfl h.ok.bytes, by show (s.own.set _ (-1)).length = 4; rw [List.length_set]; exact h.len, ?_, h.byt, h.fit⟩
      show 0 ≤ (s.own.set n.toNat (-1)).getD 0 0
      rw [getD_set _ _ _ _ hi, if_neg (by omega)]; exact h.own
theorem KInv.write {s : St} {A : Nat} {b : List Int} (h : KInv s A b) (at_ : Int) (l : List Int) (ha : (A : Int) + b.length ≤ at_) (hl : Bytes l) : KInv (write s at_ l).1 A b := by
  unfold ArenaPure.write
  by_cases h1 : within s at_ l.length
  · rw [if_pos h1]
    have hr := in_row h.ok h1
    exact ⟨lay_ok h.ok (by omega) hl, h.len, h.own, by show ((splice s.B at_.toNat l).drop A).take b.length = b; rw [splice_far _ _ _ _ _ (by omega) (.inl (by omega))]; exact h.byt, h.fit⟩
  · rw [if_neg h1]; exact h
theorem KInv.within {s : St} {A : Nat} {b : List Int} (h : KInv s A b) : within s A b.length := by
  have := h.fit
  unfold ArenaPure.within
  rw [h.len]
  have e : ((A : Int) / 1024).toNat = 0 := by omega
  rw [e]
  exact ⟨by omega, by omega, by omega, h.own, by omega⟩
theorem KInv.read {s : St} {A : Nat} {b : List Int} (h : KInv s A b) : readA s A b.length = (b, 0) := by
  unfold readA
  rw [if_pos h.within]
  show (got s A b.length, (0 : Int)) = _
  unfold got
  rw [Int.toNat_natCast, Int.toNat_natCast, h.byt]
def K1 : St := (grant (new 4) 1).1
theorem K1_own : K1.own = [1, -1, -1, -1] := by decide +kernel
theorem K1_ok : Ok K1 := by
  have : K1 = granted (new 4) 0 1 := rfl
  rw [this]
  exact granted_ok (new_ok 4 (by decide) (by decide)) 0 1 (by decide) (by decide)
theorem KInv.start (A : Nat) (b : List Int) (hA : A < 400) (hb : b.length ≤ 500) (hB : Bytes b) : (ArenaPure.write K1 A b) = ((ArenaPure.write K1 A b).1, 0) ∧ KInv (ArenaPure.write K1 A b).1 A b := by
  have W : ArenaPure.within K1 A b.length := by
    unfold ArenaPure.within
    rw [K1_own]
    have e : ((A : Int) / 1024).toNat = 0 := by omega
    rw [e]
    exact ⟨by omega, by omega, by simp; omega, by decide, by omega⟩
  have hr := in_row K1_ok W
  unfold ArenaPure.write
  rw [if_pos W]
  refine ⟨rfl, lay_ok K1_ok (by omega) hB, by show K1.own.length = 4; rw [K1_own]; rfl, by show 0 ≤ K1.own.getD 0 0; rw [K1_own]; decide, ?_, by omega⟩
  show ((splice K1.B ((A : Int)).toNat b).drop A).take b.length = b
  rw [Int.toNat_natCast]
  apply List.ext_getElem?
  intro i
  rw [List.getElem?_take]
  by_cases hi : i < b.length
  · rw [if_pos hi, List.getElem?_drop, splice_get _ _ _ (by omega), if_pos (by omega), Nat.add_sub_cancel_left]
  · rw [if_neg hi, List.getElem?_eq_none (by omega)]
end Go.Proofs.Ytolpjgpimholcaa.Arena
