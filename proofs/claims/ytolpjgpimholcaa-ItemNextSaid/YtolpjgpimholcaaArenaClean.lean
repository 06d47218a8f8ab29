/- The walk of the law ArenaClean: it returns true at any number of pages, place, bytes and page. -/
import Derived.Test.YtolpjgpimholcaaArenaPages
import Derived.BigQuiet
import Derived.Deep.QuietTactic
namespace Go.Proofs.Ytolpjgpimholcaa.Arena
open Go Go.RowKit Go.Proofs.Ytolpjgpimholcaa.Mem Go.Proofs.Ytolpjgpimholcaa.CodecPure Go.Proofs.Ytolpjgpimholcaa.ArenaPure Go.Proofs.Ytolpjgpimholcaa.Codec
set_option linter.unusedVariables false
set_option maxRecDepth 100000
/-- k pages granted, each with b at its place; the others free and clean -/
structure CInv (s : St) (n k at_ : Nat) (b : List Int) : Prop where
  ok : Ok s
  own : s.own = List.replicate k 0 ++ List.replicate (n - k) (-1)
  kn : k ≤ n
  pages : ∀ i, i < n → pg s.B i = if i < k then splice Z1024 at_ b else Z1024
theorem CInv.len {s : St} {n k at_ : Nat} {b : List Int} (h : CInv s n k at_ b) : s.own.length = n := by
  have := h.kn
  rw [h.own, List.length_append, List.length_replicate, List.length_replicate]; omega
theorem CInv.get {s : St} {n k at_ : Nat} {b : List Int} (h : CInv s n k at_ b) (i : Nat) (hi : i < n) : s.own.getD i 0 = if i < k then 0 else -1 := by
  have := h.kn
  rw [h.own, List.getD_eq_getElem?_getD]
  by_cases e : i < k
  · rw [if_pos e, List.getElem?_append_left (by rw [List.length_replicate]; exact e), List.getElem?_replicate, if_pos e]; rfl
  · rw [if_neg e, List.getElem?_append_right (by rw [List.length_replicate]; omega), List.length_replicate, List.getElem?_replicate, if_pos (by omega)]; rfl
theorem CInv.start (n at_ : Nat) (b : List Int) (h1 : 1 ≤ n) (h2 : n ≤ 32) : CInv (new n) n 0 at_ b :=
  ⟨new_ok n h1 h2, by simp [new], Nat.zero_le _, fun i hi => by rw [if_neg (by omega)]; exact new_pg n i hi⟩
theorem set_next (n k : Nat) (h : k < n) : (List.replicate k (0 : Int) ++ List.replicate (n - k) (-1)).set k 0 = List.replicate (k + 1) 0 ++ List.replicate (n - (k + 1)) (-1) := by
  apply List.ext_getElem?
  intro i
  rw [List.getElem?_set]
  by_cases e : k = i
  · subst e
    rw [if_pos rfl, if_pos (by rw [List.length_append, List.length_replicate, List.length_replicate]; omega), List.getElem?_append_left (by rw [List.length_replicate]; omega), List.getElem?_replicate, if_pos (by omega)]
  · rw [if_neg e]
    by_cases h1 : i < k
    · rw [List.getElem?_append_left (by rw [List.length_replicate]; omega), List.getElem?_append_left (by rw [List.length_replicate]; omega), List.getElem?_replicate, List.getElem?_replicate, if_pos h1, if_pos (by omega)]
    · rw [List.getElem?_append_right (by rw [List.length_replicate]; omega), List.getElem?_append_right (by rw [List.length_replicate]; omega), List.length_replicate, List.length_replicate, List.getElem?_replicate, List.getElem?_replicate]
      by_cases h2 : i < n
      · rw [if_pos (by omega), if_pos (by omega)]
      · rw [if_neg (by omega), if_neg (by omega)]
theorem CInv.step {s : St} {n k at_ : Nat} {b : List Int} (h : CInv s n k at_ b) (hk : k < n) (ha : at_ < 500) (hb : b.length ≤ 500) (hB : Bytes b) :
    ∃ s1 s2, grant s 0 = (s1, (k : Int), 0) ∧ write s1 (1024 * (k : Int) + at_) b = (s2, 0) ∧ CInv s2 n (k + 1) at_ b := by
  have hl := h.len
  have fe : first s.own = k := first_eq _ _ (by rw [hl]; exact hk) (by rw [h.get k hk, if_neg (by omega)]; decide) fun j hj => by rw [h.get j (by omega), if_pos hj]; decide
  have G : grant s 0 = (granted s k 0, (k : Int), 0) := by
    unfold grant
    rw [if_neg (by decide), fe, if_pos (by rw [hl]; exact hk)]; rfl
  have ok1 : Ok (granted s k 0) := granted_ok h.ok k 0 (by rw [hl]; exact hk) (by decide)
  have hl1 : (granted s k 0).own.length = n := by simp [granted, hl]
  have e1 : ((1024 * (k : Int) + at_) / 1024).toNat = k := by omega
  have e2 : ((1024 * (k : Int) + at_) % 1024).toNat = at_ := by omega
  have W : within (granted s k 0) (1024 * (k : Int) + at_) b.length := by
    unfold within
    rw [hl1, e1]
    refine ⟨by omega, by omega, by omega, ?_, by omega⟩
    show 0 ≤ (s.own.set k 0).getD k 0
    rw [getD_set _ _ _ _ (by rw [hl]; exact hk), if_pos rfl]; decide
  refine ⟨_, _, G, if_pos W, ?_, ?_, by omega, fun i hi => ?_⟩
  · exact lay_ok ok1 (by have := in_row ok1 W; omega) hB
  · show s.own.set k 0 = _
    rw [h.own]; exact set_next n k hk
  · rw [lay_page ok1 W i (by rw [hl1]; exact hi), e1, e2]
    have gp : pg (granted s k 0).B i = if i = k then Z1024 else pg s.B i := granted_pg h.ok k i (by rw [hl]; exact hk) (by rw [hl]; exact hi)
    rw [gp]
    by_cases e : i = k
    · rw [if_pos e, if_pos e, if_pos (by omega)]
    · rw [if_neg e, if_neg e, h.pages i hi]
      by_cases e3 : i < k
      · rw [if_pos e3, if_pos (by omega)]
      · rw [if_neg e3, if_neg (by omega)]
theorem CInv.last {s : St} {n at_ : Nat} {b : List Int} (h : CInv s n n at_ b) (p : Nat) (hp : p < n) :
    ∃ s1 s2, ArenaPure.ret s p = (s1, 0) ∧ grant s1 1 = (s2, (p : Int), 0) ∧ ∀ i, i < n → readA s2 (1024 * (i : Int)) 1024 = (if i = p then Z1024 else splice Z1024 at_ b, 0) := by
  have hl := h.len
  have hpl : p < s.own.length := by rw [hl]; exact hp
  have R : ArenaPure.ret s p = (⟨s.own.set p (-1), s.B⟩, 0) := by
    unfold ArenaPure.ret
    rw [if_neg (by omega), Int.toNat_natCast, if_neg (by rw [h.get p hp, if_pos hp]; decide)]
  have ok1 : Ok (⟨s.own.set p (-1), s.B⟩ : St) := ok_set h.ok p (-1) hpl (by decide) _ rfl h.ok.bytes
  have hl1 : (s.own.set p (-1)).length = n := by rw [List.length_set]; exact hl
  have fe : first (s.own.set p (-1)) = p := first_eq _ _ (by rw [hl1]; exact hp) (by rw [getD_set _ _ _ _ hpl, if_pos rfl]; decide) fun j hj => by rw [getD_set _ _ _ _ hpl, if_neg (by omega), h.get j (by omega), if_pos (by omega)]; decide
  have G : grant ⟨s.own.set p (-1), s.B⟩ 1 = (granted ⟨s.own.set p (-1), s.B⟩ p 1, (p : Int), 0) := by
    unfold grant
    show (if _ then _ else if first (s.own.set p (-1)) < (s.own.set p (-1)).length then _ else _) = _
    rw [if_neg (by decide), fe, if_pos (by rw [hl1]; exact hp)]; rfl
  have ok2 := granted_ok ok1 p 1 (by show p < (s.own.set p (-1)).length; rw [hl1]; exact hp) (by decide)
  have hl2 : (granted ⟨s.own.set p (-1), s.B⟩ p 1).own.length = n := by simp [granted, hl]
  refine ⟨_, _, R, G, fun i hi => ?_⟩
  have e1 : ((1024 * (i : Int)) / 1024).toNat = i := by omega
  have e2 : ((1024 * (i : Int)) % 1024).toNat = 0 := by omega
  have W : within (granted ⟨s.own.set p (-1), s.B⟩ p 1) (1024 * (i : Int)) 1024 := by
    unfold within
    rw [hl2, e1]
    refine ⟨by omega, by omega, by omega, ?_, by omega⟩
    show 0 ≤ ((s.own.set p (-1)).set p 1).getD i 0
    rw [getD_set _ _ _ _ (by rw [hl1]; exact hp)]
    by_cases e : i = p
    · rw [if_pos e]; decide
    · rw [if_neg e, getD_set _ _ _ _ hpl, if_neg e, h.get i hi, if_pos hi]; decide
  unfold readA
  rw [if_pos W, got_page ok2 W, e1, e2, List.drop_zero]
  have gp : pg (granted ⟨s.own.set p (-1), s.B⟩ p 1).B i = if i = p then Z1024 else pg s.B i := granted_pg ok1 p i (by show p < (s.own.set p (-1)).length; rw [hl1]; exact hp) (by show i < (s.own.set p (-1)).length; rw [hl1]; exact hi)
  have lp := pg_length ok2 i (by rw [hl2]; exact hi)
  rw [List.take_of_length_le (by rw [lp]; decide), gp, h.pages i hi, if_pos hi]
/-- a byte of what is read -/
def seen (i p at_ k : Nat) (b : List Int) : Int := if i ≠ p ∧ at_ ≤ k ∧ k < at_ + b.length then b.getD (k - at_) 0 else 0
theorem seen_eq (i p at_ k : Nat) (b : List Int) (h : at_ + b.length ≤ 1024) (hk : k < 1024) : (if i = p then Z1024 else splice Z1024 at_ b).getD k 0 = seen i p at_ k b := by
  unfold seen
  by_cases e : i = p
  · rw [if_pos e, if_neg (by omega), Z1024_getD]
  · rw [if_neg e, List.getD_eq_getElem?_getD, splice_get _ _ _ (by rw [Z1024_length]; exact h)]
    by_cases h2 : at_ ≤ k ∧ k < at_ + b.length
    · rw [if_pos h2, if_pos ⟨e, h2⟩, List.getD_eq_getElem?_getD]
    · rw [if_neg h2, if_neg (fun h => h2 h.2), ← List.getD_eq_getElem?_getD, Z1024_getD]
end Go.Proofs.Ytolpjgpimholcaa.Arena
