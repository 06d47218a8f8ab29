import Derived.RowKit
import Derived.Test.YtmffdlebahdihaaChecked
import Derived.Test.YtmffdlebahdihaaGa
import Derived.WalkLawsBesides
import Derived.Lib.Hide
import Derived.Deep.QuietTactic
import Derived.BigQuiet
import Derived.Lib.ConvBytes
import Derived.Test.YtmffdlebahdihaaGd
/- Classes of chunks and what an item needs, as plain functions on lists of numbers. No program in sight. -/
namespace Go.Proofs.Ytmffdlebahdihaa.NeedPure
open Go Go.RowKit
set_option linter.unusedVariables false

/-- the first one of a list, from place i on, that is at least n -/
def first (n : Int) : List Int → Nat → Option Nat
  | [], _ => none
  | x :: xs, i => if x ≥ n then some i else first n xs (i + 1)
/-- the class of so many bytes: its number, or the error -/
def forC (l : List Int) (n : Int) : Int × Int :=
  if n < 0 then (0, 1) else match first n l 0 with | some i => ((i : Int), 0) | none => (0, 7)
theorem first_none (n : Int) (l : List Int) : ∀ i, (∀ j, j < l.length → l.getD j 0 < n) → first n l i = none := by
  induction l with
  | nil => intro i h; rfl
  | cons x xs ih =>
    intro i h
    have h0 := h 0 (by simp)
    simp at h0
    unfold first
    rw [if_neg (by omega)]
    refine ih _ fun j hj => ?_
    have := h (j + 1) (by simp; omega)
    simpa using this
theorem first_some (n : Int) (l : List Int) : ∀ (i k : Nat), k < l.length → (∀ j, j < k → l.getD j 0 < n) → l.getD k 0 ≥ n → first n l i = some (i + k) := by
  induction l with
  | nil => intro i k hk; simp at hk
  | cons x xs ih =>
    intro i k hk h hx
    unfold first
    cases k with
    | zero => simp at hx; rw [if_pos hx]; rfl
    | succ k =>
      have h0 := h 0 (by omega)
      simp at h0
      rw [if_neg (by omega), ih (i + 1) k (by simp at hk; omega) (fun j hj => ?_) (by simpa using hx)]
      · congr 1; omega
      · have := h (j + 1) (by omega)
        simpa using this
theorem forC_none (l : List Int) (n : Int) (h0 : 0 ≤ n) (h : ∀ j, j < l.length → l.getD j 0 < n) : forC l n = (0, 7) := by
  unfold forC
  rw [if_neg (by omega), first_none n l 0 h]
theorem forC_some (l : List Int) (n : Int) (h0 : 0 ≤ n) (k : Nat) (hk : k < l.length) (h : ∀ j, j < k → l.getD j 0 < n) (hx : l.getD k 0 ≥ n) : forC l n = ((k : Int), 0) := by
  unfold forC
  rw [if_neg (by omega), first_some n l 0 k hk h hx]
  simp
theorem forC_far (l : List Int) (n : Int) (h : n < 0) : forC l n = (0, 1) := by
  unfold forC; rw [if_pos h]
/-- what the answer says of the list -/
theorem forC_cases (l : List Int) (n : Int) (h0 : 0 ≤ n) : ((forC l n).2 = 0 ∧ ∃ k : Nat, k < l.length ∧ (forC l n).1 = (k : Int) ∧ l.getD k 0 ≥ n) ∨ (forC l n = (0, 7) ∧ ∀ j, j < l.length → l.getD j 0 < n) := by
  by_cases h : ∀ j, j < l.length → l.getD j 0 < n
  · exact .inr ⟨forC_none l n h0 h, h⟩
  · left
    have key : ∀ m, (∃ j, j < m ∧ j < l.length ∧ ¬ l.getD j 0 < n) → ∃ k, k < l.length ∧ (∀ j, j < k → l.getD j 0 < n) ∧ l.getD k 0 ≥ n := by
      intro m
      induction m with
      | zero => rintro ⟨j, hj, _⟩; omega
      | succ m ih =>
        rintro ⟨j, hj, hl, hn⟩
        by_cases hb : ∃ i, i < m ∧ i < l.length ∧ ¬ l.getD i 0 < n
        · exact ih hb
        · refine ⟨j, hl, fun i hi => ?_, by omega⟩
          by_cases hx : l.getD i 0 < n
          · exact hx
          · exact absurd ⟨i, by omega, by omega, hx⟩ hb
    have hex : ∃ j, j < l.length ∧ j < l.length ∧ ¬ l.getD j 0 < n := by
      refine Classical.byContradiction fun hne => h fun j hj => ?_
      by_cases hx : l.getD j 0 < n
      · exact hx
      · exact absurd ⟨j, hj, hj, hx⟩ hne
    obtain ⟨k, hk, ha, hb⟩ := key l.length hex
    rw [forC_some l n h0 k hk ha hb]
    exact ⟨rfl, k, hk, rfl, hb⟩

/-- the last one of a list; nought where there is none -/
def last (l : List Int) : Int := l.getD (l.length - 1) 0
/-- which class an item's first chunk is of, how many more it takes, and the error -/
def needC (l : List Int) (key value : Int) : Int × Int × Int :=
  if key < 1 ∨ key > 32 ∨ value < 0 ∨ value > 2000 then (0, 0, 1)
  else if l = [] ∨ last l < 256 then (0, 0, 6)
  else if (forC l (40 + key + value)).2 = 0 then ((forC l (40 + key + value)).1, 0, 0)
  else ((l.length : Int) - 1, (40 + key + value - last l + (last l - 4) - 1) / (last l - 4), 0)

end Go.Proofs.Ytmffdlebahdihaa.NeedPure

/- The walks of classes.For and item.Need, and of the reference's: what each answers. -/
namespace Go.Proofs.Ytmffdlebahdihaa.Need
open Go.RowKit Go.Proofs.Ytmffdlebahdihaa.Mem Go.Proofs.Ytmffdlebahdihaa.NeedPure
set_option linter.unusedVariables false

theorem for_calls (A : Option Addr) (c : Nat) (l : List Int) (n : Int) (w : World) (hl : Sl w .i64 A l) (hm : l.length ≤ 1000000) :
    Calls Try.prog 112 #[.slice A l.length c, .int .i64 n] w fun e w' => e = .returned (.tuple #[.int .i64 (forC l n).1, .int .i64 (forC l n).2]) ∧ w = w' := by
  have HL := Lib.hid hl
  clear hl
  by_cases h0 : n < 0
  · rw [forC_far l n h0]
    go_enter Try.func112, Try.ntmps112
    go_wp2
    go_ret2
    exact ⟨rfl, rfl⟩
  · have F0 : decide (n < 0) = false := decide_eq_false h0
    have G0 := Lib.hid h0
    clear h0
    go_enter Try.func112, Try.ntmps112
    go_wp2
    go_loop [12] (fun v => ∃ k : Nat, v = .int .i64 k ∧ k ≤ l.length ∧ Hid (∀ j, j < k → l.getD j 0 < n)) (fun v => l.length - (intOf v).toNat)
    case atStart => exact ⟨0, rfl, Nat.zero_le _, fun j hj => by omega⟩
    case round =>
      obtain ⟨k, rfl, hk, H⟩ := hrel
      by_cases hlt : k < l.length
      · obtain ⟨ad, rfl, hc⟩ := HL.out k hlt
        obtain ⟨x, ex⟩ : ∃ x, l.getD k 0 = x := ⟨_, rfl⟩
        rw [ex] at hc
        by_cases hx : n ≤ x
        · have e := Lib.hid (forC_some l n (by have := G0.out; omega) k hlt H.out (by rw [ex]; exact hx))
          have hx' : decide (n ≤ x) = true := decide_eq_true hx
          clear hx ex
          go_wp2
          go_ret2
          exact ⟨by rw [e.out]; rfl, rfl⟩
        · have hx' : decide (n ≤ x) = false := decide_eq_false hx
          have X : Hid (l.getD k 0 < n) := by rw [ex]; show x < n; omega
          clear hx ex
          go_wp2
          go_round
          case rel => exact ⟨k + 1, by go_num, by omega, fun j hj => by
            by_cases e : j = k
            · subst e; exact X.out
            · exact H.out j (by omega)⟩
          case measure => simp [intOf]; omega
      · have e := Lib.hid (forC_none l n (by have := G0.out; omega) (fun j hj => H.out j (by omega)))
        go_wp2
        go_ret2
        exact ⟨by rw [e.out]; rfl, rfl⟩

theorem reffor_calls (A : Option Addr) (c : Nat) (l : List Int) (n : Int) (w : World) (hl : Sl w .i64 A l) (hm : l.length ≤ 1000000) :
    Calls Try.prog 113 #[.slice A l.length c, .int .i64 n] w fun e w' => e = .returned (.tuple #[.int .i64 (forC l n).1, .int .i64 (forC l n).2]) ∧ w = w' := by
  have HL := Lib.hid hl
  clear hl
  by_cases h0 : n < 0
  · rw [forC_far l n h0]
    go_enter Try.func113, Try.ntmps113
    go_wp2
    go_ret2
    exact ⟨rfl, rfl⟩
  · have F0 : decide (n < 0) = false := decide_eq_false h0
    have G0 := Lib.hid h0
    clear h0
    go_enter Try.func113, Try.ntmps113
    go_wp2
    go_loop [6] (fun v => ∃ k : Nat, v = .int .i64 k ∧ k ≤ l.length ∧ Hid (∀ j, j < k → l.getD j 0 < n)) (fun v => l.length - (intOf v).toNat)
    case atStart => exact ⟨0, rfl, Nat.zero_le _, fun j hj => by omega⟩
    case round =>
      obtain ⟨k, rfl, hk, H⟩ := hrel
      by_cases hlt : k < l.length
      · obtain ⟨ad, rfl, hc⟩ := HL.out k hlt
        obtain ⟨x, ex⟩ : ∃ x, l.getD k 0 = x := ⟨_, rfl⟩
        rw [ex] at hc
        by_cases hx : n ≤ x
        · have e := Lib.hid (forC_some l n (by have := G0.out; omega) k hlt H.out (by rw [ex]; exact hx))
          have hx' : decide (n ≤ x) = true := decide_eq_true hx
          clear hx ex
          go_wp2
          go_ret2
          exact ⟨by rw [e.out]; rfl, rfl⟩
        · have hx' : decide (n ≤ x) = false := decide_eq_false hx
          have X : Hid (l.getD k 0 < n) := by rw [ex]; show x < n; omega
          clear hx ex
          go_wp2
          go_round
          case rel => exact ⟨k + 1, by go_num, by omega, fun j hj => by
            by_cases e : j = k
            · subst e; exact X.out
            · exact H.out j (by omega)⟩
          case measure => simp [intOf]; omega
      · have e := Lib.hid (forC_none l n (by have := G0.out; omega) (fun j hj => H.out j (by omega)))
        go_wp2
        go_ret2
        exact ⟨by rw [e.out]; rfl, rfl⟩

end Go.Proofs.Ytmffdlebahdihaa.Need

/- The walks of item.Need and of the reference's Need: both answer needC. -/
namespace Go.Proofs.Ytmffdlebahdihaa.Need
open Go.RowKit Go.Proofs.Ytmffdlebahdihaa.Mem Go.Proofs.Ytmffdlebahdihaa.NeedPure
set_option linter.unusedVariables false

theorem need_far (A : Option Addr) (c : Nat) (l : List Int) (key value : Int) (w : World) (hm : l.length ≤ 1000000) (h : key < 1 ∨ key > 32 ∨ value < 0 ∨ value > 2000) :
    Calls Try.prog 93 #[.slice A l.length c, .int .i64 key, .int .i64 value] w fun e w' => e = .returned (.tuple #[.int .i64 (needC l key value).1, .int .i64 (needC l key value).2.1, .int .i64 (needC l key value).2.2]) ∧ Dr w w' := by
  have e : needC l key value = (0, 0, 1) := by unfold needC; rw [if_pos h]
  rw [e]
  clear e
  by_cases h1 : key < 1
  · clear h
    go_enter Try.func93, Try.ntmps93
    go_wp2
    go_ret3
    exact ⟨rfl, Dr.refl _⟩
  by_cases h2 : key > 32
  · clear h
    go_enter Try.func93, Try.ntmps93
    go_wp2
    go_ret3
    exact ⟨rfl, Dr.refl _⟩
  by_cases h3 : value < 0
  · clear h
    go_enter Try.func93, Try.ntmps93
    go_wp2
    go_ret3
    exact ⟨rfl, Dr.refl _⟩
  have h4 : value > 2000 := by omega
  clear h
  go_enter Try.func93, Try.ntmps93
  go_wp2
  go_ret3
  exact ⟨rfl, Dr.refl _⟩
theorem need_in (A : Option Addr) (c : Nat) (l : List Int) (key value : Int) (w : World) (hl : Sl w .i64 A l) (hm : l.length ≤ 1000000) (hw : ∀ x ∈ l, -9223372036854775808 ≤ x ∧ x ≤ 9223372036854775807)
    (h : ¬ (key < 1 ∨ key > 32 ∨ value < 0 ∨ value > 2000)) :
    Calls Try.prog 93 #[.slice A l.length c, .int .i64 key, .int .i64 value] w fun e w' => e = .returned (.tuple #[.int .i64 (needC l key value).1, .int .i64 (needC l key value).2.1, .int .i64 (needC l key value).2.2]) ∧ Dr w w' := by
  have k1 : 1 ≤ key := by omega
  have k2 : key ≤ 32 := by omega
  have k3 : 0 ≤ value := by omega
  have k4 : value ≤ 2000 := by omega
  have HH := Lib.hid h
  clear h
  have HL := Lib.hid hl
  have HW := Lib.hid hw
  clear hl hw
  by_cases hz : l = []
  · subst hz
    have e : needC [] key value = (0, 0, 6) := by unfold needC; rw [if_neg HH.out, if_pos (.inl rfl)]
    rw [e]
    clear e
    go_enter Try.func93, Try.ntmps93
    go_wp2
    go_ret3
    exact ⟨rfl, Dr.refl _⟩
  have hpos : 0 < l.length := List.length_pos_iff.2 hz
  obtain ⟨ad, rfl, hc0⟩ := HL.out (l.length - 1) (by omega)
  have hc : w.cell? (ad.add (l.length - 1)) = some (.int .i64 (last l)) := hc0
  clear hc0
  have hlm : last l ∈ l := by
    unfold last
    rw [List.getD_eq_getElem?_getD, List.getElem?_eq_getElem (by omega)]
    exact List.getElem_mem _
  have lb := HW.out (last l) hlm
  have HZ := Lib.hid hz
  clear hlm hz
  by_cases hs : last l < 256
  · have e : needC l key value = (0, 0, 6) := by unfold needC; rw [if_neg HH.out, if_pos (.inr hs)]
    rw [e]
    clear e
    go_enter Try.func93, Try.ntmps93
    go_wp2
    go_ret3
    exact ⟨rfl, Dr.refl _⟩
  have e0 : needC l key value = if (forC l (40 + key + value)).2 = 0 then ((forC l (40 + key + value)).1, 0, 0)
      else ((l.length : Int) - 1, (40 + key + value - last l + (last l - 4) - 1) / (last l - 4), 0) := by
    unfold needC
    rw [if_neg HH.out, if_neg (by rintro (h | h); exact HZ.out h; exact hs h)]
  rcases forC_cases l (40 + key + value) (by omega) with ⟨f2, k, hk, f1, hx⟩ | ⟨f, hx⟩
  · rw [e0, if_pos f2, f1]
    have F : Hid (forC l (40 + key + value) = ((k : Int), 0)) := by rw [← f1, ← f2]; rfl
    clear e0 f1 f2 hx
    go_enter Try.func93, Try.ntmps93
    go_wp2_with (go_at_call 112; refine (for_calls _ _ l (40 + key + value) _ HL.out hm).mono ?_; rw [F.out]; rintro e w' ⟨rfl, rfl⟩)
    go_ret3
    exact ⟨rfl, Dr.refl _⟩
  · rw [e0, f, if_neg (by decide)]
    have F := Lib.hid f
    have lt : last l < 40 + key + value := hx (l.length - 1) (by omega)
    clear e0 f hx
    go_enter Try.func93, Try.ntmps93
    go_wp2_with (go_at_call 112; refine (for_calls _ _ l (40 + key + value) _ HL.out hm).mono ?_; rw [F.out]; rintro e w' ⟨rfl, rfl⟩)
    go_quiet (fail)
    go_wp2
    go_quiet (fail)
    go_wp2
    go_ret3
    exact ⟨rfl, ((Dr.refl _).step _).step _⟩

end Go.Proofs.Ytmffdlebahdihaa.Need

/- The walk of the reference's Need: it answers needC. -/
namespace Go.Proofs.Ytmffdlebahdihaa.Need
open Go.RowKit Go.Proofs.Ytmffdlebahdihaa.Mem Go.Proofs.Ytmffdlebahdihaa.NeedPure
set_option linter.unusedVariables false

theorem refneed_far (A : Option Addr) (c : Nat) (l : List Int) (key value : Int) (w : World) (hm : l.length ≤ 1000000) (h : key < 1 ∨ key > 32 ∨ value < 0 ∨ value > 2000) :
    Calls Try.prog 95 #[.slice A l.length c, .int .i64 key, .int .i64 value] w fun e w' => e = .returned (.tuple #[.int .i64 (needC l key value).1, .int .i64 (needC l key value).2.1, .int .i64 (needC l key value).2.2]) ∧ Dr w w' := by
  have e : needC l key value = (0, 0, 1) := by unfold needC; rw [if_pos h]
  rw [e]
  clear e
  by_cases h1 : key < 1
  · clear h
    go_enter Try.func95, Try.ntmps95
    go_wp2
    go_ret3
    exact ⟨rfl, Dr.refl _⟩
  by_cases h2 : key > 32
  · clear h
    go_enter Try.func95, Try.ntmps95
    go_wp2
    go_ret3
    exact ⟨rfl, Dr.refl _⟩
  by_cases h3 : value < 0
  · clear h
    go_enter Try.func95, Try.ntmps95
    go_wp2
    go_ret3
    exact ⟨rfl, Dr.refl _⟩
  have h4 : value > 2000 := by omega
  clear h
  go_enter Try.func95, Try.ntmps95
  go_wp2
  go_ret3
  exact ⟨rfl, Dr.refl _⟩
theorem ceil_of (R E r : Int) (m : Nat) (hE : 1 ≤ E) (h : r = R - m * E) (h1 : -E < r) (h2 : r ≤ 0) : (R + E - 1) / E = m := by
  have e : R + E - 1 = (r + E - 1) + (m : Int) * E := by omega
  rw [e, Int.add_mul_ediv_right _ _ (by omega), Int.ediv_eq_zero_of_lt (by omega) (by omega)]
  omega
theorem refneed_in (A : Option Addr) (c : Nat) (l : List Int) (key value : Int) (w : World) (hl : Sl w .i64 A l) (hm : l.length ≤ 1000000) (hw : ∀ x ∈ l, -9223372036854775808 ≤ x ∧ x ≤ 9223372036854775807)
    (h : ¬ (key < 1 ∨ key > 32 ∨ value < 0 ∨ value > 2000)) :
    Calls Try.prog 95 #[.slice A l.length c, .int .i64 key, .int .i64 value] w fun e w' => e = .returned (.tuple #[.int .i64 (needC l key value).1, .int .i64 (needC l key value).2.1, .int .i64 (needC l key value).2.2]) ∧ Dr w w' := by
  have k1 : 1 ≤ key := by omega
  have k2 : key ≤ 32 := by omega
  have k3 : 0 ≤ value := by omega
  have k4 : value ≤ 2000 := by omega
  have HH := Lib.hid h
  clear h
  have HL := Lib.hid hl
  have HW := Lib.hid hw
  clear hl hw
  by_cases hz : l = []
  · subst hz
    have e : needC [] key value = (0, 0, 6) := by unfold needC; rw [if_neg HH.out, if_pos (.inl rfl)]
    rw [e]
    clear e
    go_enter Try.func95, Try.ntmps95
    go_wp2
    go_ret3
    exact ⟨rfl, Dr.refl _⟩
  have hpos : 0 < l.length := List.length_pos_iff.2 hz
  obtain ⟨ad, rfl, hc0⟩ := HL.out (l.length - 1) (by omega)
  have hlm : last l ∈ l := by
    unfold last
    rw [List.getD_eq_getElem?_getD, List.getElem?_eq_getElem (by omega)]
    exact List.getElem_mem _
  have lb := HW.out (last l) hlm
  obtain ⟨z, ez⟩ : ∃ z, last l = z := ⟨_, rfl⟩
  have hc : w.cell? (ad.add (l.length - 1)) = some (.int .i64 z) := by rw [← ez]; exact hc0
  rw [ez] at lb
  have EZ := Lib.hid ez
  have HZ := Lib.hid hz
  clear hc0 hlm hz ez
  by_cases hs : z < 256
  · have e : needC l key value = (0, 0, 6) := by unfold needC; rw [if_neg HH.out, if_pos (.inr (by rw [EZ.out]; exact hs))]
    rw [e]
    clear e
    go_enter Try.func95, Try.ntmps95
    go_wp2
    go_ret3
    exact ⟨rfl, Dr.refl _⟩
  have e0 : needC l key value = if (forC l (40 + key + value)).2 = 0 then ((forC l (40 + key + value)).1, 0, 0)
      else ((l.length : Int) - 1, (40 + key + value - z + (z - 4) - 1) / (z - 4), 0) := by
    unfold needC
    rw [if_neg HH.out, if_neg (by rw [EZ.out]; rintro (h | h); exact HZ.out h; exact hs h), EZ.out]
  rcases forC_cases l (40 + key + value) (by omega) with ⟨f2, k, hk, f1, hx⟩ | ⟨f, hx⟩
  · rw [e0, if_pos f2, f1]
    have F : Hid (forC l (40 + key + value) = ((k : Int), 0)) := by rw [← f1, ← f2]; rfl
    clear e0 f1 f2 hx
    go_enter Try.func95, Try.ntmps95
    go_wp2_with (go_at_call 113; refine (reffor_calls _ _ l (40 + key + value) _ HL.out hm).mono ?_; rw [F.out]; rintro e w' ⟨rfl, rfl⟩)
    go_ret3
    exact ⟨rfl, Dr.refl _⟩
  · rw [e0, f, if_neg (by decide)]
    have F := Lib.hid f
    have lt : z < 40 + key + value := by rw [← EZ.out]; exact hx (l.length - 1) (by omega)
    have m3 : decide (3000 < z) = false := decide_eq_false (by omega)
    clear e0 f hx
    go_enter Try.func95, Try.ntmps95
    go_wp2_with (go_at_call 113; refine (reffor_calls _ _ l (40 + key + value) _ HL.out hm).mono ?_; rw [F.out]; rintro e w' ⟨rfl, rfl⟩)
    go_loop [12, 13] (fun v u => ∃ (r : Int) (m : Nat), v = .int .i64 r ∧ u = .int .i64 (m : Int) ∧ Hid (r = (40 + key + value - z) - m * (z - 4)) ∧ -3000 ≤ r ∧ r ≤ 3000 ∧ Hid (-(z - 4) < r) ∧ (m : Int) * 252 + r ≤ 3000) (fun v _ => (intOf v).toNat)
    case atStart => exact ⟨40 + key + value - z, 0, by go_num, by go_num, by show _ = _; omega, by omega, by omega, by show _ < _; omega, by omega⟩
    case round =>
      obtain ⟨r, m, rfl, rfl, E, r0, r1, G, mb⟩ := hrel
      by_cases hr : r > 0
      · go_wp2
        go_round
        case rel => exact ⟨r - (z - 4), m + 1, by go_num, by go_num, by have := E.out; show _ = _; rw [this, Int.natCast_add, Int.add_mul]; omega, by omega, by omega, by show _ < _; omega, by omega⟩
        case measure => simp [intOf]; omega
      · have C := Lib.hid (ceil_of (40 + key + value - z) (z - 4) r m (by omega) E.out G.out (by omega))
        go_wp2
        go_ret3
        exact ⟨by rw [C.out]; rfl, Dr.refl _⟩

/-- the reference's Need, of any numbers -/
theorem refneed_calls (A : Option Addr) (c : Nat) (l : List Int) (key value : Int) (w : World) (hl : Sl w .i64 A l) (hm : l.length ≤ 1000000) (hw : ∀ x ∈ l, -9223372036854775808 ≤ x ∧ x ≤ 9223372036854775807) :
    Calls Try.prog 95 #[.slice A l.length c, .int .i64 key, .int .i64 value] w fun e w' => e = .returned (.tuple #[.int .i64 (needC l key value).1, .int .i64 (needC l key value).2.1, .int .i64 (needC l key value).2.2]) ∧ Dr w w' := by
  by_cases h : key < 1 ∨ key > 32 ∨ value < 0 ∨ value > 2000
  · exact refneed_far A c l key value w hm h
  · exact refneed_in A c l key value w hl hm hw h
/-- the program's -/
theorem need_calls (A : Option Addr) (c : Nat) (l : List Int) (key value : Int) (w : World) (hl : Sl w .i64 A l) (hm : l.length ≤ 1000000) (hw : ∀ x ∈ l, -9223372036854775808 ≤ x ∧ x ≤ 9223372036854775807) :
    Calls Try.prog 93 #[.slice A l.length c, .int .i64 key, .int .i64 value] w fun e w' => e = .returned (.tuple #[.int .i64 (needC l key value).1, .int .i64 (needC l key value).2.1, .int .i64 (needC l key value).2.2]) ∧ Dr w w' := by
  by_cases h : key < 1 ∨ key > 32 ∨ value < 0 ∨ value > 2000
  · exact need_far A c l key value w hm h
  · exact need_in A c l key value w hl hm hw h

end Go.Proofs.Ytmffdlebahdihaa.Need

/- A string's bytes as numbers; []byte(s). No program in sight. -/
namespace Go.Proofs.Ytmffdlebahdihaa.Mem
open Go Go.RowKit
set_option linter.unusedVariables false
/-- a string's bytes -/
def bs (s : ByteArray) : List Int := s.data.toList.map fun b => (b.toNat : Int)
theorem bs_length (s : ByteArray) : (bs s).length = s.size := by
  unfold bs
  rw [List.length_map, Array.length_toList]; rfl
theorem bs_bytes (s : ByteArray) : ∀ x ∈ bs s, 0 ≤ x ∧ x ≤ 255 := fun x hx => by
  unfold bs at hx
  obtain ⟨b, _, rfl⟩ := List.mem_map.1 hx
  have := b.toNat_lt
  omega
theorem str_bs (s : ByteArray) : strOfNums (bs s) = s := by
  have : ((bs s).map fun n => UInt8.ofNat n.toNat) = s.data.toList := by
    unfold bs
    rw [List.map_map]
    conv => rhs; rw [← List.map_id s.data.toList]
    apply List.map_congr_left
    intro b _
    simp [Function.comp]
  unfold strOfNums
  rw [this]
theorem bs_str {l : List Int} (h : ∀ x ∈ l, 0 ≤ x ∧ x ≤ 255) : bs (strOfNums l) = l := strOfNums_inj (bs_bytes _) h (str_bs _)
theorem bs_getD (s : ByteArray) (j : Nat) (hj : j < s.size) : (bs s).getD j 0 = ((s.data.toList.getD j 0).toNat : Int) := by
  have hj' : j < s.data.toList.length := by rw [Array.length_toList]; exact hj
  unfold bs
  rw [List.getD_eq_getElem?_getD, List.getElem?_map, List.getD_eq_getElem?_getD, List.getElem?_eq_getElem hj']
  rfl
/-- []byte(s): the world behind it, its row -/
theorem chg_bytes (w : World) (e : TypeId) (s : ByteArray) : Chg (fun _ => False) w (Lib.bytesWorld w e s) :=
  ⟨rfl, rfl, rfl, by rw [Lib.bytesWorld_size]; omega, fun b hb _ => Lib.bytesWorld_at_old w e s b hb⟩
theorem sl_bytes (w : World) (e : TypeId) (s : ByteArray) : Sl (Lib.bytesWorld w e s) .u8 (some ⟨w.heap.size, 0, none⟩) (bs s) := fun i hi => by
  rw [bs_length] at hi
  refine ⟨_, rfl, ?_⟩
  rw [add_plain, Nat.zero_add, Lib.bytesWorld_cell w e s i hi, bs_getD s i hi]
theorem conv_bs {P : Program} {w : World} {src dst e : TypeId} {A : Option Addr} {c n : Nat} (s : ByteArray) (hn : n = s.size) (hs : P.underlying src = some (.slice e)) (he : P.underlying e = some (.int .u8)) (hd : P.underlying dst = some .string) (h : Sl w .u8 A (bs s)) :
    (Go.convert src dst (.slice A n c)).run P w = .ok (.string s) w := by
  have := conv_sl (c := c) hs he hd h
  rw [bs_length, str_bs] at this
  rw [hn]
  exact this
end Go.Proofs.Ytmffdlebahdihaa.Mem

/- Chapter 08 in plain words: bytes laid one behind another, an item laid into chunks. No program in sight. -/
namespace Go.Proofs.Ytmffdlebahdihaa.ArenaPure
open Go Go.RowKit Go.Proofs.Ytmffdlebahdihaa.Mem Go.Proofs.Ytmffdlebahdihaa.CodecPure Go.Proofs.Ytmffdlebahdihaa.Codec Go.Proofs.Ytmffdlebahdihaa.Arena Go.Proofs.Ytmffdlebahdihaa.NeedPure
set_option linter.unusedVariables false
set_option maxRecDepth 100000
/-! ### bytes laid, one row after another -/
def lays (s : St) : List (Int × List Int) → St
  | [] => s
  | o :: l => lays (lay s o.1 o.2) l
theorem lays_append (s : St) (l m : List (Int × List Int)) : lays s (l ++ m) = lays (lays s l) m := by
  induction l generalizing s with
  | nil => rfl
  | cons o l ih => exact ih _
/-- two ranges without a byte in common -/
def Off (o p : Int × List Int) : Prop := o.1 + o.2.length ≤ p.1 ∨ p.1 + p.2.length ≤ o.1
theorem Off.symm {o p : Int × List Int} (h : Off o p) : Off p o := h.elim .inr .inl
structure Good (s : St) (l : List (Int × List Int)) : Prop where
  ok : Ok s
  inn : ∀ o ∈ l, within s o.1 o.2.length ∧ Bytes o.2
theorem lay_own (s : St) (x : Int) (X : List Int) : (lay s x X).own = s.own := rfl
theorem Good.step {s : St} {o : Int × List Int} {l : List (Int × List Int)} (h : Good s (o :: l)) : Good (lay s o.1 o.2) l := by
  obtain ⟨h1, h2⟩ := h.inn o (by simp)
  have hr := in_row h.ok h1
  refine ⟨lay_ok h.ok (by omega) h2, fun p hp => ?_⟩
  obtain ⟨k1, k2⟩ := h.inn p (by simp [hp])
  exact ⟨(within_own (lay_own s o.1 o.2) _ _).2 k1, k2⟩
theorem lays_own (l : List (Int × List Int)) : ∀ s, (lays s l).own = s.own := by
  induction l with
  | nil => intro s; rfl
  | cons o l ih => intro s; show (lays (lay s o.1 o.2) l).own = _; rw [ih]; rfl
theorem Good.lays {s : St} {l : List (Int × List Int)} (h : Good s l) : Ok (lays s l) := by
  induction l generalizing s with
  | nil => exact h.ok
  | cons o l ih => exact ih h.step
theorem Good.left {s : St} {l m : List (Int × List Int)} (h : Good s (l ++ m)) : Good s l := ⟨h.ok, fun o ho => h.inn o (by simp [ho])⟩
theorem Good.right {s : St} {l m : List (Int × List Int)} (h : Good s (l ++ m)) : Good (ArenaPure.lays s l) m :=
  ⟨h.left.lays, fun o ho => by
    obtain ⟨k1, k2⟩ := h.inn o (by simp [ho])
    exact ⟨(within_own (lays_own l s) _ _).2 k1, k2⟩⟩
/-- what is laid is got -/
theorem got_lay {s : St} (hs : Ok s) {x : Int} {X : List Int} (h : within s x X.length) : got (lay s x X) x X.length = X := by
  have := in_row hs h
  exact splice_in _ _ _ _ _ (by omega) rfl (by omega)
/-- what lies beside stays -/
theorem got_lay_off {s : St} (hs : Ok s) {x y n : Int} {X : List Int} (h : within s x X.length) (hy : 0 ≤ y) (hn : 0 ≤ n) (hf : y + n ≤ x ∨ x + X.length ≤ y) : got (lay s x X) y n = got s y n := by
  have h0 := h.2.1
  have := in_row hs h
  exact splice_off _ _ _ _ _ (by omega) (by omega)
theorem lays_off {s : St} {l : List (Int × List Int)} (h : Good s l) {y n : Int} (hy : 0 ≤ y) (hn : 0 ≤ n) (hf : ∀ o ∈ l, y + n ≤ o.1 ∨ o.1 + o.2.length ≤ y) : got (lays s l) y n = got s y n := by
  induction l generalizing s with
  | nil => rfl
  | cons o l ih =>
    show got (lays (lay s o.1 o.2) l) y n = _
    rw [ih h.step fun p hp => hf p (by simp [hp])]
    exact got_lay_off h.ok (h.inn o (by simp)).1 hy hn (hf o (by simp))
/-- what was laid, and not laid over, is got -/
theorem lays_in {s : St} {l m : List (Int × List Int)} {x : Int} {X : List Int} (h : Good s (l ++ (x, X) :: m)) (hf : ∀ o ∈ m, x + X.length ≤ o.1 ∨ o.1 + o.2.length ≤ x) : got (lays s (l ++ (x, X) :: m)) x X.length = X := by
  rw [lays_append]
  have h1 := h.right
  have h2 := h1.inn (x, X) (by simp)
  show got (lays (lay (lays s l) x X) m) x X.length = X
  rw [lays_off h1.step h2.1.2.1 (by omega) hf]
  exact got_lay h1.ok h2.1
/-- a piece of what was laid -/
theorem got_part (s : St) {x n k m : Int} (hx : 0 ≤ x) (hk : 0 ≤ k) (hm : 0 ≤ m) (hf : k + m ≤ n) : got s (x + k) m = ((got s x n).drop k.toNat).take m.toNat := by
  unfold got
  apply List.ext_getElem?
  intro i
  rw [List.getElem?_take, List.getElem?_take]
  by_cases hi : i < m.toNat
  · rw [if_pos hi, if_pos hi, List.getElem?_drop, List.getElem?_drop, List.getElem?_take, if_pos (by omega), List.getElem?_drop]
    congr 1; omega
  · rw [if_neg hi, if_neg hi]
theorem lay_nil (s : St) (x : Int) : lay s x [] = s := by
  unfold lay
  rw [splice_none]
theorem write_lay (s : St) (x : Int) (X : List Int) (h : within s x X.length) : (write s x X).1 = lay s x X := by unfold write; rw [if_pos h]
theorem setNumber_lay {s : St} (hs : Ok s) {x w v : Int} (h : within s x w) (hw : w = 1 ∨ w = 2 ∨ w = 4 ∨ w = 8) (hv : 0 ≤ v ∧ v < 2 ^ (8 * w.toNat)) : setNumber s x w v = (lay s x (leb v w.toNat), 0) := by
  have L := got_length hs h
  unfold setNumber
  rw [if_pos h]
  obtain ⟨n, rfl⟩ := Int.eq_ofNat_of_zero_le (show 0 ≤ w by omega)
  have en : ((n : Int)).toNat = n := by omega
  rw [en] at hv L ⊢
  rw [putC_all (got s x n) n v hw L (by
    rintro ⟨_, h2⟩
    exact h2 (Int.ediv_eq_zero_of_lt hv.1 hv.2))]
theorem setPlace_lay {s : St} (hs : Ok s) {x v : Int} (h : within s x 4) (hv : Pl v) : setPlace s x v = (lay s x (pb4 v), 0) := setPlace_eq hs h hv
end Go.Proofs.Ytmffdlebahdihaa.ArenaPure

/- Chapter 08 in plain words: an item as it lies in its chunks. No program in sight. -/
namespace Go.Proofs.Ytmffdlebahdihaa.ArenaPure
open Go Go.RowKit Go.Proofs.Ytmffdlebahdihaa.Mem Go.Proofs.Ytmffdlebahdihaa.CodecPure Go.Proofs.Ytmffdlebahdihaa.Codec Go.Proofs.Ytmffdlebahdihaa.Arena Go.Proofs.Ytmffdlebahdihaa.NeedPure
set_option linter.unusedVariables false
set_option maxRecDepth 100000
/-- the bytes of a field -/
def fb (f v : Int) : List Int := if f ≤ 3 then pb4 v else leb v (fw f).toNat
/-- may a field be so? -/
def Fits (f v : Int) : Prop := if f ≤ 3 then Pl v else 0 ≤ v ∧ v < 2 ^ (8 * (fw f).toNat)
theorem fw_cases {f : Int} (h0 : 0 ≤ f) (h1 : f ≤ 11) (h4 : f ≠ 4) : fw f = 1 ∨ fw f = 2 ∨ fw f = 4 := by unfold fw; split <;> (try split) <;> (try split) <;> (try split) <;> omega
theorem fat_in {f : Int} (h0 : 0 ≤ f) (h1 : f ≤ 11) : 0 ≤ fat f ∧ fat f + fw f ≤ 38 ∧ 0 < fw f := by unfold fat fw; split <;> (try split) <;> (try split) <;> (try split) <;> omega
theorem fat_off {f g : Int} (h0 : 0 ≤ f) (h1 : f ≤ 11) (g0 : 0 ≤ g) (g1 : g ≤ 11) (e : f ≠ g) : fat f + fw f ≤ fat g ∨ fat g + fw g ≤ fat f := by
  rcases Int.lt_or_gt_of_ne e with h | h
  · left; unfold fat fw; repeat' split
    all_goals omega
  · right; unfold fat fw; repeat' split
    all_goals omega
theorem fb_length {f : Int} (v : Int) (h0 : 0 ≤ f) (h1 : f ≤ 11) : ((fb f v).length : Int) = fw f := by
  have := (fat_in h0 h1).2.2
  unfold fb
  split
  · rw [pb4_length]; unfold fw; split <;> omega
  · rw [leb_length]; omega
theorem fb_bytes (f v : Int) : Bytes (fb f v) := by
  unfold fb
  split
  · exact pb4_bytes v
  · exact leb_bytes _ _
theorem hdr_f {s : St} {x : Int} (h : within s x 40) {f : Int} (h0 : 0 ≤ f) (h1 : f ≤ 11) : within s (x + fat f) (fw f) := by
  have := fat_in h0 h1
  exact within_part h _ _ (by omega) (by omega) (by omega) (by omega)
theorem hdr_no {s : St} {x : Int} (h : within s x 40) : ¬ (x < 0 ∨ 1024 * (s.own.length : Int) < x) := by obtain ⟨_, a, b, _⟩ := h; omega
/-- a field set -/
theorem itemSet_lay {s : St} (hs : Ok s) {x f v : Int} (h : within s x 40) (h0 : 0 ≤ f) (h1 : f ≤ 11) (h4 : f ≠ 4) (hv : Fits f v) : itemSet s x f v = (lay s (x + fat f) (fb f v), 0) := by
  unfold itemSet fb
  rw [if_neg (by omega), if_neg (hdr_no h)]
  have hw := hdr_f h h0 h1
  unfold Fits at hv
  by_cases h3 : f ≤ 3
  · rw [if_pos h3] at hv ⊢
    rw [if_pos h3]
    have e : fw f = 4 := by unfold fw; split <;> omega
    rw [e] at hw
    exact setPlace_lay hs hw hv
  · rw [if_neg h3] at hv ⊢
    rw [if_neg h3, if_neg (by omega)]
    exact setNumber_lay hs hw (by have := fw_cases h0 h1 h4; omega) hv
theorem itemGet_of {s : St} (hs : Ok s) {x f v : Int} (h : within s x 40) (h0 : 0 ≤ f) (h1 : f ≤ 11) (h4 : f ≠ 4) (hv : Fits f v) (hg : got s (x + fat f) (fw f) = fb f v) : itemGet s x f = (v, 0) := by
  unfold itemGet
  rw [if_neg (by omega), if_neg (hdr_no h)]
  have hw := hdr_f h h0 h1
  unfold Fits at hv
  unfold fb at hg
  by_cases h3 : f ≤ 3
  · rw [if_pos h3] at hv hg ⊢
    have e : fw f = 4 := by unfold fw; split <;> omega
    rw [e] at hw hg
    exact place_of_got hs hw hv hg
  · rw [if_neg h3] at hv hg ⊢
    unfold number
    rw [if_pos hw, hg]
    have hc := fw_cases h0 h1 h4
    obtain ⟨n, hn⟩ := Int.eq_ofNat_of_zero_le (show 0 ≤ fw f by omega)
    rw [hn] at hv hc ⊢
    have en : ((n : Int)).toNat = n := by omega
    rw [en] at hv ⊢
    have := getC_leb v n 0 n (by omega) (by omega)
    have e0 : ((0 : Nat) : Int) = 0 := rfl
    rw [e0] at this
    rw [this]
    congr 1
    rw [show 8 * 0 = 0 from rfl, Int.pow_zero, Int.ediv_one]
    exact Int.emod_eq_of_lt hv.1 hv.2
/-- what a field says is its bytes -/
theorem got_of_itemGet {s : St} (hs : Ok s) {x f v : Int} (h : within s x 40) (h0 : 0 ≤ f) (h1 : f ≤ 11) (h4 : f ≠ 4) (hg : itemGet s x f = (v, 0)) : got s (x + fat f) (fw f) = fb f v ∧ Fits f v := by
  unfold itemGet at hg
  rw [if_neg (by omega), if_neg (hdr_no h)] at hg
  have hw := hdr_f h h0 h1
  unfold fb Fits
  by_cases h3 : f ≤ 3
  · rw [if_pos h3] at hg
    rw [if_pos h3, if_pos h3]
    have e : fw f = 4 := by unfold fw; split <;> omega
    rw [e] at hw ⊢
    exact got_of_place hs hw hg
  · rw [if_neg h3] at hg
    rw [if_neg h3, if_neg h3]
    have L := got_length hs hw
    have Bt := got_bytes hs (x + fat f) (fw f)
    unfold number at hg
    rw [if_pos hw] at hg
    have hc := fw_cases h0 h1 h4
    unfold getC at hg
    rw [if_pos (show there (got s (x + fat f) (fw f)).length 0 (fw f) from ⟨by omega, by omega, by omega⟩)] at hg
    have e : ((got s (x + fat f) (fw f)).drop (0 : Int).toNat).take (fw f).toNat = got s (x + fat f) (fw f) := by
      show (got s (x + fat f) (fw f)).take _ = _
      exact List.take_of_length_le (by omega)
    rw [e] at hg
    have hv : le (got s (x + fat f) (fw f)) = v := by injection hg
    have R := le_range _ Bt
    have E := leb_le _ Bt
    rw [L, hv] at R E
    exact ⟨E.symm, R⟩
/-! ### an item in its chunks -/
/-- how many bytes of a value lie ahead of an item's i-th chunk -/
def offV (tc kl vl : Int) : Nat → Int
  | 0 => 0
  | 1 => min vl (tc - 40 - kl)
  | i + 2 => offV tc kl vl (i + 1) + min (vl - offV tc kl vl (i + 1)) (tc - 4)
/-- where the i-th part of a value lies -/
def partP (P : List Int) (kl : Int) (i : Nat) : Int := if i = 0 then P.getD 0 0 + 40 + kl else P.getD i 0 + 4
/-- where the i-th chunk says which one is next -/
def linkP (P : List Int) (i : Nat) : Int := if i = 0 then P.getD 0 0 + 12 else P.getD i 0
def nextP (P : List Int) (i : Nat) : Int := if i + 1 < P.length then P.getD (i + 1) 0 else -1
structure ItemAt (t : St) (tc : Int) (P : List Int) (key val : List Int) (ex fl cas : Int) : Prop where
  ok : Ok t
  pos : 0 < P.length
  size : 40 + (key.length : Int) ≤ tc ∧ 44 ≤ tc
  inn : ∀ p ∈ P, within t p tc
  most : P.length ≤ 16
  lens : 1 ≤ key.length ∧ key.length ≤ 32 ∧ val.length ≤ 2000
  bytes : Bytes key ∧ Bytes val
  fex : itemGet t (P.getD 0 0) 5 = (ex, 0)
  ffl : itemGet t (P.getD 0 0) 6 = (fl, 0)
  fvl : itemGet t (P.getD 0 0) 7 = ((val.length : Int), 0)
  fkl : itemGet t (P.getD 0 0) 8 = ((key.length : Int), 0)
  fcas : number t (P.getD 0 0 + 16) 8 = (cas, 0)
  k : got t (P.getD 0 0 + 40) key.length = key
  chain : ∀ i, i < P.length → place t (linkP P i) = (nextP P i, 0)
  v : ∀ i, i < P.length → got t (partP P key.length i) (offV tc key.length val.length (i + 1) - offV tc key.length val.length i) = (val.drop (offV tc key.length val.length i).toNat).take (offV tc key.length val.length (i + 1) - offV tc key.length val.length i).toNat
  all : offV tc key.length val.length P.length = val.length
theorem offV_mono {tc kl vl : Int} (h : 40 + kl ≤ tc) (h4 : 44 ≤ tc) (hv : 0 ≤ vl) : ∀ i, 0 ≤ offV tc kl vl i ∧ offV tc kl vl i ≤ vl ∧ offV tc kl vl i ≤ offV tc kl vl (i + 1) ∧ (0 < i → offV tc kl vl (i + 1) - offV tc kl vl i ≤ tc - 4) ∧ offV tc kl vl 1 ≤ tc - 40 - kl := by
  intro i
  induction i with
  | zero => simp only [offV]; omega
  | succ i ih =>
    have e : offV tc kl vl (i + 1 + 1) = offV tc kl vl (i + 1) + min (vl - offV tc kl vl (i + 1)) (tc - 4) := rfl
    have e1 : offV tc kl vl 1 = min vl (tc - 40 - kl) := rfl
    obtain ⟨h1, h2, h3, h5, h6⟩ := ih
    have hle : offV tc kl vl (i + 1) ≤ vl := by
      cases i with
      | zero => show min vl (tc - 40 - kl) ≤ vl; omega
      | succ i =>
        have e2 : offV tc kl vl (i + 1 + 1) = offV tc kl vl (i + 1) + min (vl - offV tc kl vl (i + 1)) (tc - 4) := rfl
        omega
    refine ⟨by omega, hle, by omega, fun _ => by omega, by omega⟩
/-- where the parts lie in their chunks -/
theorem ItemAt.part_in {t : St} {tc : Int} {P key val : List Int} {ex fl cas : Int} (h : ItemAt t tc P key val ex fl cas) {i : Nat} (hi : i < P.length) :
    ∃ o : Int, 4 ≤ o ∧ partP P key.length i = P.getD i 0 + o ∧ o + (offV tc key.length val.length (i + 1) - offV tc key.length val.length i) ≤ tc ∧ 0 ≤ offV tc key.length val.length (i + 1) - offV tc key.length val.length i := by
  have h1 := offV_mono (tc := tc) (kl := key.length) (vl := val.length) h.size.1 h.size.2 (by omega) i
  cases i with
  | zero =>
    refine ⟨40 + key.length, by omega, by unfold partP; rw [if_pos rfl]; omega, ?_, by omega⟩
    have : offV tc key.length val.length 0 = 0 := rfl
    have := h1.2.2.2.2
    simp only [Nat.zero_add] at *
    omega
  | succ i => exact ⟨4, by omega, by unfold partP; rw [if_neg (by omega)], by have := h1.2.2.2.1 (by omega); omega, by omega⟩
end Go.Proofs.Ytmffdlebahdihaa.ArenaPure

/- Chapter 08 in plain words: an item laid in, step by step. No program in sight. -/
namespace Go.Proofs.Ytmffdlebahdihaa.ArenaPure
open Go Go.RowKit Go.Proofs.Ytmffdlebahdihaa.Mem Go.Proofs.Ytmffdlebahdihaa.CodecPure Go.Proofs.Ytmffdlebahdihaa.Codec Go.Proofs.Ytmffdlebahdihaa.Arena Go.Proofs.Ytmffdlebahdihaa.NeedPure
set_option linter.unusedVariables false
set_option maxRecDepth 100000
/-- the values of a header's fields -/
def hvals (ex fl vl kl : Int) : List Int := [-1, -1, -1, -1, 0, ex, fl, vl, kl, 0, 0, 0]
theorem hvals_fits {ex fl vl kl : Int} (h5 : 0 ≤ ex ∧ ex < 4294967296) (h6 : 0 ≤ fl ∧ fl < 4294967296) (h7 : 0 ≤ vl ∧ vl ≤ 2000) (h8 : 0 ≤ kl ∧ kl ≤ 32) (f : Nat) (hf : f < 12) : Fits f ((hvals ex fl vl kl).getD f 0) := by
  match f, hf with
  | 0, _ => exact (show Pl (-1) from ⟨by decide, by decide⟩)
  | 1, _ => exact (show Pl (-1) from ⟨by decide, by decide⟩)
  | 2, _ => exact (show Pl (-1) from ⟨by decide, by decide⟩)
  | 3, _ => exact (show Pl (-1) from ⟨by decide, by decide⟩)
  | 4, _ => show (0 : Int) ≤ 0 ∧ (0 : Int) < 2 ^ 64; decide
  | 5, _ => show 0 ≤ ex ∧ ex < 2 ^ 32; omega
  | 6, _ => show 0 ≤ fl ∧ fl < 2 ^ 32; omega
  | 7, _ => show 0 ≤ vl ∧ vl < 2 ^ 16; omega
  | 8, _ => show 0 ≤ kl ∧ kl < 2 ^ 8; omega
  | 9, _ => show (0 : Int) ≤ 0 ∧ (0 : Int) < 2 ^ 8; decide
  | 10, _ => show (0 : Int) ≤ 0 ∧ (0 : Int) < 2 ^ 8; decide
  | 11, _ => show (0 : Int) ≤ 0 ∧ (0 : Int) < 2 ^ 8; decide
/-- the fields below k are so -/
structure HdrK (s t : St) (x : Int) (vs : List Int) (k : Nat) : Prop where
  lay : Lay s t (fun i => x ≤ i ∧ (i : Int) < x + 40)
  f : ∀ g : Nat, g < k → g < 12 → g ≠ 4 → got t (x + fat g) (fw g) = fb g (vs.getD g 0)
theorem lay_frame {s : St} (hs : Ok s) {x : Int} {X : List Int} (h : within s x X.length) (hX : Bytes X) (S : Nat → Prop) (hS : ∀ i : Nat, x ≤ i → (i : Int) < x + X.length → S i) : Lay s (lay s x X) S := by
  have hr := in_row hs h
  have h0 := h.2.1
  refine ⟨lay_ok hs (by omega) hX, rfl, fun i hi => ?_⟩
  show (splice s.B x.toNat X)[i]? = _
  rw [splice_get _ _ _ (by omega), if_neg fun q => hi (hS i (by omega) (by omega))]
theorem HdrK.step {s t : St} {x : Int} {vs : List Int} {k : Nat} (h : HdrK s t x vs k) (hk : k < 12) (h4 : k ≠ 4) (hw : within s x 40) (hv : Fits k (vs.getD k 0)) : HdrK s (itemSet t x k (vs.getD k 0)).1 x vs (k + 1) := by
  have ht := h.lay.hdr hw
  have x0 : 0 ≤ x := hw.2.1
  rw [itemSet_lay h.lay.ok ht (by omega) (by omega) (by omega) hv]
  have hl := fb_length (f := k) (vs.getD k 0) (by omega) (by omega)
  have hi := fat_in (f := k) (by omega) (by omega)
  have hwk : within t (x + fat k) (fb k (vs.getD k 0)).length := by rw [hl]; exact hdr_f ht (by omega) (by omega)
  refine ⟨h.lay.trans (lay_frame h.lay.ok hwk (fb_bytes _ _) _ fun i h1 h2 => by omega), fun g hg h12 hg4 => ?_⟩
  have gi := fat_in (f := g) (by omega) (by omega)
  by_cases e : g = k
  · subst e
    rw [← hl]
    exact got_lay h.lay.ok hwk
  · have := fat_off (f := g) (g := k) (by omega) (by omega) (by omega) (by omega) (by omega)
    show got (ArenaPure.lay t _ _) _ _ = _
    rw [got_lay_off h.lay.ok hwk (by omega) (by omega) (by omega)]
    exact h.f g (by omega) h12 hg4
theorem HdrK.skip {s t : St} {x : Int} {vs : List Int} (h : HdrK s t x vs 4) : HdrK s t x vs 5 := ⟨h.lay, fun g hg h12 h4 => h.f g (by omega) h12 h4⟩
/-- the header and the key; the parts below k, and the links that lead to them -/
structure ItemK (s t : St) (tc : Int) (P : List Int) (key val : List Int) (ex fl cas : Int) (k : Nat) : Prop where
  ok : Ok t
  own : t.own = s.own
  out : ∀ i : Nat, (∀ p ∈ P, (i : Int) < p ∨ p + tc ≤ i) → t.B[i]? = s.B[i]?
  f : ∀ g : Nat, g < 12 → g ≠ 3 → g ≠ 4 → got t (P.getD 0 0 + fat g) (fw g) = fb g ((hvals ex fl val.length key.length).getD g 0)
  cas : got t (P.getD 0 0 + 16) 8 = leb cas 8
  ky : got t (P.getD 0 0 + 40) key.length = key
  chain : ∀ i, i < P.length → (i < k ∨ i = 0) → got t (linkP P i) 4 = pb4 (if i + 1 < k then P.getD (i + 1) 0 else -1)
  v : ∀ i, i < k → got t (partP P key.length i) (offV tc key.length val.length (i + 1) - offV tc key.length val.length i) = (val.drop (offV tc key.length val.length i).toNat).take (offV tc key.length val.length (i + 1) - offV tc key.length val.length i).toNat
/-- .. and the k-th link, too -/
structure ItemM (s t : St) (tc : Int) (P : List Int) (key val : List Int) (ex fl cas : Int) (k : Nat) : Prop where
  ok : Ok t
  own : t.own = s.own
  out : ∀ i : Nat, (∀ p ∈ P, (i : Int) < p ∨ p + tc ≤ i) → t.B[i]? = s.B[i]?
  f : ∀ g : Nat, g < 12 → g ≠ 3 → g ≠ 4 → got t (P.getD 0 0 + fat g) (fw g) = fb g ((hvals ex fl val.length key.length).getD g 0)
  cas : got t (P.getD 0 0 + 16) 8 = leb cas 8
  ky : got t (P.getD 0 0 + 40) key.length = key
  chain : ∀ i, i < P.length → i < k + 1 → got t (linkP P i) 4 = pb4 (if i + 1 < k + 1 then P.getD (i + 1) 0 else -1)
  v : ∀ i, i < k → got t (partP P key.length i) (offV tc key.length val.length (i + 1) - offV tc key.length val.length i) = (val.drop (offV tc key.length val.length i).toNat).take (offV tc key.length val.length (i + 1) - offV tc key.length val.length i).toNat
/-- what the places and lengths are like -/
structure Fine (s : St) (tc : Int) (P : List Int) (key val : List Int) (ex fl cas : Int) : Prop where
  ok : Ok s
  pos : 0 < P.length
  size : 40 + (key.length : Int) ≤ tc ∧ 44 ≤ tc ∧ tc ≤ 1024
  inn : ∀ p ∈ P, within s p tc
  apart : ∀ i j, i < P.length → j < P.length → i ≠ j → P.getD i 0 + tc ≤ P.getD j 0 ∨ P.getD j 0 + tc ≤ P.getD i 0
  most : P.length ≤ 16
  lens : 1 ≤ key.length ∧ key.length ≤ 32 ∧ val.length ≤ 2000
  bytes : Bytes key ∧ Bytes val
  nums : (0 ≤ ex ∧ ex < 4294967296) ∧ (0 ≤ fl ∧ fl < 4294967296) ∧ (0 ≤ cas ∧ cas < 18446744073709551616)
section
variable {s t : St} {tc : Int} {P key val : List Int} {ex fl cas : Int} {k : Nat}
theorem Fine.p_in (h : Fine s tc P key val ex fl cas) {i : Nat} (hi : i < P.length) : P.getD i 0 ∈ P := by rw [List.getD_eq_getElem?_getD, List.getElem?_eq_getElem hi]; exact List.getElem_mem hi
theorem Fine.p_wi (h : Fine s tc P key val ex fl cas) {i : Nat} (hi : i < P.length) : within s (P.getD i 0) tc := h.inn _ (h.p_in hi)
theorem Fine.pl (h : Fine s tc P key val ex fl cas) {i : Nat} (hi : i < P.length) : Pl (P.getD i 0) ∧ 0 ≤ P.getD i 0 := by
  have := h.ok.high
  obtain ⟨_, h1, h2, _⟩ := h.p_wi hi
  unfold Pl
  omega
theorem Fine.hdr (h : Fine s tc P key val ex fl cas) : within s (P.getD 0 0) 40 := by
  have := within_part (h.p_wi h.pos) 0 40 (by decide) (by decide) (by have := h.size; omega) (by decide)
  rwa [Int.add_zero] at this
theorem Fine.part (h : Fine s tc P key val ex fl cas) {i : Nat} (hi : i < P.length) :
    ∃ o : Int, 4 ≤ o ∧ partP P key.length i = P.getD i 0 + o ∧ o + (offV tc key.length val.length (i + 1) - offV tc key.length val.length i) ≤ tc ∧ 0 ≤ offV tc key.length val.length (i + 1) - offV tc key.length val.length i ∧ (i = 0 → o = 40 + key.length) := by
  have h1 := offV_mono (tc := tc) (kl := key.length) (vl := val.length) h.size.1 h.size.2.1 (by omega) i
  cases i with
  | zero =>
    refine ⟨40 + key.length, by omega, by unfold partP; rw [if_pos rfl]; omega, ?_, by omega, fun _ => rfl⟩
    have : offV tc key.length val.length 0 = 0 := rfl
    have := h1.2.2.2.2
    simp only [Nat.zero_add] at *
    omega
  | succ i => exact ⟨4, by omega, by unfold partP; rw [if_neg (by omega)], by have := h1.2.2.2.1 (by omega); omega, by omega, fun e => by omega⟩
/-- the header and the key -/
theorem Fine.start (h : Fine s tc P key val ex fl cas) {t : St} (hh : HdrK s t (P.getD 0 0) (hvals ex fl val.length key.length) 12) :
    setNumber t (P.getD 0 0 + 16) 8 cas = (lay t (P.getD 0 0 + 16) (leb cas 8), 0) ∧ write (lay t (P.getD 0 0 + 16) (leb cas 8)) (P.getD 0 0 + 40) key = (lay (lay t (P.getD 0 0 + 16) (leb cas 8)) (P.getD 0 0 + 40) key, 0) ∧
      ItemK s (lay (lay t (P.getD 0 0 + 16) (leb cas 8)) (P.getD 0 0 + 40) key) tc P key val ex fl cas 0 := by
  have hx := h.hdr
  have ht := hh.lay.hdr hx
  have x0 := (h.pl h.pos).2
  have e8 : (8 : Int).toNat = 8 := rfl
  have w16 : within t (P.getD 0 0 + 16) 8 := within_part ht 16 8 (by decide) (by decide) (by decide) (by decide)
  have l8 : ((leb cas 8).length : Int) = 8 := by rw [leb_length]; rfl
  have w16' : within t (P.getD 0 0 + 16) (leb cas 8).length := by rw [l8]; exact w16
  have s1 := setNumber_lay hh.lay.ok w16 (.inr (.inr (.inr rfl))) (v := cas) (by have := h.nums.2.2; rw [e8]; omega)
  rw [e8] at s1
  have k1 := lay_frame hh.lay.ok w16' (leb_bytes _ _) (fun i => P.getD 0 0 ≤ i ∧ (i : Int) < P.getD 0 0 + tc) fun i h1 h2 => by have := h.size; omega
  have wt := (k1.within (P.getD 0 0) tc).2 ((hh.lay.within (P.getD 0 0) tc).2 (h.p_wi h.pos))
  have w40 : within (lay t (P.getD 0 0 + 16) (leb cas 8)) (P.getD 0 0 + 40) key.length := within_part wt 40 key.length (by decide) (by omega) (by have := h.size; omega) (by have := h.lens; omega)
  have s2 : write (lay t (P.getD 0 0 + 16) (leb cas 8)) (P.getD 0 0 + 40) key = (lay (lay t (P.getD 0 0 + 16) (leb cas 8)) (P.getD 0 0 + 40) key, 0) := by unfold write; rw [if_pos w40]
  have k2 := lay_frame k1.ok w40 h.bytes.1 (fun i => P.getD 0 0 ≤ i ∧ (i : Int) < P.getD 0 0 + tc) fun i h1 h2 => by have := h.size; omega
  have keep : ∀ y n : Int, P.getD 0 0 ≤ y → 0 ≤ n → y + n ≤ P.getD 0 0 + 40 → (y + n ≤ P.getD 0 0 + 16 ∨ P.getD 0 0 + 24 ≤ y) → got (lay (lay t (P.getD 0 0 + 16) (leb cas 8)) (P.getD 0 0 + 40) key) y n = got t y n := fun y n h1 h2 h3 h4 => by
    rw [got_lay_off k1.ok w40 (by omega) h2 (by omega), got_lay_off hh.lay.ok w16' (by omega) h2 (by omega)]
  refine ⟨s1, s2, k2.ok, by rw [k2.own, k1.own, hh.lay.own], fun i hi => ?_, fun g hg h3 h4 => ?_, ?_, ?_, fun i hi h0 => ?_, fun i hi => by omega⟩
  · have hp := hi _ (h.p_in h.pos)
    have := h.size
    rw [k2.out i (by omega), k1.out i (by omega), hh.lay.out i (by omega)]
  · have gi := fat_in (f := g) (by omega) (by omega)
    have g4 := fat_off (f := g) (g := 4) (by omega) (by omega) (by omega) (by omega) (by omega)
    have f4 : fat 4 = 16 ∧ fw 4 = 8 := ⟨rfl, rfl⟩
    rw [keep _ _ (by omega) (by omega) (by omega) (by omega)]
    exact hh.f g hg hg h4
  · rw [got_lay_off k1.ok w40 (by omega) (by decide) (by omega)]
    have := got_lay hh.lay.ok w16'
    rw [l8] at this
    exact this
  · exact got_lay k1.ok w40
  · have ei : i = 0 := by omega
    subst ei
    rw [if_neg (by omega)]
    have := hh.f 3 (by decide) (by decide) (by decide)
    have f3 : fat ((3 : Nat) : Int) = 12 ∧ fw ((3 : Nat) : Int) = 4 := ⟨rfl, rfl⟩
    rw [f3.1, f3.2] at this
    show got _ (P.getD 0 0 + 12) 4 = _
    rw [keep _ _ (by omega) (by omega) (by omega) (by omega)]
    exact this
/-- another chunk's own bytes stay, whatever is laid into one -/
theorem ItemK.hdr_within (h : Fine s tc P key val ex fl cas) (hk : ItemK s t tc P key val ex fl cas k) {i : Nat} (hi : i < P.length) : within t (P.getD i 0) tc := (within_own hk.own _ _).2 (h.p_wi hi)
theorem Fine.link (h : Fine s tc P key val ex fl cas) {i : Nat} (hi : i < P.length) : ∃ o : Int, 0 ≤ o ∧ o + 4 ≤ 16 ∧ linkP P i = P.getD i 0 + o ∧ (i = 0 → o = 12) ∧ (i ≠ 0 → o = 0) := by
  unfold linkP
  by_cases e : i = 0
  · subst e; exact ⟨12, by omega, by omega, if_pos rfl, fun _ => rfl, fun q => absurd rfl q⟩
  · exact ⟨0, by omega, by omega, by rw [if_neg e]; omega, fun q => absurd q e, fun _ => rfl⟩
/-- the next chunk is linked -/
theorem ItemK.link (h : Fine s tc P key val ex fl cas) (hk : ItemK s t tc P key val ex fl cas k) (h0 : 0 < k) (hp : k < P.length) :
    ItemM s (setPlace (setPlace t (linkP P (k - 1)) (P.getD k 0)).1 (P.getD k 0) (-1)).1 tc P key val ex fl cas k := by
  have hs3 := h.size
  have hk1 : k - 1 < P.length := by omega
  obtain ⟨o1, a1, a2, a3, a4, a5⟩ := h.link hk1
  obtain ⟨o2, b1, b2, b3, b4, b5⟩ := h.link hp
  have o20 := b5 (by omega)
  have w1 := hk.hdr_within h hk1
  have wl : within t (linkP P (k - 1)) 4 := by rw [a3]; exact within_part w1 o1 4 (by omega) (by decide) (by omega) (by decide)
  have e1 := setPlace_lay hk.ok wl (h.pl hp).1
  have l1 := lay_frame hk.ok (X := pb4 (P.getD k 0)) (x := linkP P (k - 1)) (by rw [pb4_length]; exact wl) (pb4_bytes _) (fun i => linkP P (k - 1) ≤ i ∧ (i : Int) < linkP P (k - 1) + 4) fun i h1 h2 => by rw [pb4_length] at h2; exact ⟨h1, h2⟩
  have g1 := got_lay hk.ok (X := pb4 (P.getD k 0)) (x := linkP P (k - 1)) (by rw [pb4_length]; exact wl)
  rw [pb4_length] at g1
  rw [e1]
  generalize lay t (linkP P (k - 1)) (pb4 (P.getD k 0)) = t1 at l1 g1
  have w2 : within t1 (P.getD k 0) 4 := (l1.within _ _).2 (by
    have := within_part (hk.hdr_within h hp) 0 4 (by decide) (by decide) (by omega) (by decide)
    rwa [Int.add_zero] at this)
  have e2 := setPlace_lay l1.ok w2 (show Pl (-1) from ⟨by decide, by decide⟩)
  have l2 := lay_frame l1.ok (X := pb4 (-1)) (x := P.getD k 0) (by rw [pb4_length]; exact w2) (pb4_bytes _) (fun i => P.getD k 0 ≤ i ∧ (i : Int) < P.getD k 0 + 4) fun i h1 h2 => by rw [pb4_length] at h2; exact ⟨h1, h2⟩
  have g2 := got_lay l1.ok (X := pb4 (-1)) (x := P.getD k 0) (by rw [pb4_length]; exact w2)
  rw [pb4_length] at g2
  show ItemM s (setPlace t1 _ _).1 tc P key val ex fl cas k
  rw [e2]
  generalize lay t1 (P.getD k 0) (pb4 (-1)) = t2 at l2 g2
  have keep : ∀ y n : Int, 0 ≤ y → 0 ≤ n → (y + n ≤ linkP P (k - 1) ∨ linkP P (k - 1) + 4 ≤ y) → (y + n ≤ P.getD k 0 ∨ P.getD k 0 + 4 ≤ y) → got t2 y n = got t y n := fun y n h1 h2 h3 h4 => by
    rw [l2.got y n h1 fun i h5 h6 => by omega, l1.got y n h1 fun i h5 h6 => by omega]
  have z0 := (h.pl h.pos).2
  have ap : ∀ i, i < P.length → i ≠ k → P.getD i 0 + tc ≤ P.getD k 0 ∨ P.getD k 0 + tc ≤ P.getD i 0 := fun i hi e => h.apart i k hi hp e
  have ap0 := ap 0 h.pos (by omega)
  have apk : k - 1 ≠ 0 → P.getD 0 0 + tc ≤ P.getD (k - 1) 0 ∨ P.getD (k - 1) 0 + tc ≤ P.getD 0 0 := fun e => h.apart 0 (k - 1) h.pos hk1 (by omega)
  have hdrk : ∀ y n : Int, P.getD 0 0 ≤ y → 0 ≤ n → y + n ≤ P.getD 0 0 + tc → (y + n ≤ P.getD 0 0 + 12 ∨ P.getD 0 0 + 16 ≤ y) → got t2 y n = got t y n := fun y n h1 h2 h3 h4 => by
    refine keep y n (by omega) h2 ?_ (by omega)
    by_cases e : k - 1 = 0
    · have := a4 e; rw [a3, e]; omega
    · have := apk e; have := a5 e; rw [a3]; omega
  refine ⟨l2.ok, by rw [l2.own, l1.own, hk.own], fun i hi => ?_, fun g hg h3 h4 => ?_, ?_, ?_, fun i hi h1 => ?_, fun i hi => ?_⟩
  · have p1 := hi _ (h.p_in hk1)
    have p2 := hi _ (h.p_in hp)
    rw [l2.out i (by omega), l1.out i (by rw [a3]; omega), hk.out i hi]
  · have gi := fat_in (f := g) (by omega) (by omega)
    have g3 := fat_off (f := g) (g := 3) (by omega) (by omega) (by omega) (by omega) (by omega)
    have f3 : fat 3 = 12 ∧ fw 3 = 4 := ⟨rfl, rfl⟩
    rw [hdrk _ _ (by omega) (by omega) (by omega) (by omega)]
    exact hk.f g hg h3 h4
  · rw [hdrk _ _ (by omega) (by omega) (by omega) (by omega)]; exact hk.cas
  · rw [hdrk _ _ (by omega) (by omega) (by omega) (by omega)]; exact hk.ky
  · by_cases ek : i = k
    · subst ek
      rw [if_neg (by omega), b3, o20, Int.add_zero]
      exact g2
    · by_cases ek1 : i = k - 1
      · subst ek1
        rw [if_pos (by omega), show k - 1 + 1 = k from by omega, l2.got _ _ (by rw [a3]; have := (h.pl hk1).2; omega) fun j h5 h6 => by have := ap (k - 1) hk1 (by omega); rw [a3] at h5 h6; omega]
        exact g1
      · obtain ⟨o3, c1, c2, c3, c4, c5⟩ := h.link hi
        have := ap i hi ek
        have := h.apart i (k - 1) hi hk1 ek1
        have := (h.pl hi).2
        rw [keep _ _ (by omega) (by omega) (by rw [a3]; omega) (by omega), hk.chain i hi (.inl (by omega))]
        congr 1
        by_cases e : i + 1 < k
        · rw [if_pos e, if_pos (by omega)]
        · omega
  · obtain ⟨o3, c1, c2, c3, c4, c5⟩ := h.part (show i < P.length by omega)
    have := ap i (by omega) (by omega)
    have := (h.pl (show i < P.length by omega)).2
    rw [keep _ _ (by omega) (by omega) ?_ (by omega)]
    · exact hk.v i hi
    · by_cases e : i = k - 1
      · subst e
        rw [a3, c2]
        by_cases e0 : k - 1 = 0
        · have := a4 e0; have := c5 e0; omega
        · have := a5 e0; omega
      · have := h.apart i (k - 1) (by omega) hk1 e
        rw [a3, c2]
        omega
theorem ItemK.first (hk : ItemK s t tc P key val ex fl cas 0) : ItemM s t tc P key val ex fl cas 0 :=
  ⟨hk.ok, hk.own, hk.out, hk.f, hk.cas, hk.ky, fun i hi h1 => by
    have := hk.chain i hi (.inr (by omega))
    rw [if_neg (by omega)] at this
    rw [if_neg (by omega)]
    exact this, hk.v⟩
theorem write_nil (s : St) (x : Int) : (write s x []).1 = s := by
  unfold write
  split
  · exact lay_nil s x
  · rfl
/-- a part's bytes -/
def partV (tc kl : Int) (val : List Int) (k : Nat) : List Int := (val.drop (offV tc kl val.length k).toNat).take (offV tc kl val.length (k + 1) - offV tc kl val.length k).toNat
theorem Fine.partV_len (h : Fine s tc P key val ex fl cas) (k : Nat) : ((partV tc key.length val k).length : Int) = offV tc key.length val.length (k + 1) - offV tc key.length val.length k := by
  have h1 := offV_mono (tc := tc) (kl := key.length) (vl := val.length) h.size.1 h.size.2.1 (by omega) k
  have h2 := offV_mono (tc := tc) (kl := key.length) (vl := val.length) h.size.1 h.size.2.1 (by omega) (k + 1)
  unfold partV
  rw [List.length_take, List.length_drop]
  omega
theorem ItemM.part (h : Fine s tc P key val ex fl cas) (hk : ItemM s t tc P key val ex fl cas k) (hp : k < P.length) :
    ItemK s (write t (partP P key.length k) (partV tc key.length val k)).1 tc P key val ex fl cas (k + 1) := by
  have hs3 := h.size
  obtain ⟨o, c1, c2, c3, c4, c5⟩ := h.part hp
  have hl := h.partV_len k
  have px := (h.pl hp).2
  have hb : Bytes (partV tc key.length val k) := fun x hx => h.bytes.2 x (List.mem_of_mem_drop (List.mem_of_mem_take hx))
  by_cases e : partV tc key.length val k = []
  · rw [e, write_nil]
    refine ⟨hk.ok, hk.own, hk.out, hk.f, hk.cas, hk.ky, fun i hi h1 => hk.chain i hi (by omega), fun i hi => ?_⟩
    by_cases ei : i = k
    · subst ei
      have : partV tc key.length val i = [] := e
      unfold partV at this
      rw [this]
      rw [e] at hl
      have z : offV tc key.length val.length (i + 1) - offV tc key.length val.length i = 0 := by simp at hl; omega
      rw [z]
      unfold got
      exact List.take_zero
    · exact hk.v i (by omega)
  · have hpos : 0 < (partV tc key.length val k).length := List.length_pos_iff.2 e
    have wt : within t (P.getD k 0) tc := (within_own hk.own _ _).2 (h.p_wi hp)
    have wl : within t (partP P key.length k) (partV tc key.length val k).length := by
      rw [c2]; exact within_part wt o _ (by omega) (by omega) (by omega) (by omega)
    have e1 : (write t (partP P key.length k) (partV tc key.length val k)).1 = lay t (partP P key.length k) (partV tc key.length val k) := write_lay _ _ _ wl
    have l1 := lay_frame hk.ok wl hb (fun i => partP P key.length k ≤ i ∧ (i : Int) < partP P key.length k + (partV tc key.length val k).length) fun i h1 h2 => ⟨h1, h2⟩
    have g1 := got_lay hk.ok wl
    rw [e1]
    generalize lay t (partP P key.length k) (partV tc key.length val k) = t1 at l1 g1
    have keep : ∀ y n : Int, 0 ≤ y → 0 ≤ n → (y + n ≤ partP P key.length k ∨ partP P key.length k + (partV tc key.length val k).length ≤ y) → got t1 y n = got t y n := fun y n h1 h2 h3 => l1.got y n h1 fun i h5 h6 => by omega
    have z0 := (h.pl h.pos).2
    have hdrk : ∀ y n : Int, P.getD 0 0 ≤ y → 0 ≤ n → y + n ≤ P.getD 0 0 + 40 + key.length → got t1 y n = got t y n := fun y n h1 h2 h3 => by
      refine keep y n (by omega) h2 ?_
      rw [c2]
      by_cases e0 : k = 0
      · subst e0; have := c5 rfl; omega
      · have := h.apart 0 k h.pos hp (by omega); omega
    refine ⟨l1.ok, by rw [l1.own, hk.own], fun i hi => ?_, fun g hg h3 h4 => ?_, ?_, ?_, fun i hi h1 => ?_, fun i hi => ?_⟩
    · have p1 := hi _ (h.p_in hp)
      rw [l1.out i (by rw [c2]; omega), hk.out i hi]
    · have gi := fat_in (f := g) (by omega) (by omega)
      rw [hdrk _ _ (by omega) (by omega) (by omega)]
      exact hk.f g hg h3 h4
    · rw [hdrk _ _ (by omega) (by omega) (by omega)]; exact hk.cas
    · rw [hdrk _ _ (by omega) (by omega) (by omega)]; exact hk.ky
    · obtain ⟨o2, b1, b2, b3, b4, b5⟩ := h.link hi
      have := (h.pl hi).2
      rw [keep _ _ (by omega) (by decide) ?_]
      · exact hk.chain i hi (by omega)
      · rw [c2, b3]
        by_cases e0 : i = k
        · subst e0
          by_cases e00 : i = 0
          · have := b4 e00; have := c5 e00; omega
          · have := b5 e00; omega
        · have := h.apart i k hi hp e0
          omega
    · by_cases ei : i = k
      · subst ei
        rw [hl] at g1
        exact g1
      · obtain ⟨o3, d1, d2, d3, d4, d5⟩ := h.part (show i < P.length by omega)
        have := (h.pl (show i < P.length by omega)).2
        have := h.apart i k (by omega) hp ei
        rw [keep _ _ (by omega) (by omega) (by rw [c2, d2]; omega)]
        exact hk.v i (by omega)
/-- all chunks -/
theorem ItemK.all (h : Fine s tc P key val ex fl cas) (hk : ItemK s t tc P key val ex fl cas P.length) (ha : offV tc key.length val.length P.length = val.length) : ItemAt t tc P key val ex fl cas := by
  have hh : within t (P.getD 0 0) 40 := (within_own hk.own _ _).2 h.hdr
  have fit := fun f (hf : f < 12) => hvals_fits (ex := ex) (fl := fl) (vl := val.length) (kl := key.length) h.nums.1 h.nums.2.1 (by have := h.lens; omega) (by have := h.lens; omega) f hf
  have z0 := (h.pl h.pos).2
  refine ⟨hk.ok, h.pos, ⟨h.size.1, h.size.2.1⟩, fun p hp => (within_own hk.own _ _).2 (h.inn p hp), h.most, h.lens, h.bytes,
    itemGet_of hk.ok hh (by decide) (by decide) (by decide) (fit 5 (by decide)) (hk.f 5 (by decide) (by decide) (by decide)),
    itemGet_of hk.ok hh (by decide) (by decide) (by decide) (fit 6 (by decide)) (hk.f 6 (by decide) (by decide) (by decide)),
    itemGet_of hk.ok hh (by decide) (by decide) (by decide) (fit 7 (by decide)) (hk.f 7 (by decide) (by decide) (by decide)),
    itemGet_of hk.ok hh (by decide) (by decide) (by decide) (fit 8 (by decide)) (hk.f 8 (by decide) (by decide) (by decide)), ?_, hk.ky, fun i hi => ?_, hk.v, ha⟩
  · have w16 : within t (P.getD 0 0 + 16) 8 := within_part hh 16 8 (by decide) (by decide) (by decide) (by decide)
    unfold number
    rw [if_pos w16, hk.cas]
    have := getC_leb cas 8 0 8 (by omega) (by omega)
    have e0 : ((0 : Nat) : Int) = 0 := rfl
    have e8 : ((8 : Nat) : Int) = 8 := rfl
    rw [e0, e8] at this
    rw [this]
    congr 1
    rw [show 8 * 0 = 0 from rfl, Int.pow_zero, Int.ediv_one]
    have := h.nums.2.2
    exact Int.emod_eq_of_lt (by omega) (by omega)
  · obtain ⟨o2, b1, b2, b3, b4, b5⟩ := h.link hi
    have wl : within t (linkP P i) 4 := by rw [b3]; exact within_part (hk.hdr_within h hi) o2 4 (by omega) (by decide) (by have := h.size; omega) (by decide)
    refine place_of_got hk.ok wl ?_ ?_
    · unfold nextP
      split
      · exact (h.pl (by assumption)).1
      · exact ⟨by decide, by decide⟩
    · exact hk.chain i hi (.inl hi)
/-! ### the states, one after another -/
def hdrS (s : St) (x : Int) (vs : List Int) : Nat → St
  | 0 => s
  | k + 1 => if k = 4 then hdrS s x vs k else (itemSet (hdrS s x vs k) x k (vs.getD k 0)).1
def baseS (s : St) (x : Int) (key val : List Int) (ex fl cas : Int) : St := lay (lay (hdrS s x (hvals ex fl val.length key.length) 12) (x + 16) (leb cas 8)) (x + 40) key
def partS (s : St) (tc : Int) (P key val : List Int) : Nat → St
  | 0 => s
  | k + 1 => (write (if k = 0 then partS s tc P key val k else (setPlace (setPlace (partS s tc P key val k) (linkP P (k - 1)) (P.getD k 0)).1 (P.getD k 0) (-1)).1) (partP P key.length k) (partV tc key.length val k)).1
end
end Go.Proofs.Ytmffdlebahdihaa.ArenaPure

