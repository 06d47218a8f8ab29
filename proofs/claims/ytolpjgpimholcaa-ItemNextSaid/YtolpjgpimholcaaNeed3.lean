/- The walk of the reference's Need: it answers needC. -/
import Derived.Test.YtolpjgpimholcaaNeed2
namespace Go.Proofs.Ytolpjgpimholcaa.Need
open Go.RowKit Go.Proofs.Ytolpjgpimholcaa.Mem Go.Proofs.Ytolpjgpimholcaa.NeedPure
set_option linter.unusedVariables false

theorem refneed_far (A : Option Addr) (c : Nat) (l : List Int) (key value : Int) (w : World) (hm : l.length ≤ 1000000) (h : key < 1 ∨ key > 32 ∨ value < 0 ∨ value > 2000) :
    Calls Try.prog 99 #[.slice A l.length c, .int .i64 key, .int .i64 value] w fun e w' => e = .returned (.tuple #[.int .i64 (needC l key value).1, .int .i64 (needC l key value).2.1, .int .i64 (needC l key value).2.2]) ∧ Dr w w' := by
  have e : needC l key value = (0, 0, 1) := by unfold needC; rw [if_pos h]
  rw [e]
  clear e
  by_cases h1 : key < 1
  · clear h
    go_enter Try.func99, Try.ntmps99
    go_wp2
    go_ret3
    exact ⟨rfl, Dr.refl _⟩
  by_cases h2 : key > 32
  · clear h
    go_enter Try.func99, Try.ntmps99
    go_wp2
    go_ret3
    exact ⟨rfl, Dr.refl _⟩
  by_cases h3 : value < 0
  · clear h
    go_enter Try.func99, Try.ntmps99
    go_wp2
    go_ret3
    exact ⟨rfl, Dr.refl _⟩
  have h4 : value > 2000 := by omega
  clear h
  go_enter Try.func99, Try.ntmps99
  go_wp2
  go_ret3
  exact ⟨rfl, Dr.refl _⟩
theorem ceil_of (R E r : Int) (m : Nat) (hE : 1 ≤ E) (h : r = R - m * E) (h1 : -E < r) (h2 : r ≤ 0) : (R + E - 1) / E = m := by
  have e : R + E - 1 = (r + E - 1) + (m : Int) * E := by omega
  rw [e, Int.add_mul_ediv_right _ _ (by omega), Int.ediv_eq_zero_of_lt (by omega) (by omega)]
  omega
theorem refneed_in (A : Option Addr) (c : Nat) (l : List Int) (key value : Int) (w : World) (hl : Sl w .i64 A l) (hm : l.length ≤ 1000000) (hw : ∀ x ∈ l, -9223372036854775808 ≤ x ∧ x ≤ 9223372036854775807)
    (h : ¬ (key < 1 ∨ key > 32 ∨ value < 0 ∨ value > 2000)) :
    Calls Try.prog 99 #[.slice A l.length c, .int .i64 key, .int .i64 value] w fun e w' => e = .returned (.tuple #[.int .i64 (needC l key value).1, .int .i64 (needC l key value).2.1, .int .i64 (needC l key value).2.2]) ∧ Dr w w' := by
  have k1 : 1 ≤ key := by omega
  have k2 : key ≤ 32 := by omega
  have k3 : 0 ≤ value := by omega
  have k4 : value ≤ 2000 := by omega
  have HH := Lib.hid h
  clear h
  have HL := Lib.hid hl
  have HW := Lib.hid hw
  clear hl hw
  by_cases hz : l = []
  · subst hz
    have e : needC [] key value = (0, 0, 6) := by unfold needC; rw [if_neg HH.out, if_pos (.inl rfl)]
    rw [e]
    clear e
    go_enter Try.func99, Try.ntmps99
    go_wp2
    go_ret3
    exact ⟨rfl, Dr.refl _⟩
  have hpos : 0 < l.length := List.length_pos_iff.2 hz
  obtain ⟨ad, rfl, hc0⟩ := HL.out (l.length - 1) (by omega)
  have hlm : last l ∈ l := by
    unfold last
    rw [List.getD_eq_getElem?_getD, List.getElem?_eq_getElem (by omega)]
    exact List.getElem_mem _
  have lb := HW.out (last l) hlm
  obtain ⟨z, ez⟩ : ∃ z, last l = z := ⟨_, rfl⟩
  have hc : w.cell? (ad.add (l.length - 1)) = some (.int .i64 z) := by rw [← ez]; exact hc0
  rw [ez] at lb
  have EZ := Lib.hid ez
  have HZ := Lib.hid hz
  clear hc0 hlm hz ez
  by_cases hs : z < 256
  · have e : needC l key value = (0, 0, 6) := by unfold needC; rw [if_neg HH.out, if_pos (.inr (by rw [EZ.out]; exact hs))]
    rw [e]
    clear e
    go_enter Try.func99, Try.ntmps99
    go_wp2
    go_ret3
    exact ⟨rfl, Dr.refl _⟩
  have e0 : needC l key value = if (forC l (40 + key + value)).2 = 0 then ((forC l (40 + key + value)).1, 0, 0)
      else ((l.length : Int) - 1, (40 + key + value - z + (z - 4) - 1) / (z - 4), 0) := by
    unfold needC
    rw [if_neg HH.out, if_neg (by rw [EZ.out]; rintro (h | h); exact HZ.out h; exact hs h), EZ.out]
  rcases forC_cases l (40 + key + value) (by omega) with ⟨f2, k, hk, f1, hx⟩ | ⟨f, hx⟩
  · rw [e0, if_pos f2, f1]
    have F : Hid (forC l (40 + key + value) = ((k : Int), 0)) := by rw [← f1, ← f2]; rfl
    clear e0 f1 f2 hx
    go_enter Try.func99, Try.ntmps99
    go_wp2_with (go_at_call 114; refine (reffor_calls _ _ l (40 + key + value) _ HL.out hm).mono ?_; rw [F.out]; rintro e w' ⟨rfl, rfl⟩)
    go_ret3
    exact ⟨rfl, Dr.refl _⟩
  · rw [e0, f, if_neg (by decide)]
    have F := Lib.hid f
    have lt : z < 40 + key + value := by rw [← EZ.out]; exact hx (l.length - 1) (by omega)
    have m3 : decide (3000 < z) = false := decide_eq_false (by omega)
    clear e0 f hx
    go_enter Try.func99, Try.ntmps99
    go_wp2_with (go_at_call 114; refine (reffor_calls _ _ l (40 + key + value) _ HL.out hm).mono ?_; rw [F.out]; rintro e w' ⟨rfl, rfl⟩)
    go_loop [12, 13] (fun v u => ∃ (r : Int) (m : Nat), v = .int .i64 r ∧ u = .int .i64 (m : Int) ∧ Hid (r = (40 + key + value - z) - m * (z - 4)) ∧ -3000 ≤ r ∧ r ≤ 3000 ∧ Hid (-(z - 4) < r) ∧ (m : Int) * 252 + r ≤ 3000) (fun v _ => (intOf v).toNat)
    case atStart => exact ⟨40 + key + value - z, 0, by go_num, by go_num, by show _ = _; omega, by omega, by omega, by show _ < _; omega, by omega⟩
    case round =>
      obtain ⟨r, m, rfl, rfl, E, r0, r1, G, mb⟩ := hrel
      by_cases hr : r > 0
      · go_wp2
        go_round
        case rel => exact ⟨r - (z - 4), m + 1, by go_num, by go_num, by have := E.out; show _ = _; rw [this, Int.natCast_add, Int.add_mul]; omega, by omega, by omega, by show _ < _; omega, by omega⟩
        case measure => simp [intOf]; omega
      · have C := Lib.hid (ceil_of (40 + key + value - z) (z - 4) r m (by omega) E.out G.out (by omega))
        go_wp2
        go_ret3
        exact ⟨by rw [C.out]; rfl, Dr.refl _⟩

/-- the reference's Need, of any numbers -/
theorem refneed_calls (A : Option Addr) (c : Nat) (l : List Int) (key value : Int) (w : World) (hl : Sl w .i64 A l) (hm : l.length ≤ 1000000) (hw : ∀ x ∈ l, -9223372036854775808 ≤ x ∧ x ≤ 9223372036854775807) :
    Calls Try.prog 99 #[.slice A l.length c, .int .i64 key, .int .i64 value] w fun e w' => e = .returned (.tuple #[.int .i64 (needC l key value).1, .int .i64 (needC l key value).2.1, .int .i64 (needC l key value).2.2]) ∧ Dr w w' := by
  by_cases h : key < 1 ∨ key > 32 ∨ value < 0 ∨ value > 2000
  · exact refneed_far A c l key value w hm h
  · exact refneed_in A c l key value w hl hm hw h
/-- the program's -/
theorem need_calls (A : Option Addr) (c : Nat) (l : List Int) (key value : Int) (w : World) (hl : Sl w .i64 A l) (hm : l.length ≤ 1000000) (hw : ∀ x ∈ l, -9223372036854775808 ≤ x ∧ x ≤ 9223372036854775807) :
    Calls Try.prog 15 #[.slice A l.length c, .int .i64 key, .int .i64 value] w fun e w' => e = .returned (.tuple #[.int .i64 (needC l key value).1, .int .i64 (needC l key value).2.1, .int .i64 (needC l key value).2.2]) ∧ Dr w w' := by
  by_cases h : key < 1 ∨ key > 32 ∨ value < 0 ∨ value > 2000
  · exact need_far A c l key value w hm h
  · exact need_in A c l key value w hl hm hw h

end Go.Proofs.Ytolpjgpimholcaa.Need
