/- The walks of item.Need and of the reference's Need: both answer needC. -/
import Derived.Test.YtolpjgpimholcaaNeed
import Derived.Deep.QuietTactic
import Derived.BigQuiet
namespace Go.Proofs.Ytolpjgpimholcaa.Need
open Go.RowKit Go.Proofs.Ytolpjgpimholcaa.Mem Go.Proofs.Ytolpjgpimholcaa.NeedPure
set_option linter.unusedVariables false

theorem need_far (A : Option Addr) (c : Nat) (l : List Int) (key value : Int) (w : World) (hm : l.length ≤ 1000000) (h : key < 1 ∨ key > 32 ∨ value < 0 ∨ value > 2000) :
    Calls Try.prog 15 #[.slice A l.length c, .int .i64 key, .int .i64 value] w fun e w' => e = .returned (.tuple #[.int .i64 (needC l key value).1, .int .i64 (needC l key value).2.1, .int .i64 (needC l key value).2.2]) ∧ Dr w w' := by
  have e : needC l key value = (0, 0, 1) := by unfold needC; rw [if_pos h]
  rw [e]
  clear e
  by_cases h1 : key < 1
  · clear h
    go_enter Try.func15, Try.ntmps15
    go_wp2
    go_ret3
    exact ⟨rfl, Dr.refl _⟩
  by_cases h2 : key > 32
  · clear h
    go_enter Try.func15, Try.ntmps15
    go_wp2
    go_ret3
    exact ⟨rfl, Dr.refl _⟩
  by_cases h3 : value < 0
  · clear h
    go_enter Try.func15, Try.ntmps15
    go_wp2
    go_ret3
    exact ⟨rfl, Dr.refl _⟩
  have h4 : value > 2000 := by omega
  clear h
  go_enter Try.func15, Try.ntmps15
  go_wp2
  go_ret3
  exact ⟨rfl, Dr.refl _⟩
theorem need_in (A : Option Addr) (c : Nat) (l : List Int) (key value : Int) (w : World) (hl : Sl w .i64 A l) (hm : l.length ≤ 1000000) (hw : ∀ x ∈ l, -9223372036854775808 ≤ x ∧ x ≤ 9223372036854775807)
    (h : ¬ (key < 1 ∨ key > 32 ∨ value < 0 ∨ value > 2000)) :
    Calls Try.prog 15 #[.slice A l.length c, .int .i64 key, .int .i64 value] w fun e w' => e = .returned (.tuple #[.int .i64 (needC l key value).1, .int .i64 (needC l key value).2.1, .int .i64 (needC l key value).2.2]) ∧ Dr w w' := by
  have k1 : 1 ≤ key := by omega
  have k2 : key ≤ 32 := by omega
  have k3 : 0 ≤ value := by omega
  have k4 : value ≤ 2000 := by omega
  have HH := Lib.hid h
  clear h
  have HL := Lib.hid hl
  have HW := Lib.hid hw
  clear hl hw
  by_cases hz : l = []
  · subst hz
    have e : needC [] key value = (0, 0, 6) := by unfold needC; rw [if_neg HH.out, if_pos (.inl rfl)]
    rw [e]
    clear e
    go_enter Try.func15, Try.ntmps15
    go_wp2
    go_ret3
    exact ⟨rfl, Dr.refl _⟩
  have hpos : 0 < l.length := List.length_pos_iff.2 hz
  obtain ⟨ad, rfl, hc0⟩ := HL.out (l.length - 1) (by omega)
  have hc : w.cell? (ad.add (l.length - 1)) = some (.int .i64 (last l)) := hc0
  clear hc0
  have hlm : last l ∈ l := by
    unfold last
    rw [List.getD_eq_getElem?_getD, List.getElem?_eq_getElem (by omega)]
    exact List.getElem_mem _
  have lb := HW.out (last l) hlm
  have HZ := Lib.hid hz
  clear hlm hz
  by_cases hs : last l < 256
  · have e : needC l key value = (0, 0, 6) := by unfold needC; rw [if_neg HH.out, if_pos (.inr hs)]
    rw [e]
    clear e
    go_enter Try.func15, Try.ntmps15
    go_wp2
    go_ret3
    exact ⟨rfl, Dr.refl _⟩
  have e0 : needC l key value = if (forC l (40 + key + value)).2 = 0 then ((forC l (40 + key + value)).1, 0, 0)
      else ((l.length : Int) - 1, (40 + key + value - last l + (last l - 4) - 1) / (last l - 4), 0) := by
    unfold needC
    rw [if_neg HH.out, if_neg (by rintro (h | h); exact HZ.out h; exact hs h)]
  rcases forC_cases l (40 + key + value) (by omega) with ⟨f2, k, hk, f1, hx⟩ | ⟨f, hx⟩
  · rw [e0, if_pos f2, f1]
    have F : Hid (forC l (40 + key + value) = ((k : Int), 0)) := by rw [← f1, ← f2]; rfl
    clear e0 f1 f2 hx
    go_enter Try.func15, Try.ntmps15
    go_wp2_with (go_at_call 56; refine (for_calls _ _ l (40 + key + value) _ HL.out hm).mono ?_; rw [F.out]; rintro e w' ⟨rfl, rfl⟩)
    go_ret3
    exact ⟨rfl, Dr.refl _⟩
  · rw [e0, f, if_neg (by decide)]
    have F := Lib.hid f
    have lt : last l < 40 + key + value := hx (l.length - 1) (by omega)
    clear e0 f hx
    go_enter Try.func15, Try.ntmps15
    go_wp2_with (go_at_call 56; refine (for_calls _ _ l (40 + key + value) _ HL.out hm).mono ?_; rw [F.out]; rintro e w' ⟨rfl, rfl⟩)
    go_quiet (fail)
    go_wp2
    go_quiet (fail)
    go_wp2
    go_ret3
    exact ⟨rfl, ((Dr.refl _).step _).step _⟩

end Go.Proofs.Ytolpjgpimholcaa.Need
