/- The walk of the law CodecBack: it returns true at any bytes, place, number and width. PRINTED by wip/gen/codecback.py. -/
import Derived.Test.YtfempngnapkhjaaCodecWorks
import Derived.Test.YtfempngnapkhjaaCodecFacts
import Derived.Test.YtfempngnapkhjaaCodecPuts
import Derived.Deep.QuietTactic
import Derived.BigQuiet
import Derived.IntWalk
import Derived.OpenShut
namespace Go.Proofs.Ytfempngnapkhjaa.Codec
open Go.RowKit Go.Proofs.Ytfempngnapkhjaa.Mem Go.Proofs.Ytfempngnapkhjaa.CodecPure
set_option linter.unusedVariables false

theorem back_pure (l : List Int) (a n : Nat) (x : Int) (hb : Bytes l) (hw : (n : Int) = 1 ∨ (n : Int) = 2 ∨ (n : Int) = 4 ∨ (n : Int) = 8) (ha : a + n ≤ l.length) (h0 : 0 ≤ x) (h1 : x < 2 ^ (8 * n)) :
    ∃ X, putC l (a : Int) (n : Int) x = (X, 0) ∧ X.length = l.length ∧ Bytes X ∧ getC X (a : Int) (n : Int) = (x, 0) ∧ ∀ k, k < l.length → (k < a ∨ a + n ≤ k) → X.getD k 0 = l.getD k 0 := by
  have e1 : ((a : Int)).toNat = a := by omega
  have e2 : ((n : Int)).toNat = n := by omega
  have hd : x / 2 ^ (8 * n) = 0 := Int.ediv_eq_zero_of_lt h0 h1
  have hll : (leb x n).length = n := leb_length n x
  refine ⟨splice l a (leb x n), ?_, length_splice _ _ _ (by rw [hll]; omega), bytes_splice _ _ _ hb (leb_bytes n x), ?_, ?_⟩
  · unfold putC
    rw [if_pos ⟨hw, by omega, by omega⟩, e1, e2, if_neg (by rw [hd]; simp)]
  · unfold getC
    rw [length_splice _ _ _ (by rw [hll]; omega), if_pos ⟨hw, by omega, by omega⟩, e1, e2]
    have : ((splice l a (leb x n)).drop a).take n = leb x n := by
      apply List.ext_getElem?
      intro i
      rw [List.getElem?_take]
      by_cases hi : i < n
      · rw [if_pos hi, List.getElem?_drop, splice_get _ _ _ (by rw [hll]; omega), hll, if_pos (by omega)]
        congr 1; omega
      · rw [if_neg hi, List.getElem?_eq_none (by rw [hll]; omega)]
    rw [this, le_leb, Int.emod_eq_of_lt h0 h1]
  · intro k hk h
    rw [List.getD_eq_getElem?_getD, splice_get _ _ _ (by rw [hll]; omega), hll, if_neg (by omega), List.getD_eq_getElem?_getD]
theorem place_of (at_ : Int) (d : Int) (h : 0 < d) : ∃ a : Nat, (a : Int) < d ∧ (IntKind.u64.wrap at_).tmod d = a := by
  rw [u64_wrap]
  have h0 := Int.emod_nonneg at_ (show (18446744073709551616 : Int) ≠ 0 by decide)
  generalize at_ % 18446744073709551616 = r at h0
  rw [Int.tmod_eq_emod_of_nonneg h0]
  have h1 := Int.emod_nonneg r (show d ≠ 0 by omega)
  have h2 := Int.emod_lt_of_pos r h
  exact ⟨(r % d).toNat, by omega, by omega⟩
theorem four_of (k : Int) : (IntKind.u64.wrap k).tmod 4 = 0 ∨ (IntKind.u64.wrap k).tmod 4 = 1 ∨ (IntKind.u64.wrap k).tmod 4 = 2 ∨ (IntKind.u64.wrap k).tmod 4 = 3 := by
  rw [u64_wrap]
  have h0 := Int.emod_nonneg k (show (18446744073709551616 : Int) ≠ 0 by decide)
  generalize k % 18446744073709551616 = r at h0
  rw [Int.tmod_eq_emod_of_nonneg h0]
  omega
theorem less_of (v d : Int) (h0 : 0 ≤ v) (h : 0 < d) : ∃ x : Int, 0 ≤ x ∧ x < d ∧ v.tmod d = x := by
  rw [Int.tmod_eq_emod_of_nonneg h0]
  exact ⟨v % d, Int.emod_nonneg v (by omega), Int.emod_lt_of_pos v h, rfl⟩

set_option maxHeartbeats 2000000 in
theorem back_0 (A0 : Option Addr) (c0 : Nat) (l0 : List Int) (at_ v kk x : Int) (a : Nat) (w : World) (hb0 : Bytes l0) (hs0 : Sl w .u8 A0 l0) (hnil0 : A0 = none → c0 = 0) (hm : l0.length ≤ 10000) (hm8 : 8 ≤ l0.length) (ek : (IntKind.u64.wrap kk).tmod 4 = 0)
    (ha : (a : Int) < (l0.length : Int) - 1 + 1) (ea : (IntKind.u64.wrap at_).tmod (l0.length : Int) = a) (ex : v.tmod 256 = x) (x0 : 0 ≤ x) (x1 : x < 2 ^ (8 * 1)) :
    Calls Try.prog 5 #[.slice A0 l0.length c0, .int .i64 at_, .int .u64 v, .int .i64 kk] w fun e w' => e = .returned (.bool true) ∧ Below w.heap.size w w' := by
  have hb := Lib.hid hb0
  have hs := Lib.hid hs0
  have hnil := Lib.hid hnil0
  obtain ⟨X, eP, lX0, bX0, eG, same0⟩ := back_pure l0 a 1 x hb0 (by decide) (by omega) x0 x1
  have x2 : x < 18446744073709551616 := Int.lt_of_lt_of_le x1 (by decide)
  have hlX := Lib.hid lX0
  have hbX := Lib.hid bX0
  have same := Lib.hid same0
  have c1 : Hid (∀ A c base W, Own W base 5 .u8 (.slice A l0.length c) l0 → Calls Try.prog 9 #[.slice A l0.length c, .int .i64 a, .int .i64 1, .int .u64 x] W (Wr W base A l0.length c X 0)) := fun A c base W ho => by
    have := put_own A c base l0 a 1 x W ho (by omega) (by omega) x0 x2
    rw [show putC l0 (a : Int) 1 x = (X, 0) from eP] at this
    exact this
  have c3 : Hid (∀ A c base W, Own W base 5 .u8 (.slice A l0.length c) X → Calls Try.prog 11 #[.slice A l0.length c, .int .i64 a, .int .i64 1] W fun e w' => e = .returned (.tuple #[.int .u64 x, .int .i64 0]) ∧ W = w') := fun A c base W h => by
    have lx := hlX.out
    have hc := Own.room h
    have := get_calls A X c a 1 W h.sl hbX.out hc.1 hc.2 (by omega)
    rw [show getC X (a : Int) 1 = (x, 0) from eG, lx] at this
    exact this
  have room : Hid (a + 1 ≤ l0.length) := (by omega : a + 1 ≤ l0.length)
  have r2 : (a : Int) + 1 ≤ l0.length := by omega
  clear hb0 hs0 hnil0 lX0 bX0 same0 eP eG x1
  go_enter Try.func5, Try.ntmps5
  go_wp2_with (first | (go_at_call 17; refine (works_calls _).mono ?_; rintro e w1 ⟨rfl, hbb⟩; have B1 := Lib.hid hbb; have S1 : Hid (Sl w1 .u8 A0 l0) := hs.out.chg (Chg.of_below (S := fun _ => False) hbb) (fun _ _ h => h); clear hbb) | (at_builtin; refine wpList_app rfl _ _ 22 rfl w1.heap.size 5 .u8 1 Try.underlying22 infoByte _ [] rfl (Own.lit w1 5 .u8 [] (Nat.zero_le _)) A0 _ c0 l0 rfl rfl (S1.out.later (Chg.alloc _ w1 _) (Nat.le_refl _)) hnil.out ?h63 ?hby ?hba ?_; (case h63 => unfold maxLen; simp; omega); (case hby => simp; omega); (case hba => simp); intro A' c' n' w3 hn' hown hchg; obtain rfl : n' = l0.length := (by simpa using hn'); have O3 : Hid (Own w3 w1.heap.size 5 .u8 (.slice A' l0.length c') l0) := hown; have C3 : Hid (Chg (fun b => w1.heap.size ≤ b) w1 w3) := (Chg.alloc _ w1 _).trans hchg; clear hn' hown hchg))
  refine (c1.out A' c' w1.heap.size w3 O3.out).mono ?_
  rintro e w4 ⟨rfl, ho4, hc4⟩
  have O4 := Lib.hid ho4
  have C4 : Hid (Chg (fun b => w1.heap.size ≤ b) w1 w4) := C3.out.trans hc4
  have S4 : Hid (Sl w4 .u8 A0 l0) := S1.out.later C4.out (Nat.le_refl _)
  obtain ⟨g, cs, eA', gb, gh, gl, g1, g2, g3, gc⟩ := ho4.blk (by rw [hlX.out]; omega)
  subst eA'
  obtain ⟨ad, eA0, _⟩ := S4.out 0 (by omega)
  subst eA0
  have cx : Hid (∀ k, k < l0.length → w4.cell? ⟨g, k, none⟩ = some (.int .u8 (X.getD k 0))) := fun k hk => by
    rw [blk_cell gh, List.getElem?_toArray]
    exact gc k (by rw [hlX.out]; exact hk)
  have cl : Hid (∀ k, k < l0.length → w4.cell? (ad.add k) = some (.int .u8 (l0.getD k 0))) := fun k hk => by
    obtain ⟨ad', e, c⟩ := S4.out k hk
    injection e with e
    subst e
    exact c
  have EB : Hid (Below w.heap.size w w4) := B1.out.trans ((C4.out.below (Nat.le_refl _) fun b h => h).mono B1.out.size)
  clear ho4 hc4 gb gh gl g1 g2 g3 gc C3 hs S1 S4 c1 B1
  go_wp2_with (go_at_call 11; refine (c3.out _ c' w1.heap.size w4 O4.out).mono ?_; rintro e w' ⟨rfl, rfl⟩)
  go_loopw [14] (fun i wr => ∃ k : Nat, k ≤ l0.length ∧ i = .int .i64 k ∧ Hid (Dr w4 wr)) (fun i _ => l0.length - (intOf i).toNat)
  case atStart => exact ⟨0, Nat.zero_le _, rfl, Dr.refl _⟩
  case round =>
    obtain ⟨k, hk, rfl, DD⟩ := hrel
    by_cases hlt : k < l0.length
    · have hkl : (k : Int) < l0.length := by omega
      by_cases h1 : k < a
      · obtain ⟨z, ez⟩ : ∃ z, l0.getD k 0 = z := ⟨_, rfl⟩
        have k1 := (DD.out.chg fun _ => False).cell (cx.out k hlt) id
        have k2 := (DD.out.chg fun _ => False).cell (cl.out k hlt) id
        rw [same.out k hlt (Or.inl (by omega)), ez] at k1
        rw [ez] at k2
        clear ez
        go_wp2_with fail
        go_quiet (fail)
        go_wp2
        go_round
        case rel => exact ⟨k + 1, hlt, by go_num, DD.out.step _⟩
        case measure => simp [intOf]; omega
      · have d1 : decide (k < a) = false := by simpa using h1
        have su : IntKind.i64.wrap ((a : Int) + 1) = a + 1 := IntWalk.i64_in _ (by omega)
        by_cases h2 : (a : Int) + 1 ≤ k
        · obtain ⟨z, ez⟩ : ∃ z, l0.getD k 0 = z := ⟨_, rfl⟩
          have k1 := (DD.out.chg fun _ => False).cell (cx.out k hlt) id
          have k2 := (DD.out.chg fun _ => False).cell (cl.out k hlt) id
          rw [same.out k hlt (Or.inr (by omega)), ez] at k1
          rw [ez] at k2
          clear ez
          go_wp2_with fail
          go_quiet (fail)
          go_wp2
          go_round
          case rel => exact ⟨k + 1, hlt, by go_num, DD.out.step _⟩
          case measure => simp [intOf]; omega
        · have d2 : decide ((a : Int) + 1 ≤ k) = false := by simpa using h2
          go_wp2_with fail
          go_quiet (fail)
          go_wp2
          go_round
          case rel => exact ⟨k + 1, hlt, by go_num, DD.out.step _⟩
          case measure => simp [intOf]; omega
    · obtain rfl : k = l0.length := by omega
      go_wp2
      go_ret
      exact ⟨rfl, EB.out.trans ((DD.out.chg fun _ => False).below EB.out.size fun _ h => h.elim)⟩

set_option maxHeartbeats 2000000 in
theorem back_1 (A0 : Option Addr) (c0 : Nat) (l0 : List Int) (at_ v kk x : Int) (a : Nat) (w : World) (hb0 : Bytes l0) (hs0 : Sl w .u8 A0 l0) (hnil0 : A0 = none → c0 = 0) (hm : l0.length ≤ 10000) (hm8 : 8 ≤ l0.length) (ek : (IntKind.u64.wrap kk).tmod 4 = 1)
    (ha : (a : Int) < (l0.length : Int) - 2 + 1) (ea : (IntKind.u64.wrap at_).tmod ((l0.length : Int) - 2 + 1) = a) (ex : v.tmod 65536 = x) (x0 : 0 ≤ x) (x1 : x < 2 ^ (8 * 2)) :
    Calls Try.prog 5 #[.slice A0 l0.length c0, .int .i64 at_, .int .u64 v, .int .i64 kk] w fun e w' => e = .returned (.bool true) ∧ Below w.heap.size w w' := by
  have hb := Lib.hid hb0
  have hs := Lib.hid hs0
  have hnil := Lib.hid hnil0
  obtain ⟨X, eP, lX0, bX0, eG, same0⟩ := back_pure l0 a 2 x hb0 (by decide) (by omega) x0 x1
  have x2 : x < 18446744073709551616 := Int.lt_of_lt_of_le x1 (by decide)
  have hlX := Lib.hid lX0
  have hbX := Lib.hid bX0
  have same := Lib.hid same0
  have c1 : Hid (∀ A c base W, Own W base 5 .u8 (.slice A l0.length c) l0 → Calls Try.prog 9 #[.slice A l0.length c, .int .i64 a, .int .i64 2, .int .u64 x] W (Wr W base A l0.length c X 0)) := fun A c base W ho => by
    have := put_own A c base l0 a 2 x W ho (by omega) (by omega) x0 x2
    rw [show putC l0 (a : Int) 2 x = (X, 0) from eP] at this
    exact this
  have c3 : Hid (∀ A c base W, Own W base 5 .u8 (.slice A l0.length c) X → Calls Try.prog 11 #[.slice A l0.length c, .int .i64 a, .int .i64 2] W fun e w' => e = .returned (.tuple #[.int .u64 x, .int .i64 0]) ∧ W = w') := fun A c base W h => by
    have lx := hlX.out
    have hc := Own.room h
    have := get_calls A X c a 2 W h.sl hbX.out hc.1 hc.2 (by omega)
    rw [show getC X (a : Int) 2 = (x, 0) from eG, lx] at this
    exact this
  have room : Hid (a + 2 ≤ l0.length) := (by omega : a + 2 ≤ l0.length)
  have r2 : (a : Int) + 2 ≤ l0.length := by omega
  clear hb0 hs0 hnil0 lX0 bX0 same0 eP eG x1
  go_enter Try.func5, Try.ntmps5
  go_wp2_with (first | (go_at_call 17; refine (works_calls _).mono ?_; rintro e w1 ⟨rfl, hbb⟩; have B1 := Lib.hid hbb; have S1 : Hid (Sl w1 .u8 A0 l0) := hs.out.chg (Chg.of_below (S := fun _ => False) hbb) (fun _ _ h => h); clear hbb) | (at_builtin; refine wpList_app rfl _ _ 22 rfl w1.heap.size 5 .u8 1 Try.underlying22 infoByte _ [] rfl (Own.lit w1 5 .u8 [] (Nat.zero_le _)) A0 _ c0 l0 rfl rfl (S1.out.later (Chg.alloc _ w1 _) (Nat.le_refl _)) hnil.out ?h63 ?hby ?hba ?_; (case h63 => unfold maxLen; simp; omega); (case hby => simp; omega); (case hba => simp); intro A' c' n' w3 hn' hown hchg; obtain rfl : n' = l0.length := (by simpa using hn'); have O3 : Hid (Own w3 w1.heap.size 5 .u8 (.slice A' l0.length c') l0) := hown; have C3 : Hid (Chg (fun b => w1.heap.size ≤ b) w1 w3) := (Chg.alloc _ w1 _).trans hchg; clear hn' hown hchg))
  refine (c1.out A' c' w1.heap.size w3 O3.out).mono ?_
  rintro e w4 ⟨rfl, ho4, hc4⟩
  have O4 := Lib.hid ho4
  have C4 : Hid (Chg (fun b => w1.heap.size ≤ b) w1 w4) := C3.out.trans hc4
  have S4 : Hid (Sl w4 .u8 A0 l0) := S1.out.later C4.out (Nat.le_refl _)
  obtain ⟨g, cs, eA', gb, gh, gl, g1, g2, g3, gc⟩ := ho4.blk (by rw [hlX.out]; omega)
  subst eA'
  obtain ⟨ad, eA0, _⟩ := S4.out 0 (by omega)
  subst eA0
  have cx : Hid (∀ k, k < l0.length → w4.cell? ⟨g, k, none⟩ = some (.int .u8 (X.getD k 0))) := fun k hk => by
    rw [blk_cell gh, List.getElem?_toArray]
    exact gc k (by rw [hlX.out]; exact hk)
  have cl : Hid (∀ k, k < l0.length → w4.cell? (ad.add k) = some (.int .u8 (l0.getD k 0))) := fun k hk => by
    obtain ⟨ad', e, c⟩ := S4.out k hk
    injection e with e
    subst e
    exact c
  have EB : Hid (Below w.heap.size w w4) := B1.out.trans ((C4.out.below (Nat.le_refl _) fun b h => h).mono B1.out.size)
  clear ho4 hc4 gb gh gl g1 g2 g3 gc C3 hs S1 S4 c1 B1
  go_wp2_with (go_at_call 11; refine (c3.out _ c' w1.heap.size w4 O4.out).mono ?_; rintro e w' ⟨rfl, rfl⟩)
  go_loopw [14] (fun i wr => ∃ k : Nat, k ≤ l0.length ∧ i = .int .i64 k ∧ Hid (Dr w4 wr)) (fun i _ => l0.length - (intOf i).toNat)
  case atStart => exact ⟨0, Nat.zero_le _, rfl, Dr.refl _⟩
  case round =>
    obtain ⟨k, hk, rfl, DD⟩ := hrel
    by_cases hlt : k < l0.length
    · have hkl : (k : Int) < l0.length := by omega
      by_cases h1 : k < a
      · obtain ⟨z, ez⟩ : ∃ z, l0.getD k 0 = z := ⟨_, rfl⟩
        have k1 := (DD.out.chg fun _ => False).cell (cx.out k hlt) id
        have k2 := (DD.out.chg fun _ => False).cell (cl.out k hlt) id
        rw [same.out k hlt (Or.inl (by omega)), ez] at k1
        rw [ez] at k2
        clear ez
        go_wp2_with fail
        go_quiet (fail)
        go_wp2
        go_round
        case rel => exact ⟨k + 1, hlt, by go_num, DD.out.step _⟩
        case measure => simp [intOf]; omega
      · have d1 : decide (k < a) = false := by simpa using h1
        have su : IntKind.i64.wrap ((a : Int) + 2) = a + 2 := IntWalk.i64_in _ (by omega)
        by_cases h2 : (a : Int) + 2 ≤ k
        · obtain ⟨z, ez⟩ : ∃ z, l0.getD k 0 = z := ⟨_, rfl⟩
          have k1 := (DD.out.chg fun _ => False).cell (cx.out k hlt) id
          have k2 := (DD.out.chg fun _ => False).cell (cl.out k hlt) id
          rw [same.out k hlt (Or.inr (by omega)), ez] at k1
          rw [ez] at k2
          clear ez
          go_wp2_with fail
          go_quiet (fail)
          go_wp2
          go_round
          case rel => exact ⟨k + 1, hlt, by go_num, DD.out.step _⟩
          case measure => simp [intOf]; omega
        · have d2 : decide ((a : Int) + 2 ≤ k) = false := by simpa using h2
          go_wp2_with fail
          go_quiet (fail)
          go_wp2
          go_round
          case rel => exact ⟨k + 1, hlt, by go_num, DD.out.step _⟩
          case measure => simp [intOf]; omega
    · obtain rfl : k = l0.length := by omega
      go_wp2
      go_ret
      exact ⟨rfl, EB.out.trans ((DD.out.chg fun _ => False).below EB.out.size fun _ h => h.elim)⟩

set_option maxHeartbeats 2000000 in
theorem back_2 (A0 : Option Addr) (c0 : Nat) (l0 : List Int) (at_ v kk x : Int) (a : Nat) (w : World) (hb0 : Bytes l0) (hs0 : Sl w .u8 A0 l0) (hnil0 : A0 = none → c0 = 0) (hm : l0.length ≤ 10000) (hm8 : 8 ≤ l0.length) (ek : (IntKind.u64.wrap kk).tmod 4 = 2)
    (ha : (a : Int) < (l0.length : Int) - 4 + 1) (ea : (IntKind.u64.wrap at_).tmod ((l0.length : Int) - 4 + 1) = a) (ex : v.tmod 4294967296 = x) (x0 : 0 ≤ x) (x1 : x < 2 ^ (8 * 4)) :
    Calls Try.prog 5 #[.slice A0 l0.length c0, .int .i64 at_, .int .u64 v, .int .i64 kk] w fun e w' => e = .returned (.bool true) ∧ Below w.heap.size w w' := by
  have hb := Lib.hid hb0
  have hs := Lib.hid hs0
  have hnil := Lib.hid hnil0
  obtain ⟨X, eP, lX0, bX0, eG, same0⟩ := back_pure l0 a 4 x hb0 (by decide) (by omega) x0 x1
  have x2 : x < 18446744073709551616 := Int.lt_of_lt_of_le x1 (by decide)
  have hlX := Lib.hid lX0
  have hbX := Lib.hid bX0
  have same := Lib.hid same0
  have c1 : Hid (∀ A c base W, Own W base 5 .u8 (.slice A l0.length c) l0 → Calls Try.prog 9 #[.slice A l0.length c, .int .i64 a, .int .i64 4, .int .u64 x] W (Wr W base A l0.length c X 0)) := fun A c base W ho => by
    have := put_own A c base l0 a 4 x W ho (by omega) (by omega) x0 x2
    rw [show putC l0 (a : Int) 4 x = (X, 0) from eP] at this
    exact this
  have c3 : Hid (∀ A c base W, Own W base 5 .u8 (.slice A l0.length c) X → Calls Try.prog 11 #[.slice A l0.length c, .int .i64 a, .int .i64 4] W fun e w' => e = .returned (.tuple #[.int .u64 x, .int .i64 0]) ∧ W = w') := fun A c base W h => by
    have lx := hlX.out
    have hc := Own.room h
    have := get_calls A X c a 4 W h.sl hbX.out hc.1 hc.2 (by omega)
    rw [show getC X (a : Int) 4 = (x, 0) from eG, lx] at this
    exact this
  have room : Hid (a + 4 ≤ l0.length) := (by omega : a + 4 ≤ l0.length)
  have r2 : (a : Int) + 4 ≤ l0.length := by omega
  clear hb0 hs0 hnil0 lX0 bX0 same0 eP eG x1
  go_enter Try.func5, Try.ntmps5
  go_wp2_with (first | (go_at_call 17; refine (works_calls _).mono ?_; rintro e w1 ⟨rfl, hbb⟩; have B1 := Lib.hid hbb; have S1 : Hid (Sl w1 .u8 A0 l0) := hs.out.chg (Chg.of_below (S := fun _ => False) hbb) (fun _ _ h => h); clear hbb) | (at_builtin; refine wpList_app rfl _ _ 22 rfl w1.heap.size 5 .u8 1 Try.underlying22 infoByte _ [] rfl (Own.lit w1 5 .u8 [] (Nat.zero_le _)) A0 _ c0 l0 rfl rfl (S1.out.later (Chg.alloc _ w1 _) (Nat.le_refl _)) hnil.out ?h63 ?hby ?hba ?_; (case h63 => unfold maxLen; simp; omega); (case hby => simp; omega); (case hba => simp); intro A' c' n' w3 hn' hown hchg; obtain rfl : n' = l0.length := (by simpa using hn'); have O3 : Hid (Own w3 w1.heap.size 5 .u8 (.slice A' l0.length c') l0) := hown; have C3 : Hid (Chg (fun b => w1.heap.size ≤ b) w1 w3) := (Chg.alloc _ w1 _).trans hchg; clear hn' hown hchg))
  refine (c1.out A' c' w1.heap.size w3 O3.out).mono ?_
  rintro e w4 ⟨rfl, ho4, hc4⟩
  have O4 := Lib.hid ho4
  have C4 : Hid (Chg (fun b => w1.heap.size ≤ b) w1 w4) := C3.out.trans hc4
  have S4 : Hid (Sl w4 .u8 A0 l0) := S1.out.later C4.out (Nat.le_refl _)
  obtain ⟨g, cs, eA', gb, gh, gl, g1, g2, g3, gc⟩ := ho4.blk (by rw [hlX.out]; omega)
  subst eA'
  obtain ⟨ad, eA0, _⟩ := S4.out 0 (by omega)
  subst eA0
  have cx : Hid (∀ k, k < l0.length → w4.cell? ⟨g, k, none⟩ = some (.int .u8 (X.getD k 0))) := fun k hk => by
    rw [blk_cell gh, List.getElem?_toArray]
    exact gc k (by rw [hlX.out]; exact hk)
  have cl : Hid (∀ k, k < l0.length → w4.cell? (ad.add k) = some (.int .u8 (l0.getD k 0))) := fun k hk => by
    obtain ⟨ad', e, c⟩ := S4.out k hk
    injection e with e
    subst e
    exact c
  have EB : Hid (Below w.heap.size w w4) := B1.out.trans ((C4.out.below (Nat.le_refl _) fun b h => h).mono B1.out.size)
  clear ho4 hc4 gb gh gl g1 g2 g3 gc C3 hs S1 S4 c1 B1
  go_wp2_with (go_at_call 11; refine (c3.out _ c' w1.heap.size w4 O4.out).mono ?_; rintro e w' ⟨rfl, rfl⟩)
  go_loopw [14] (fun i wr => ∃ k : Nat, k ≤ l0.length ∧ i = .int .i64 k ∧ Hid (Dr w4 wr)) (fun i _ => l0.length - (intOf i).toNat)
  case atStart => exact ⟨0, Nat.zero_le _, rfl, Dr.refl _⟩
  case round =>
    obtain ⟨k, hk, rfl, DD⟩ := hrel
    by_cases hlt : k < l0.length
    · have hkl : (k : Int) < l0.length := by omega
      by_cases h1 : k < a
      · obtain ⟨z, ez⟩ : ∃ z, l0.getD k 0 = z := ⟨_, rfl⟩
        have k1 := (DD.out.chg fun _ => False).cell (cx.out k hlt) id
        have k2 := (DD.out.chg fun _ => False).cell (cl.out k hlt) id
        rw [same.out k hlt (Or.inl (by omega)), ez] at k1
        rw [ez] at k2
        clear ez
        go_wp2_with fail
        go_quiet (fail)
        go_wp2
        go_round
        case rel => exact ⟨k + 1, hlt, by go_num, DD.out.step _⟩
        case measure => simp [intOf]; omega
      · have d1 : decide (k < a) = false := by simpa using h1
        have su : IntKind.i64.wrap ((a : Int) + 4) = a + 4 := IntWalk.i64_in _ (by omega)
        by_cases h2 : (a : Int) + 4 ≤ k
        · obtain ⟨z, ez⟩ : ∃ z, l0.getD k 0 = z := ⟨_, rfl⟩
          have k1 := (DD.out.chg fun _ => False).cell (cx.out k hlt) id
          have k2 := (DD.out.chg fun _ => False).cell (cl.out k hlt) id
          rw [same.out k hlt (Or.inr (by omega)), ez] at k1
          rw [ez] at k2
          clear ez
          go_wp2_with fail
          go_quiet (fail)
          go_wp2
          go_round
          case rel => exact ⟨k + 1, hlt, by go_num, DD.out.step _⟩
          case measure => simp [intOf]; omega
        · have d2 : decide ((a : Int) + 4 ≤ k) = false := by simpa using h2
          go_wp2_with fail
          go_quiet (fail)
          go_wp2
          go_round
          case rel => exact ⟨k + 1, hlt, by go_num, DD.out.step _⟩
          case measure => simp [intOf]; omega
    · obtain rfl : k = l0.length := by omega
      go_wp2
      go_ret
      exact ⟨rfl, EB.out.trans ((DD.out.chg fun _ => False).below EB.out.size fun _ h => h.elim)⟩

set_option maxHeartbeats 2000000 in
theorem back_3 (A0 : Option Addr) (c0 : Nat) (l0 : List Int) (at_ v kk x : Int) (a : Nat) (w : World) (hb0 : Bytes l0) (hs0 : Sl w .u8 A0 l0) (hnil0 : A0 = none → c0 = 0) (hm : l0.length ≤ 10000) (hm8 : 8 ≤ l0.length) (ek : (IntKind.u64.wrap kk).tmod 4 = 3)
    (ha : (a : Int) < (l0.length : Int) - 8 + 1) (ea : (IntKind.u64.wrap at_).tmod ((l0.length : Int) - 8 + 1) = a) (x0 : 0 ≤ x) (x1 : x < 2 ^ (8 * 8)) :
    Calls Try.prog 5 #[.slice A0 l0.length c0, .int .i64 at_, .int .u64 x, .int .i64 kk] w fun e w' => e = .returned (.bool true) ∧ Below w.heap.size w w' := by
  have hb := Lib.hid hb0
  have hs := Lib.hid hs0
  have hnil := Lib.hid hnil0
  obtain ⟨X, eP, lX0, bX0, eG, same0⟩ := back_pure l0 a 8 x hb0 (by decide) (by omega) x0 x1
  have x2 : x < 18446744073709551616 := Int.lt_of_lt_of_le x1 (by decide)
  have hlX := Lib.hid lX0
  have hbX := Lib.hid bX0
  have same := Lib.hid same0
  have c1 : Hid (∀ A c base W, Own W base 5 .u8 (.slice A l0.length c) l0 → Calls Try.prog 9 #[.slice A l0.length c, .int .i64 a, .int .i64 8, .int .u64 x] W (Wr W base A l0.length c X 0)) := fun A c base W ho => by
    have := put_own A c base l0 a 8 x W ho (by omega) (by omega) x0 x2
    rw [show putC l0 (a : Int) 8 x = (X, 0) from eP] at this
    exact this
  have c3 : Hid (∀ A c base W, Own W base 5 .u8 (.slice A l0.length c) X → Calls Try.prog 11 #[.slice A l0.length c, .int .i64 a, .int .i64 8] W fun e w' => e = .returned (.tuple #[.int .u64 x, .int .i64 0]) ∧ W = w') := fun A c base W h => by
    have lx := hlX.out
    have hc := Own.room h
    have := get_calls A X c a 8 W h.sl hbX.out hc.1 hc.2 (by omega)
    rw [show getC X (a : Int) 8 = (x, 0) from eG, lx] at this
    exact this
  have room : Hid (a + 8 ≤ l0.length) := (by omega : a + 8 ≤ l0.length)
  have r2 : (a : Int) + 8 ≤ l0.length := by omega
  clear hb0 hs0 hnil0 lX0 bX0 same0 eP eG x1
  go_enter Try.func5, Try.ntmps5
  go_wp2_with (first | (go_at_call 17; refine (works_calls _).mono ?_; rintro e w1 ⟨rfl, hbb⟩; have B1 := Lib.hid hbb; have S1 : Hid (Sl w1 .u8 A0 l0) := hs.out.chg (Chg.of_below (S := fun _ => False) hbb) (fun _ _ h => h); clear hbb) | (at_builtin; refine wpList_app rfl _ _ 22 rfl w1.heap.size 5 .u8 1 Try.underlying22 infoByte _ [] rfl (Own.lit w1 5 .u8 [] (Nat.zero_le _)) A0 _ c0 l0 rfl rfl (S1.out.later (Chg.alloc _ w1 _) (Nat.le_refl _)) hnil.out ?h63 ?hby ?hba ?_; (case h63 => unfold maxLen; simp; omega); (case hby => simp; omega); (case hba => simp); intro A' c' n' w3 hn' hown hchg; obtain rfl : n' = l0.length := (by simpa using hn'); have O3 : Hid (Own w3 w1.heap.size 5 .u8 (.slice A' l0.length c') l0) := hown; have C3 : Hid (Chg (fun b => w1.heap.size ≤ b) w1 w3) := (Chg.alloc _ w1 _).trans hchg; clear hn' hown hchg))
  refine (c1.out A' c' w1.heap.size w3 O3.out).mono ?_
  rintro e w4 ⟨rfl, ho4, hc4⟩
  have O4 := Lib.hid ho4
  have C4 : Hid (Chg (fun b => w1.heap.size ≤ b) w1 w4) := C3.out.trans hc4
  have S4 : Hid (Sl w4 .u8 A0 l0) := S1.out.later C4.out (Nat.le_refl _)
  obtain ⟨g, cs, eA', gb, gh, gl, g1, g2, g3, gc⟩ := ho4.blk (by rw [hlX.out]; omega)
  subst eA'
  obtain ⟨ad, eA0, _⟩ := S4.out 0 (by omega)
  subst eA0
  have cx : Hid (∀ k, k < l0.length → w4.cell? ⟨g, k, none⟩ = some (.int .u8 (X.getD k 0))) := fun k hk => by
    rw [blk_cell gh, List.getElem?_toArray]
    exact gc k (by rw [hlX.out]; exact hk)
  have cl : Hid (∀ k, k < l0.length → w4.cell? (ad.add k) = some (.int .u8 (l0.getD k 0))) := fun k hk => by
    obtain ⟨ad', e, c⟩ := S4.out k hk
    injection e with e
    subst e
    exact c
  have EB : Hid (Below w.heap.size w w4) := B1.out.trans ((C4.out.below (Nat.le_refl _) fun b h => h).mono B1.out.size)
  clear ho4 hc4 gb gh gl g1 g2 g3 gc C3 hs S1 S4 c1 B1
  go_wp2_with (go_at_call 11; refine (c3.out _ c' w1.heap.size w4 O4.out).mono ?_; rintro e w' ⟨rfl, rfl⟩)
  go_loopw [14] (fun i wr => ∃ k : Nat, k ≤ l0.length ∧ i = .int .i64 k ∧ Hid (Dr w4 wr)) (fun i _ => l0.length - (intOf i).toNat)
  case atStart => exact ⟨0, Nat.zero_le _, rfl, Dr.refl _⟩
  case round =>
    obtain ⟨k, hk, rfl, DD⟩ := hrel
    by_cases hlt : k < l0.length
    · have hkl : (k : Int) < l0.length := by omega
      by_cases h1 : k < a
      · obtain ⟨z, ez⟩ : ∃ z, l0.getD k 0 = z := ⟨_, rfl⟩
        have k1 := (DD.out.chg fun _ => False).cell (cx.out k hlt) id
        have k2 := (DD.out.chg fun _ => False).cell (cl.out k hlt) id
        rw [same.out k hlt (Or.inl (by omega)), ez] at k1
        rw [ez] at k2
        clear ez
        go_wp2_with fail
        go_quiet (fail)
        go_wp2
        go_round
        case rel => exact ⟨k + 1, hlt, by go_num, DD.out.step _⟩
        case measure => simp [intOf]; omega
      · have d1 : decide (k < a) = false := by simpa using h1
        have su : IntKind.i64.wrap ((a : Int) + 8) = a + 8 := IntWalk.i64_in _ (by omega)
        by_cases h2 : (a : Int) + 8 ≤ k
        · obtain ⟨z, ez⟩ : ∃ z, l0.getD k 0 = z := ⟨_, rfl⟩
          have k1 := (DD.out.chg fun _ => False).cell (cx.out k hlt) id
          have k2 := (DD.out.chg fun _ => False).cell (cl.out k hlt) id
          rw [same.out k hlt (Or.inr (by omega)), ez] at k1
          rw [ez] at k2
          clear ez
          go_wp2_with fail
          go_quiet (fail)
          go_wp2
          go_round
          case rel => exact ⟨k + 1, hlt, by go_num, DD.out.step _⟩
          case measure => simp [intOf]; omega
        · have d2 : decide ((a : Int) + 8 ≤ k) = false := by simpa using h2
          go_wp2_with fail
          go_quiet (fail)
          go_wp2
          go_round
          case rel => exact ⟨k + 1, hlt, by go_num, DD.out.step _⟩
          case measure => simp [intOf]; omega
    · obtain rfl : k = l0.length := by omega
      go_wp2
      go_ret
      exact ⟨rfl, EB.out.trans ((DD.out.chg fun _ => False).below EB.out.size fun _ h => h.elim)⟩

theorem back_walk (A0 : Option Addr) (c0 : Nat) (l0 : List Int) (at_ v kk : Int) (w : World) (h0 : RowOf w .u8 A0 c0 l0 1) (w1 : (Lit.int .i64 at_).wf = true) (w2 : (Lit.int .u64 v).wf = true) (w3 : (Lit.int .i64 kk).wf = true) :
    Calls Try.prog 5 #[.slice A0 l0.length c0, .int .i64 at_, .int .u64 v, .int .i64 kk] w fun e w' => e = .returned (.bool true) ∧ Below w.heap.size w w' := by
  by_cases hl : l0.length > 10000 ∨ l0.length < 8
  · clear h0 w1 w2 w3
    rcases hl with hl | hl
    · have hl' : ¬ l0.length < 8 := by omega
      go_enter Try.func5, Try.ntmps5
      go_wp2_with (go_at_call 17; refine (works_calls _).mono ?_; rintro e w1 ⟨rfl, hbb⟩; have B1 := Lib.hid hbb; clear hbb)
      go_ret
      exact ⟨rfl, B1.out⟩
    · go_enter Try.func5, Try.ntmps5
      go_wp2_with (go_at_call 17; refine (works_calls _).mono ?_; rintro e w1 ⟨rfl, hbb⟩; have B1 := Lib.hid hbb; clear hbb)
      go_ret
      exact ⟨rfl, B1.out⟩
  · have hv := bounds_u64 w2
    have hb := bytes_of_row h0
    have hnil : A0 = none → c0 = 0 := fun e => (h0.nil e).2
    rcases four_of kk with ek | ek | ek | ek
    · obtain ⟨a, ha, ea⟩ := place_of at_ (l0.length : Int) (by omega)
      obtain ⟨x, x0, x1, ex⟩ := less_of v 256 hv.1 (by decide)
      exact back_0 A0 c0 l0 at_ v kk x a w hb h0.sl hnil (by omega) (by omega) ek (by omega) ea ex x0 x1
    · obtain ⟨a, ha, ea⟩ := place_of at_ ((l0.length : Int) - 2 + 1) (by omega)
      obtain ⟨x, x0, x1, ex⟩ := less_of v 65536 hv.1 (by decide)
      exact back_1 A0 c0 l0 at_ v kk x a w hb h0.sl hnil (by omega) (by omega) ek (by omega) ea ex x0 x1
    · obtain ⟨a, ha, ea⟩ := place_of at_ ((l0.length : Int) - 4 + 1) (by omega)
      obtain ⟨x, x0, x1, ex⟩ := less_of v 4294967296 hv.1 (by decide)
      exact back_2 A0 c0 l0 at_ v kk x a w hb h0.sl hnil (by omega) (by omega) ek (by omega) ea ex x0 x1
    · obtain ⟨a, ha, ea⟩ := place_of at_ ((l0.length : Int) - 8 + 1) (by omega)
      exact back_3 A0 c0 l0 at_ v kk v a w hb h0.sl hnil (by omega) (by omega) ek ha ea hv.1 (show v < 18446744073709551616 by omega)

end Go.Proofs.Ytfempngnapkhjaa.Codec
