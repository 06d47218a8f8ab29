/- The walk of the law ItemNext: it returns true at any numbers. -/
import Derived.Test.YtolpjgpimholcaaItemWorks
namespace Go.Proofs.Ytolpjgpimholcaa.Item
open Go Go.RowKit Go.Proofs.Ytolpjgpimholcaa.Mem Go.Proofs.Ytolpjgpimholcaa.CodecPure Go.Proofs.Ytolpjgpimholcaa.ArenaPure Go.Proofs.Ytolpjgpimholcaa.Codec Go.Proofs.Ytolpjgpimholcaa.Arena Go.Proofs.Ytolpjgpimholcaa.NeedPure Go.Proofs.Ytolpjgpimholcaa.Need
set_option linter.unusedVariables false
set_option maxRecDepth 100000
/-- what a table of two sizes answers -/
theorem need_two {L k v : Int} (hL : 256 ≤ L ∧ L ≤ 1024) (hk : 1 ≤ k ∧ k ≤ 32) (hv : 0 ≤ v ∧ v ≤ 2000) :
    (40 + k + v ≤ 64 ∧ needC [64, L] k v = (0, 0, 0)) ∨ (64 < 40 + k + v ∧ 40 + k + v ≤ L ∧ needC [64, L] k v = (1, 0, 0)) ∨
      (64 < 40 + k + v ∧ L < 40 + k + v ∧ ∃ m : Nat, needC [64, L] k v = (1, (m : Int), 0) ∧ 1 ≤ m ∧ m ≤ 8 ∧ 40 + k + v ≤ L + m * (L - 4) ∧ L + (m - 1) * (L - 4) < 40 + k + v) := by
  have hlast : last [64, L] = L := rfl
  unfold needC
  rw [if_neg (by omega), if_neg (by rw [hlast]; simp; omega), hlast]
  by_cases h1 : 40 + k + v ≤ 64
  · have e : forC [64, L] (40 + k + v) = (((0 : Nat) : Int), 0) := forC_some _ _ (by omega) 0 (by simp) (fun j hj => by omega) (by show (64 : Int) ≥ _; omega)
    rw [e]
    exact .inl ⟨h1, rfl⟩
  · by_cases h2 : 40 + k + v ≤ L
    · have e : forC [64, L] (40 + k + v) = (((1 : Nat) : Int), 0) := forC_some _ _ (by omega) 1 (by simp) (fun j hj => by
        have : j = 0 := by omega
        subst this
        show (64 : Int) < _; omega) (by show L ≥ _; omega)
      rw [e]
      exact .inr (.inl ⟨by omega, h2, rfl⟩)
    · have e : forC [64, L] (40 + k + v) = (0, 7) := forC_none _ _ (by omega) fun j hj => by
        have : j = 0 ∨ j = 1 := by simp at hj; omega
        rcases this with rfl | rfl
        · show (64 : Int) < _; omega
        · show L < _; omega
      rw [e, if_neg (by decide)]
      refine .inr (.inr ⟨by omega, by omega, ((40 + k + v - L + (L - 4) - 1) / (L - 4)).toNat, ?_⟩)
      have q0 : 0 ≤ (40 + k + v - L + (L - 4) - 1) / (L - 4) := Int.ediv_nonneg (by omega) (by omega)
      have q1 := Int.mul_ediv_add_emod (40 + k + v - L + (L - 4) - 1) (L - 4)
      have q2 := Int.emod_nonneg (40 + k + v - L + (L - 4) - 1) (b := L - 4) (by omega)
      have q3 := Int.emod_lt_of_pos (40 + k + v - L + (L - 4) - 1) (b := L - 4) (by omega)
      obtain ⟨m, hm⟩ := Int.eq_ofNat_of_zero_le q0
      rw [hm] at q1 ⊢
      have em : ((m : Int)).toNat = m := by omega
      rw [em]
      have q4 : (L - 4) * (m : Int) = m * (L - 4) := Int.mul_comm _ _
      have q5 : ((m : Int) - 1) * (L - 4) = m * (L - 4) - (L - 4) := by rw [Int.sub_mul, Int.one_mul]
      rw [q5]
      have m8 : m ≤ 8 := by
        rcases Nat.lt_or_ge 8 m with h | h
        · have : 9 * (L - 4) ≤ (m : Int) * (L - 4) := Int.mul_le_mul_of_nonneg_right (by omega) (by omega)
          omega
        · exact h
      refine ⟨rfl, ?_, m8, by omega, by omega⟩
      rcases Nat.eq_zero_or_pos m with h | h
      · subst h; simp at q1; omega
      · exact h
theorem two_range {L : Int} (hL : 256 ≤ L ∧ L ≤ 1024) : ∀ x ∈ [64, L], -9223372036854775808 ≤ x ∧ x ≤ 9223372036854775807 := fun x hx => by
  simp only [List.mem_cons, List.not_mem_nil, or_false] at hx
  rcases hx with rfl | rfl <;> omega
set_option maxHeartbeats 1000000 in
theorem next_walk (key value last_ : Int) (w : World) (wf0 : (Lit.int .i64 key).wf = true) (wf1 : (Lit.int .i64 value).wf = true) (wf2 : (Lit.int .i64 last_).wf = true) :
    Calls Try.prog 5 #[(.int .i64 key), (.int .i64 value), (.int .i64 last_)] w fun e w' => e = .returned (.bool true) ∧ Below w.heap.size w w' := by
  clear wf0 wf1 wf2
  obtain ⟨k, hk, k1, k2⟩ := small key 32 (by decide)
  obtain ⟨v, hv, v1, v2⟩ := small value 2001 (by decide)
  obtain ⟨l, hl, l1, l2⟩ := small last_ 769 (by decide)
  replace k1 : (IntKind.u64.wrap key).tmod 32 = k := k1
  replace v1 : (IntKind.u64.wrap value).tmod 2001 = v := v1
  replace l1 : (IntKind.u64.wrap last_).tmod 769 = l := l1
  obtain ⟨kk, hkk⟩ : ∃ kk : Int, 1 + (k : Int) = kk := ⟨_, rfl⟩
  obtain ⟨L, hL⟩ : ∃ L : Int, 256 + (l : Int) = L := ⟨_, rfl⟩
  have kr : 1 ≤ kk ∧ kk ≤ 32 := by omega
  have vr : (0 : Int) ≤ v ∧ (v : Int) ≤ 2000 := by omega
  have Lr : 256 ≤ L ∧ L ≤ 1024 := by omega
  have N2 := need_two Lr kr vr
  obtain ⟨kr1, kr2⟩ := kr
  obtain ⟨Lr1, Lr2⟩ := Lr
  clear k2 v2 l2
  replace N2 := Lib.hid N2
  go_enter Try.func5, Try.ntmps5
  go_wp2_with fail
  refine (works_calls w).mono ?_
  rintro e w1 ⟨rfl, hc⟩
  have C1 := Lib.hid hc
  clear hc
  go_wp2_with fail
  have hlit := sl_lit w1 .i64 [64, L] 3 (0, 0)
  have NC := need_calls (some ⟨w1.heap.size, 0, none⟩) 2 [64, L] kk v _ hlit (by simp) (two_range ⟨Lr1, Lr2⟩)
  have C2 : Hid (Chg (fun _ => False) w (w1.alloc (.cells (nums .i64 [64, L]).toArray 3))) := C1.out.trans (Chg.alloc _ _ _)
  clear hlit C1 k1 v1 l1
  replace C2 : Hid (Chg (fun _ => False) w (w1.alloc (.cells #[(.int .i64 64), (.int .i64 L)] 3))) := C2
  replace NC := Lib.hid NC
  rcases N2.out with ⟨a1, e⟩ | ⟨a1, a2, e⟩ | ⟨a1, a2, m, e, m1, m8, a3, a4⟩
  · rw [e] at NC
    refine NC.out.mono ?_
    rintro e w2 ⟨rfl, hd⟩
    have F := Lib.hid ((C2.out.trans (hd.chg _)).below (B := w.heap.size) (Nat.le_refl _) fun _ h => h.elim)
    clear hd NC N2
    go_wp2_with fail
    go_ret
    exact ⟨rfl, F.out⟩
  · rw [e] at NC
    refine NC.out.mono ?_
    rintro e w2 ⟨rfl, hd⟩
    have F := Lib.hid ((C2.out.trans (hd.chg _)).below (B := w.heap.size) (Nat.le_refl _) fun _ h => h.elim)
    clear hd NC N2
    go_wp2_with fail
    go_ret
    exact ⟨rfl, F.out⟩
  · rw [e] at NC
    obtain ⟨X, hX⟩ : ∃ X, (m : Int) * (L - 4) = X := ⟨_, rfl⟩
    obtain ⟨Y, hY⟩ : ∃ Y, ((m : Int) - 1) * (L - 4) = Y := ⟨_, rfl⟩
    rw [hX] at a3
    rw [hY] at a4
    have xb : 0 ≤ X ∧ X ≤ 100000 := by
      have h1 : (m : Int) * (L - 4) ≤ 8 * (L - 4) := Int.mul_le_mul_of_nonneg_right (by omega) (by omega)
      have h2 : 0 ≤ (m : Int) * (L - 4) := Int.mul_nonneg (by omega) (by omega)
      omega
    have yb : 0 ≤ Y ∧ Y ≤ 100000 := by
      have h1 : ((m : Int) - 1) * (L - 4) ≤ 8 * (L - 4) := Int.mul_le_mul_of_nonneg_right (by omega) (by omega)
      have h2 : 0 ≤ ((m : Int) - 1) * (L - 4) := Int.mul_nonneg (by omega) (by omega)
      omega
    have mz : ((m : Int) == 0) = false := by rw [beq_eq_false_iff_ne]; omega
    obtain ⟨xb1, xb2⟩ := xb
    obtain ⟨yb1, yb2⟩ := yb
    refine NC.out.mono ?_
    rintro e w2 ⟨rfl, hd⟩
    have F := Lib.hid ((C2.out.trans (hd.chg _)).below (B := w.heap.size) (Nat.le_refl _) fun _ h => h.elim)
    clear hd NC N2
    go_wp2_with fail
    go_ret
    exact ⟨rfl, F.out⟩
end Go.Proofs.Ytolpjgpimholcaa.Item
