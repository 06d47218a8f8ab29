/- The walk of the law ArenaEnds: it returns true at any page and any number. -/
import Derived.Test.YtalcoodfoifmcaaArenaHere
import Derived.Test.YtalcoodfoifmcaaRefArena3
namespace Go.Proofs.Ytalcoodfoifmcaa.Arena
open Go Go.RowKit Go.Proofs.Ytalcoodfoifmcaa.Mem Go.Proofs.Ytalcoodfoifmcaa.CodecPure Go.Proofs.Ytalcoodfoifmcaa.ArenaPure Go.Proofs.Ytalcoodfoifmcaa.Codec
set_option linter.unusedVariables false
def E (k : Nat) : St := match k with
  | 0 => new 4
  | k + 1 => (grant (E k) (k : Int)).1
theorem E3_own : (E 3).own = [0, 1, 2, -1] := by decide +kernel
/-- a number made small by a uint64's rest -/
theorem small (x : Int) (m : Nat) (h0 : 0 < m) : ∃ p : Nat, p < m ∧ (IntKind.u64.wrap x).tmod m = p ∧ IntKind.u64.wrap x % m = p := by
  have h := Int.emod_nonneg (IntKind.u64.wrap x) (show (m : Int) ≠ 0 by omega)
  have h2 := Int.emod_lt_of_pos (IntKind.u64.wrap x) (show (0 : Int) < m by omega)
  obtain ⟨p, e⟩ := Int.eq_ofNat_of_zero_le h
  have u : 0 ≤ IntKind.u64.wrap x := by rw [u64_wrap]; omega
  exact ⟨p, by omega, by rw [Int.tmod_eq_emod_of_nonneg u]; exact e, e⟩
theorem E_within (p m : Nat) (x : Int) (hp : p < 3) (h1 : 1 ≤ m) (h2 : m ≤ 1024) : within (E 3) (1024 * ((p : Int) + 1) - m) x ↔ 0 ≤ x ∧ x ≤ m := by
  unfold within
  rw [E3_own]
  have e1 : (((1024 : Int) * ((p : Int) + 1) - m) / 1024).toNat = p := by omega
  have e2 : ((1024 : Int) * ((p : Int) + 1) - m) % 1024 = 1024 - m := by omega
  rw [e1, e2]
  have hg : 0 ≤ ([0, 1, 2, -1] : List Int).getD p 0 := by
    rcases p with _ | _ | _ | p
    · decide
    · decide
    · decide
    · omega
  simp only [List.length_cons, List.length_nil]
  omega
theorem bytes_zeros (n : Nat) : Bytes (List.replicate n 0) := fun x hx => by rw [List.eq_of_mem_replicate hx]; decide
set_option maxHeartbeats 1000000 in
set_option maxRecDepth 100000 in
theorem ends_walk (page n : Int) (w : World) (w1 : (Lit.int .i64 page).wf = true) (w2 : (Lit.int .i64 n).wf = true) :
    Calls Try.prog 5 #[(.int .i64 page), (.int .i64 n)] w fun e w' => e = .returned (.bool true) ∧ Below w.heap.size w w' := by
  clear w1 w2
  obtain ⟨p, hp, p1, p2⟩ := small page 3 (by decide)
  obtain ⟨m0, hm, m1, m2⟩ := small n 1024 (by decide)
  replace p1 : (IntKind.u64.wrap page).tmod 3 = p := p1
  replace p2 : IntKind.u64.wrap page % 3 = p := p2
  replace m1 : (IntKind.u64.wrap n).tmod 1024 = m0 := m1
  replace m2 : IntKind.u64.wrap n % 1024 = m0 := m2
  obtain ⟨m, em⟩ : ∃ m, m0 + 1 = m := ⟨_, rfl⟩
  have IW := Lib.hid (E_within p m)
  have q1 : ((1 : Int) + m0) = m := by omega
  have NW : Hid (∀ x, within (E 3) 3072 x → False) := fun x h => by
    unfold within at h
    rw [E3_own] at h
    have := h.2.2.2.1
    simp at this
  go_enter Try.func5, Try.ntmps5
  go_wp2_with fail
  refine (works_calls w).mono ?_
  rintro e wa ⟨rfl, hb⟩
  have CA : Hid (Chg (fun b => w.heap.size ≤ b) w wa) := (Chg.of_below hb)
  have BA : w.heap.size ≤ wa.heap.size := hb.size
  clear hb
  go_wp2_with fail
  refine (Here.new wa 4 (by decide) (by decide)).mono ?_
  rintro e wb ⟨a, rfl, h⟩
  have H0 := Lib.hid h
  clear h
  go_wp2
  go_loopw [7] (fun i wr => ∃ k : Nat, k ≤ 3 ∧ i = .int .i64 k ∧ Hid (Here wa.heap.size wa wr a (E k))) (fun i _ => 3 - (intOf i).toNat)
  case atStart => exact ⟨0, by omega, rfl, H0.out⟩
  case round =>
    obtain ⟨k, hk, rfl, H1⟩ := hrel
    by_cases hlt : k < 3
    · have dK0 := H1.out.grant k
      have dK1 := Lib.hid dK0
      clear dK0
      go_wp2_with fail
      refine dK1.out.mono ?_
      rintro e wc ⟨rfl, hnew⟩
      have H2 := Lib.hid hnew
      clear hnew dK1
      go_wp2
      go_roundw
      case rel => exact ⟨k + 1, by omega, by go_num, H2.out⟩
      case measure => simp [intOf]; omega
    · obtain rfl : k = 3 := by omega
      have hw : within (E 3) (1024 * ((p : Int) + 1) - m) m := (IW.out m hp (by omega) (by omega)).2 ⟨by omega, by omega⟩
      have e1 : Hid (readA (E 3) (1024 * ((p : Int) + 1) - m) m = (got (E 3) (1024 * ((p : Int) + 1) - m) m, 0)) := if_pos hw
      have e2 : Hid (readA (E 3) (1024 * ((p : Int) + 1) - m) (m + 1) = ([], 1)) := if_neg fun h => by have := (IW.out _ hp (by omega) (by omega)).1 h; omega
      have e3 : Hid (readA (E 3) 3072 1 = ([], 1)) := if_neg (NW.out 1)
      have e4 : Hid (readA (E 3) (1024 * ((p : Int) + 1) - m) (-1) = ([], 1)) := if_neg fun h => by have := (IW.out _ hp (by omega) (by omega)).1 h; omega
      have e5 : Hid (write (E 3) (1024 * ((p : Int) + 1) - m) (List.replicate m 0) = (lay (E 3) (1024 * ((p : Int) + 1) - m) (List.replicate m 0), 0)) := if_pos (by rw [List.length_replicate]; exact hw)
      have o4 : (lay (E 3) (1024 * ((p : Int) + 1) - m) (List.replicate m 0)).own = [0, 1, 2, -1] := E3_own
      have e6 : Hid (write (lay (E 3) (1024 * ((p : Int) + 1) - m) (List.replicate m 0)) (1024 * ((p : Int) + 1) - m) (List.replicate (m + 1) 0) = (lay (E 3) (1024 * ((p : Int) + 1) - m) (List.replicate m 0), 1)) := if_neg fun h => by
        rw [List.length_replicate] at h
        have := (IW.out _ hp (by omega) (by omega)).1 h
        omega
      have e7 : Hid (write (lay (E 3) (1024 * ((p : Int) + 1) - m) (List.replicate m 0)) 3072 [] = (lay (E 3) (1024 * ((p : Int) + 1) - m) (List.replicate m 0), 1)) := if_neg fun h => NW.out _ h
      have l6 : Hid ((List.replicate m (0 : Int)).length = m) := List.length_replicate
      have l7 : Hid ((List.replicate (m + 1) (0 : Int)).length = m + 1) := List.length_replicate
      have mk := make_bytes m (by omega)
      have mk1 : ∀ W : World, (Instr.makeSlice 22 (.int .i64 ((m : Int) + 1)) (.int .i64 ((m : Int) + 1))).run Try.prog W = .ok (.slice (some ⟨W.heap.size, 0, none⟩) (m + 1) (m + 1)) (W.alloc (.cells (nums .u8 (List.replicate (m + 1) 0)).toArray 5)) := fun W => by
        have := make_bytes (m + 1) (by omega) W
        rw [show ((m + 1 : Nat) : Int) = (m : Int) + 1 by omega] at this
        exact this
      have b1 := Lib.hid (bytes_zeros m)
      have b2 := Lib.hid (bytes_zeros (m + 1))
      have bd : Hid (-9223372036854775808 ≤ (1024 * ((p : Int) + 1) - m) ∧ (1024 * ((p : Int) + 1) - m) ≤ 9223372036854775807) := by show _ ∧ _; omega
      clear hw o4
      generalize hS : lay (E 3) (1024 * ((p : Int) + 1) - m) (List.replicate m 0) = SL at e5 e6 e7
      clear hS
      have T1 : Hid (Chg (fun b => w.heap.size ≤ b) w wr) := CA.out.trans (H1.out.chg.mono fun i _ h => by omega)
      generalize hL : List.replicate m (0 : Int) = L at mk b1 e5 l6
      generalize hL2 : List.replicate (m + 1) (0 : Int) = L2 at mk1 b2 e6 l7
      clear hL hL2
      have mk2 := Lib.hid mk1
      clear mk1
      have dK0 := H1.out.read (1024 * ((p : Int) + 1) - m) m bd.out
      rw [e1.out] at dK0
      have dK1 := Lib.hid dK0
      clear dK0
      go_wp2_with fail
      refine dK1.out.mono ?_
      rintro e w1 ⟨A1, c1, rfl, o1, hnew⟩
      have H2 := Lib.hid hnew
      clear hnew dK1 o1
      have dK0 := H2.out.read (1024 * ((p : Int) + 1) - m) (m + 1) bd.out
      rw [e2.out] at dK0
      have dK1 := Lib.hid dK0
      clear dK0
      go_wp2_with fail
      refine dK1.out.mono ?_
      rintro e w2 ⟨A2, c2, rfl, o2, hnew⟩
      have H3 := Lib.hid hnew
      clear hnew dK1 o2
      have dK0 := H3.out.read 3072 1 (by decide)
      rw [e3.out] at dK0
      have dK1 := Lib.hid dK0
      clear dK0
      go_wp2_with fail
      refine dK1.out.mono ?_
      rintro e w3 ⟨A3, c3, rfl, o3, hnew⟩
      have H4 := Lib.hid hnew
      clear hnew dK1 o3
      have dK0 := H4.out.read (1024 * ((p : Int) + 1) - m) (-1) bd.out
      rw [e4.out] at dK0
      have dK1 := Lib.hid dK0
      clear dK0
      go_wp2_with fail
      refine dK1.out.mono ?_
      rintro e w4 ⟨A4, c4, rfl, o4, hnew⟩
      have H5 := Lib.hid hnew
      clear hnew dK1 o4
      have H6 := Lib.hid (H5.out.alloc (.cells (nums .u8 L).toArray 5))
      have dK0 := H6.out.write (1024 * ((p : Int) + 1) - m) (some ⟨w4.heap.size, 0, none⟩) m L (sl_lit w4 .u8 L _ _) b1.out (by have := l6.out; omega) bd.out
      rw [e5.out, l6.out] at dK0
      have dK1 := Lib.hid dK0
      clear dK0
      go_wp2_with fail
      refine dK1.out.mono ?_
      rintro e w5 ⟨rfl, hnew⟩
      have H7 := Lib.hid hnew
      clear hnew dK1
      have mk3 := mk2.out
      have H8 := Lib.hid (H7.out.alloc (.cells (nums .u8 L2).toArray 5))
      have dK0 := H8.out.write (1024 * ((p : Int) + 1) - m) (some ⟨w5.heap.size, 0, none⟩) (m + 1) L2 (sl_lit w5 .u8 L2 _ _) b2.out (by have := l7.out; omega) bd.out
      rw [e6.out, l7.out] at dK0
      have dK1 := Lib.hid dK0
      clear dK0
      go_wp2_with fail
      refine dK1.out.mono ?_
      rintro e w6 ⟨rfl, hnew⟩
      have H9 := Lib.hid hnew
      clear hnew dK1
      have dK0 := H9.out.write 3072 none 0 [] (Sl.nil _ _ _) (fun x hx => by simp at hx) (by decide) (by decide)
      rw [e7.out] at dK0
      have dK1 := Lib.hid dK0
      clear dK0
      go_wp2_with fail
      refine dK1.out.mono ?_
      rintro e w7 ⟨rfl, hnew⟩
      have H10 := Lib.hid hnew
      clear hnew dK1
      go_wp2
      go_ret
      exact ⟨rfl, (CA.out.trans (H10.out.chg.mono fun i _ h => by omega)).below (Nat.le_refl _) fun _ h => h⟩

end Go.Proofs.Ytalcoodfoifmcaa.Arena
