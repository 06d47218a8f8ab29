/- The reference's arena: SetNumber, SetPlace, Return, Free, Grant, New: what each answers, and what it writes. -/
import Derived.Test.YtolpjgpimholcaaRefArena
import Derived.Laws.MakeOwn
namespace Go.Proofs.Ytolpjgpimholcaa.Arena
open Go Go.RowKit Go.Proofs.Ytolpjgpimholcaa.Mem Go.Proofs.Ytolpjgpimholcaa.CodecPure Go.Proofs.Ytolpjgpimholcaa.ArenaPure Go.Proofs.Ytolpjgpimholcaa.Codec
set_option linter.unusedVariables false
set_option maxRecDepth 100000
variable {w w' : World} {s : St} {r : Ra}
theorem RLies.o_lt (h : RLies w r s) : r.o < w.heap.size := World.block_lt_of_cell? w _ (h.own.cellAt 0 h.ok.low).1
theorem RLies.b_lt (h : RLies w r s) : r.b < w.heap.size := World.block_lt_of_cell? w _ (h.byt.cellAt 0 (by have := h.ok.len; have := h.ok.low; omega)).1
theorem RLies.later {B : Nat} (h : RLies w r s) (hc : Chg (fun b => B ≤ b) w w') (hB : w.heap.size ≤ B) : RLies w' r s := by
  have := h.o_lt
  have := h.b_lt
  have := blk_lt h.head
  exact h.chg hc (by omega) (by omega) (by omega)

/-! ### SetNumber, SetPlace -/
theorem refsetnumber_calls (hl : RLies w r s) (at_ n v : Int) (hx : -9223372036854775808 ≤ at_ ∧ at_ ≤ 9223372036854775807) (h0 : 0 ≤ v) (h1 : v < 18446744073709551616) :
    Calls Try.prog 100 #[(.pointer (some ⟨r.g, 0, none⟩)), (.int .i64 at_), (.int .i64 n), (.int .u64 v)] w (RNow w r (setNumber s at_ n v).1 (setNumber s at_ n v).2) := by
  unfold setNumber
  by_cases hw : Wd n
  · have H := Lib.hid (width_yes n w hw)
    by_cases h : within s at_ n
    · rw [if_pos h]
      have P := Lib.hid (within_yes hl at_ n h)
      have L := got_length hl.ok h
      have k2 := hl.hdB
      have lt : r.g < w.heap.size := blk_lt hl.head
      have M := in_row hl.ok h
      have r1 := hl.ok.high
      have r2 := hl.ok.len
      obtain ⟨A, rfl⟩ := Int.eq_ofNat_of_zero_le h.2.1
      obtain ⟨m, rfl⟩ := Int.eq_ofNat_of_zero_le h.1
      obtain ⟨X, sl, S⟩ := hl.cut A m h
      have e1 : ((A : Int)).toNat = A := by omega
      have e2 : ((m : Int)).toNat = m := by omega
      rw [e1, e2] at M
      rw [e2] at L
      have G := refput_callsF (some X) (r.cb - A) (got s A m) 0 m v w S (by omega) (fun e => by cases e) (by decide) h0 h1
      have hL : Hid ((putC (got s A m) 0 m v).1.length = m) := by show _ = _; rw [putC_len, L]
      have hW : Hid (write s A (putC (got s A m) 0 m v).1 = (lay s A (putC (got s A m) 0 m v).1, 0)) := by
        show write s A _ = _
        unfold write
        rw [if_pos (by rw [hL.out]; exact h)]
      have hE : Hid ((putC (got s A m) 0 m v).2 ≠ 0 → lay s A (putC (got s A m) 0 m v).1 = s) := fun e => by
        rcases putC_pair (got s A m) m v (by rw [L, e2]) with ⟨e3, _⟩ | ⟨_, e4⟩
        · rw [e3]; exact lay_got hl.ok h
        · exact absurd e4 e
      have hY := Lib.hid (bytes_putC (got s A m) 0 m v (got_bytes hl.ok A m))
      rw [L] at G
      have G := Lib.hid G
      have H0 := Lib.hid hl
      have m6 : A + m ≤ 32768 := by omega
      generalize (putC (got s A m) 0 m v).1 = Y at G hL hW hE hY ⊢
      generalize (putC (got s A m) 0 m v).2 = E at G hE ⊢
      generalize s.B.length = N at k2 sl
      clear h hl hx hw r1 r2 M e1 e2 L S h0 h1
      by_cases hz : E = 0
      · subst hz
        go_enter Try.func100, Try.ntmps100
        go_wp2_with (first | (go_at_call 115; refine (H.out).mono ?_; rintro e w' ⟨rfl, rfl⟩) | (go_at_call 94; refine (P.out).mono ?_; rintro e w' ⟨rfl, rfl⟩))
        refine G.out.mono ?_
        rintro e w1 ⟨A1, c1, n1, hn1, rfl, S1, C1, Z1, F1⟩
        have H1 := H0.out.later C1 (Nat.le_refl _)
        have b1 := H0.out.o_lt
        have b2 := H0.out.b_lt
        have W := refwrite_calls H1 A A1 c1 Y S1 hY.out (fun _ ad e => by have := F1 rfl ad e; unfold Ra.has; omega) (by have := hL.out; omega) (by omega)
        rw [hW.out] at W
        rw [← hn1] at W
        have W := Lib.hid W
        have C1 := Lib.hid C1
        clear S1 Z1 F1 H1 b1 b2 hn1
        go_wp2_with fail
        refine W.out.mono ?_
        rintro e w2 ⟨rfl, hl2, hc2⟩
        have R : Hid (∀ e w', e = Ending.returned (.int .i64 0) → w2 = w' → RNow w r (lay s A Y) 0 e w') := fun e w' he hw => by
          subst hw
          exact ⟨he, hl2, (C1.out.mono fun i h1 h2 => by omega).trans hc2⟩
        clear hl2 hc2
        go_wp2
        go_ret
        exact R.out _ _ rfl rfl
      · have hE2 := hE.out hz
        rw [hE2]
        have t : (E == 0) = false := by rw [beq_eq_false_iff_ne]; exact hz
        clear hE2 hE
        go_enter Try.func100, Try.ntmps100
        go_wp2_with (first | (go_at_call 115; refine (H.out).mono ?_; rintro e w' ⟨rfl, rfl⟩) | (go_at_call 94; refine (P.out).mono ?_; rintro e w' ⟨rfl, rfl⟩))
        refine G.out.mono ?_
        rintro e w1 ⟨A1, c1, n1, hn1, rfl, S1, C1, Z1, F1⟩
        have R : Hid (∀ e w', e = Ending.returned (.int .i64 E) → w1 = w' → RNow w r s E e w') := fun e w' he hw => by
          subst hw
          exact ⟨he, H0.out.later C1 (Nat.le_refl _), C1.mono fun i h1 h2 => by omega⟩
        clear S1 Z1 F1 hn1 C1
        go_wp2
        go_ret
        exact R.out _ _ rfl rfl
    · rw [if_neg h]
      have P := Lib.hid (within_no hl at_ n hx h)
      have R : Hid (∀ e w', e = Ending.returned (.int .i64 1) → w = w' → RNow w r s 1 e w') := fun e w' he hw => by subst hw; exact ⟨he, hl, Chg.refl _ _⟩
      clear h hl hx hw
      go_enter Try.func100, Try.ntmps100
      go_wp2_with (first | (go_at_call 115; refine (H.out).mono ?_; rintro e w' ⟨rfl, rfl⟩) | (go_at_call 94; refine (P.out).mono ?_; rintro e w' ⟨rfl, rfl⟩))
      go_ret
      exact R.out _ _ rfl rfl
  · have H := Lib.hid (width_no n w hw)
    have e : (if within s at_ n then (lay s at_ (putC (got s at_ n) 0 n v).1, (putC (got s at_ n) 0 n v).2) else (s, 1)) = (s, 1) := by
      by_cases h : within s at_ n
      · rw [if_pos h, put_noW n v _ hw]
        show (lay s at_ (got s at_ n), (1 : Int)) = _
        rw [lay_got hl.ok h]
      · rw [if_neg h]
    rw [e]
    have R : Hid (∀ e w', e = Ending.returned (.int .i64 1) → w = w' → RNow w r s 1 e w') := fun e w' he hw => by subst hw; exact ⟨he, hl, Chg.refl _ _⟩
    clear e hl hx hw
    go_enter Try.func100, Try.ntmps100
    go_wp2_with (go_at_call 115; refine (H.out).mono ?_; rintro e w' ⟨rfl, rfl⟩)
    go_ret
    exact R.out _ _ rfl rfl
theorem putPlaceC_pair (L : List Int) (p : Int) (h : L.length = 4) : (putPlaceC L 0 p).2 ≠ 0 → (putPlaceC L 0 p).1 = L := by
  intro e
  by_cases hp : p < -1 ∨ p > 2147483647
  · exact (putPlaceRow_far [] 0 _ _ _ hp).2
  · rw [putPlaceC_of _ _ _ hp] at e ⊢
    rcases putC_pair L 4 (p % 4294967296) (by rw [h]; rfl) with ⟨e3, _⟩ | ⟨_, e4⟩
    · exact e3
    · exact absurd e4 e
theorem refsetplace_calls (hl : RLies w r s) (at_ p : Int) (hx : -9223372036854775808 ≤ at_ ∧ at_ ≤ 9223372036854775807) (hv : -9223372036854775808 ≤ p ∧ p ≤ 9223372036854775807) :
    Calls Try.prog 102 #[(.pointer (some ⟨r.g, 0, none⟩)), (.int .i64 at_), (.int .i64 p)] w (RNow w r (setPlace s at_ p).1 (setPlace s at_ p).2) := by
  unfold setPlace
  by_cases h : within s at_ 4
  · rw [if_pos h]
    have P := Lib.hid (within_yes hl at_ 4 h)
    have L := got_length hl.ok h
    have k2 := hl.hdB
    have lt : r.g < w.heap.size := blk_lt hl.head
    have M := in_row hl.ok h
    have r1 := hl.ok.high
    have r2 := hl.ok.len
    obtain ⟨A, rfl⟩ := Int.eq_ofNat_of_zero_le h.2.1
    obtain ⟨X, sl0, S⟩ := hl.cut A 4 h
    have sl : ∀ W, (Instr.sliceAt 52 (.slice (some ⟨r.b, 0, none⟩) s.B.length r.cb) (some (.int .i64 A)) (some (.int .i64 ((A : Int) + 4))) none).run Try.prog W = .ok (.slice (some X) 4 (r.cb - A)) W := sl0
    clear sl0
    have e1 : ((A : Int)).toNat = A := by omega
    have e2 : (4 : Int).toNat = 4 := rfl
    rw [e1, e2] at M
    rw [e2] at L
    have G := refputplace_callsF (some X) (r.cb - A) (got s A 4) 0 p w S (by omega) (fun e => by cases e) (by decide) hv
    have hL : Hid ((putPlaceC (got s A 4) 0 p).1.length = 4) := by show _ = _; rw [putPlaceC_length, L]
    have hW : Hid (write s A (putPlaceC (got s A 4) 0 p).1 = (lay s A (putPlaceC (got s A 4) 0 p).1, 0)) := by
      show write s A _ = _
      unfold write
      rw [if_pos (by rw [hL.out]; exact h)]
    have hE : Hid ((putPlaceC (got s A 4) 0 p).2 ≠ 0 → lay s A (putPlaceC (got s A 4) 0 p).1 = s) := fun e => by
      rw [putPlaceC_pair _ _ L e]; exact lay_got hl.ok h
    have hY := Lib.hid (bytes_putPlaceC (got s A 4) 0 p (got_bytes hl.ok A 4))
    rw [L] at G
    have G := Lib.hid G
    have H0 := Lib.hid hl
    have m6 : A + 4 ≤ 32768 := by omega
    generalize (putPlaceC (got s A 4) 0 p).1 = Y at G hL hW hE hY ⊢
    generalize (putPlaceC (got s A 4) 0 p).2 = E at G hE ⊢
    generalize s.B.length = N at k2 sl
    clear h hl hx r1 r2 M e1 e2 L S hv
    by_cases hz : E = 0
    · subst hz
      go_enter Try.func102, Try.ntmps102
      go_wp2_with (go_at_call 94; refine (P.out).mono ?_; rintro e w' ⟨rfl, rfl⟩)
      refine G.out.mono ?_
      rintro e w1 ⟨A1, c1, n1, hn1, rfl, S1, C1, Z1, F1⟩
      have H1 := H0.out.later C1 (Nat.le_refl _)
      have b1 := H0.out.o_lt
      have b2 := H0.out.b_lt
      have W := refwrite_calls H1 A A1 c1 Y S1 hY.out (fun _ ad e => by have := F1 rfl ad e; unfold Ra.has; omega) (by have := hL.out; omega) (by omega)
      rw [hW.out] at W
      rw [← hn1] at W
      have W := Lib.hid W
      have C1 := Lib.hid C1
      clear S1 Z1 F1 H1 b1 b2 hn1
      go_wp2_with fail
      refine W.out.mono ?_
      rintro e w2 ⟨rfl, hl2, hc2⟩
      have R : Hid (∀ e w', e = Ending.returned (.int .i64 0) → w2 = w' → RNow w r (lay s A Y) 0 e w') := fun e w' he hw => by
        subst hw
        exact ⟨he, hl2, (C1.out.mono fun i h1 h2 => by omega).trans hc2⟩
      clear hl2 hc2
      go_wp2
      go_ret
      exact R.out _ _ rfl rfl
    · have hE2 := hE.out hz
      rw [hE2]
      have t : (E == 0) = false := by rw [beq_eq_false_iff_ne]; exact hz
      clear hE2 hE
      go_enter Try.func102, Try.ntmps102
      go_wp2_with (go_at_call 94; refine (P.out).mono ?_; rintro e w' ⟨rfl, rfl⟩)
      refine G.out.mono ?_
      rintro e w1 ⟨A1, c1, n1, hn1, rfl, S1, C1, Z1, F1⟩
      have R : Hid (∀ e w', e = Ending.returned (.int .i64 E) → w1 = w' → RNow w r s E e w') := fun e w' he hw => by
        subst hw
        exact ⟨he, H0.out.later C1 (Nat.le_refl _), C1.mono fun i h1 h2 => by omega⟩
      clear S1 Z1 F1 hn1 C1
      go_wp2
      go_ret
      exact R.out _ _ rfl rfl
  · rw [if_neg h]
    have P := Lib.hid (within_no hl at_ 4 hx h)
    have R : Hid (∀ e w', e = Ending.returned (.int .i64 1) → w = w' → RNow w r s 1 e w') := fun e w' he hw => by subst hw; exact ⟨he, hl, Chg.refl _ _⟩
    clear h hl hx hv
    go_enter Try.func102, Try.ntmps102
    go_wp2_with (go_at_call 94; refine (P.out).mono ?_; rintro e w' ⟨rfl, rfl⟩)
    go_ret
    exact R.out _ _ rfl rfl

/-! ### Return, Free -/
theorem reffree_calls (hl : RLies w r s) : Calls Try.prog 88 #[(.pointer (some ⟨r.g, 0, none⟩))] w fun e w' => e = .returned (.int .i64 (free s)) ∧ w = w' := by
  have k1 := hl.hdO
  have r1 := hl.ok.high
  have H := Lib.hid hl
  clear hl
  generalize hn : s.own.length = n at k1 r1
  have hn' := Lib.hid hn
  clear hn
  go_enter Try.func88, Try.ntmps88
  go_wp2
  go_loop [3, 4] (fun c i => ∃ k : Nat, k ≤ n ∧ i = .int .i64 k ∧ c = .int .i64 ((s.own.take k).countP (fun c => decide (c < 0)) : Nat)) (fun _ i => n - (intOf i).toNat)
  case atStart => exact ⟨0, Nat.zero_le _, rfl, rfl⟩
  case round =>
    obtain ⟨k, hk, rfl, rfl⟩ := hrel
    have hc : (s.own.take k).countP (fun c => decide (c < 0)) ≤ k := Nat.le_trans List.countP_le_length (List.length_take_le _ _)
    by_cases hlt : k < n
    · have hi : k < s.own.length := by rw [hn'.out]; exact hlt
      have p2 := (H.out.own.cellAt k hi).1
      have T := Lib.hid (countP_take (fun c => decide (c < 0)) s.own k hi)
      generalize (s.own.take k).countP (fun c => decide (c < 0)) = m at T hc ⊢
      generalize s.own.getD k 0 = c at p2 T
      clear hi
      by_cases h0 : c < 0
      · go_wp2
        go_round
        case rel => exact ⟨k + 1, hlt, by go_num, by rw [T.out, if_pos (by simpa using h0)]; go_num⟩
        case measure => simp [intOf]; omega
      · have T2 : Hid ((s.own.take (k + 1)).countP (fun c => decide (c < 0)) = m) := by have := T.out; rw [if_neg (by simpa using h0)] at this; exact this
        have h0 : 0 ≤ c := by omega
        go_wp2
        go_round
        case rel => exact ⟨k + 1, hlt, by go_num, by rw [T2.out]⟩
        case measure => simp [intOf]; omega
    · obtain rfl : k = n := by omega
      clear hc
      have T : Hid (((s.own.take k).countP (fun c => decide (c < 0))) = free s) := by
        show _ = _
        rw [List.take_of_length_le (by rw [hn'.out]; exact Nat.le_refl _)]; rfl
      rw [T.out]
      clear T
      go_wp2
      go_ret
      exact ⟨rfl, rfl⟩

end Go.Proofs.Ytolpjgpimholcaa.Arena
