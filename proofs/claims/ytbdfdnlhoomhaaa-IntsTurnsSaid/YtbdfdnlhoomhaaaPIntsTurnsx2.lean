-- PRINTED BY print.sh 35421559b90ae4d0a3588c463048766b98c2df88dd9212a6774a882060cdf62d: not written by this session
import Derived.Test.YtbdfdnlhoomhaaaPIntsTurnsx0
import Derived.Test.YtbdfdnlhoomhaaaPIntsTurnsx1
namespace Go.Proofs.Ytbdfdnlhoomhaaa.PIntsTurns
open Go.RowKit Go.Proofs.YtbdfdnlhoomhaaaW.PrintWords Go.Proofs.YtbdfdnlhoomhaaaW.PrintLast Go.Proofs.YtbdfdnlhoomhaaaW.PrintMore
attribute [local go_sem] max2_int min2_int max_two min_two max_three min_three max_four min_four   -- for this text's walks alone
set_option linter.unusedVariables false
set_option linter.unusedSimpArgs false

/-! ### tallboylaw01_IntsTurns: function 3 -/
def tallboylaw01_IntsTurns.f (k : Nat) (a0 : Int) (a1 : Int) : Option (Bool) := (ints_Narrow.f (wrap64 (a0))).bind fun bt115 => ((tallboyref01_Narrow.f k (wrap64 (a0))).bind fun bt121 => (if bt115.1 = bt121.1 then (if bt115.2.1 = bt121.2.1 then (if bt115.2.2.1 = bt121.2.2.1 then (if bt115.2.2.2.1 = bt121.2.2.2.1 then (if bt115.2.2.2.2.1 = bt121.2.2.2.2.1 then (if bt115.2.2.2.2.2 = bt121.2.2.2.2.2 then ((ints_Rotate.f ((a0) % 4294967296) a1).bind fun t127 => ((tallboyref01_Rotate.f k ((a0) % 4294967296) a1).bind fun t128 => (if t127 = t128 then ((ints_Shift.f k a0 a1).bind fun t129 => ((tallboyref01_Shift.f k a0 a1).bind fun t130 => (some (t129 == t130)))) else (some false)))) else (some false)) else (some false)) else (some false)) else (some false)) else (some false)) else (some false)))
theorem tallboylaw01_IntsTurns.mono : ∀ a0 a1 k, LeO (tallboylaw01_IntsTurns.f k a0 a1) (tallboylaw01_IntsTurns.f (k + 1) a0 a1) := by
  intro a0 a1 k
  unfold tallboylaw01_IntsTurns.f
  repeat' first
      | (with_reducible exact ints_Shift.mono _ _ _)
      | (with_reducible exact tallboyref01_Narrow.mono _ _)
      | (with_reducible exact tallboyref01_Rotate.mono _ _ _)
      | (with_reducible exact tallboyref01_Shift.mono _ _ _)
      | (with_reducible exact LeO.refl _)
      | (with_reducible exact LeO.none _)
      | (with_reducible refine LeO.ite ?_ ?_)
      | (with_reducible refine LeO.bind ?_ (fun _ => ?_))
      | exact ints_Shift.mono _ _ _
      | exact tallboyref01_Narrow.mono _ _
      | exact tallboyref01_Rotate.mono _ _ _
      | exact tallboyref01_Shift.mono _ _ _
      | exact LeO.none _
      | refine LeO.ite ?_ ?_
      | refine LeO.bind ?_ (fun _ => ?_)
set_option maxHeartbeats 8000000 in
set_option maxRecDepth 100000 in
theorem tallboylaw01_IntsTurns.calls (k : Nat) (a0 : Int) (a1 : Int) (r : Bool) (w : World) (h : tallboylaw01_IntsTurns.f k a0 a1 = some r) :
    Calls Try.prog 3 #[.int .u64 a0, .int .i64 a1] w fun e w' => e = .returned (.bool r) ∧ Drawn0 w w' := by
  have H : ((ints_Narrow.f (wrap64 (a0))).bind fun bt115 => ((tallboyref01_Narrow.f k (wrap64 (a0))).bind fun bt121 => (if bt115.1 = bt121.1 then (if bt115.2.1 = bt121.2.1 then (if bt115.2.2.1 = bt121.2.2.1 then (if bt115.2.2.2.1 = bt121.2.2.2.1 then (if bt115.2.2.2.2.1 = bt121.2.2.2.2.1 then (if bt115.2.2.2.2.2 = bt121.2.2.2.2.2 then ((ints_Rotate.f ((a0) % 4294967296) a1).bind fun t127 => ((tallboyref01_Rotate.f k ((a0) % 4294967296) a1).bind fun t128 => (if t127 = t128 then ((ints_Shift.f k a0 a1).bind fun t129 => ((tallboyref01_Shift.f k a0 a1).bind fun t130 => (some (t129 == t130)))) else (some false)))) else (some false)) else (some false)) else (some false)) else (some false)) else (some false)) else (some false)))) = some r := h
  clear h
  replace H := Option.bind_eq_some_iff.mp H
  obtain ⟨⟨t115, t116, t117, t118, t119, t120⟩, A30, H⟩ := H
  replace H : ((tallboyref01_Narrow.f k (wrap64 (a0))).bind fun bt121 => (if t115 = bt121.1 then (if t116 = bt121.2.1 then (if t117 = bt121.2.2.1 then (if t118 = bt121.2.2.2.1 then (if t119 = bt121.2.2.2.2.1 then (if t120 = bt121.2.2.2.2.2 then ((ints_Rotate.f ((a0) % 4294967296) a1).bind fun t127 => ((tallboyref01_Rotate.f k ((a0) % 4294967296) a1).bind fun t128 => (if t127 = t128 then ((ints_Shift.f k a0 a1).bind fun t129 => ((tallboyref01_Shift.f k a0 a1).bind fun t130 => (some (t129 == t130)))) else (some false)))) else (some false)) else (some false)) else (some false)) else (some false)) else (some false)) else (some false))) = some r := H
  have A3 := Aside0.mk A30
  clear A30
  replace H := Option.bind_eq_some_iff.mp H
  obtain ⟨⟨t121, t122, t123, t124, t125, t126⟩, A40, H⟩ := H
  replace H : (if t115 = t121 then (if t116 = t122 then (if t117 = t123 then (if t118 = t124 then (if t119 = t125 then (if t120 = t126 then ((ints_Rotate.f ((a0) % 4294967296) a1).bind fun t127 => ((tallboyref01_Rotate.f k ((a0) % 4294967296) a1).bind fun t128 => (if t127 = t128 then ((ints_Shift.f k a0 a1).bind fun t129 => ((tallboyref01_Shift.f k a0 a1).bind fun t130 => (some (t129 == t130)))) else (some false)))) else (some false)) else (some false)) else (some false)) else (some false)) else (some false)) else (some false)) = some r := H
  have A4 := Aside0.mk A40
  clear A40
  by_cases c5 : t115 = t121
  · rw [if_pos c5] at H
    have c5b0 : (t115 == t121) = true := beq_iff_eq.mpr c5
    have c5b1 : (t115 != t121) = false := bne_eq_false_iff_eq.mpr c5
    clear c5
    by_cases c6 : t116 = t122
    · rw [if_pos c6] at H
      have c6b0 : (t116 == t122) = true := beq_iff_eq.mpr c6
      have c6b1 : (t116 != t122) = false := bne_eq_false_iff_eq.mpr c6
      clear c6
      by_cases c7 : t117 = t123
      · rw [if_pos c7] at H
        have c7b0 : (t117 == t123) = true := beq_iff_eq.mpr c7
        have c7b1 : (t117 != t123) = false := bne_eq_false_iff_eq.mpr c7
        clear c7
        by_cases c8 : t118 = t124
        · rw [if_pos c8] at H
          have c8b0 : (t118 == t124) = true := beq_iff_eq.mpr c8
          have c8b1 : (t118 != t124) = false := bne_eq_false_iff_eq.mpr c8
          clear c8
          by_cases c9 : t119 = t125
          · rw [if_pos c9] at H
            have c9b0 : (t119 == t125) = true := beq_iff_eq.mpr c9
            have c9b1 : (t119 != t125) = false := bne_eq_false_iff_eq.mpr c9
            clear c9
            by_cases c10 : t120 = t126
            · rw [if_pos c10] at H
              have c10b0 : (t120 == t126) = true := beq_iff_eq.mpr c10
              have c10b1 : (t120 != t126) = false := bne_eq_false_iff_eq.mpr c10
              clear c10
              replace H := Option.bind_eq_some_iff.mp H
              obtain ⟨t127, A110, H⟩ := H
              replace H : ((tallboyref01_Rotate.f k ((a0) % 4294967296) a1).bind fun t128 => (if t127 = t128 then ((ints_Shift.f k a0 a1).bind fun t129 => ((tallboyref01_Shift.f k a0 a1).bind fun t130 => (some (t129 == t130)))) else (some false))) = some r := H
              have A11 := Aside0.mk A110
              clear A110
              replace H := Option.bind_eq_some_iff.mp H
              obtain ⟨t128, A120, H⟩ := H
              replace H : (if t127 = t128 then ((ints_Shift.f k a0 a1).bind fun t129 => ((tallboyref01_Shift.f k a0 a1).bind fun t130 => (some (t129 == t130)))) else (some false)) = some r := H
              have A12 := Aside0.mk A120
              clear A120
              by_cases c13 : t127 = t128
              · rw [if_pos c13] at H
                have c13b0 : (t127 == t128) = true := beq_iff_eq.mpr c13
                have c13b1 : (t127 != t128) = false := bne_eq_false_iff_eq.mpr c13
                clear c13
                replace H := Option.bind_eq_some_iff.mp H
                obtain ⟨t129, A140, H⟩ := H
                replace H : ((tallboyref01_Shift.f k a0 a1).bind fun t130 => (some (t129 == t130))) = some r := H
                have A14 := Aside0.mk A140
                clear A140
                replace H := Option.bind_eq_some_iff.mp H
                obtain ⟨t130, A150, H⟩ := H
                replace H : (some (t129 == t130)) = some r := H
                have A15 := Aside0.mk A150
                clear A150
                obtain rfl := Option.some.inj H
                go_enter Try.func3, Try.ntmps3
                go_wp2_with (first | ((with_reducible refine gate_callee (f := 11) rfl ?_); refine goesL_ (some 20) rfl rfl Try.func11 (by kernel_rfl) rfl #[.int .i64 (wrap64 (a0))] rfl (by (try simp only [List.map_toArray, List.map_cons, List.map_nil]); first | done | rfl | (simp only [List.length_drop, List.length_take]; rfl)) ?_; (with_reducible refine (ints_Narrow.calls (wrap64 (a0)) t115 t116 t117 t118 t119 t120 _ A3.out).mono ?_); rintro e w' ⟨rfl, ⟨nd, rfl⟩⟩; refine ⟨_, rfl, ?_⟩) | ((with_reducible refine gate_callee (f := 12) rfl ?_); refine goesL_ (some 30) rfl rfl Try.func12 (by kernel_rfl) rfl #[.int .i64 (wrap64 (a0))] rfl (by (try simp only [List.map_toArray, List.map_cons, List.map_nil]); first | done | rfl | (simp only [List.length_drop, List.length_take]; rfl)) ?_; (with_reducible refine (tallboyref01_Narrow.calls k (wrap64 (a0)) t121 t122 t123 t124 t125 t126 _ A4.out).mono ?_); rintro e w' ⟨rfl, ⟨nd, rfl⟩⟩; refine ⟨_, rfl, ?_⟩) | (go_at_call 13; (with_reducible refine (ints_Rotate.calls ((a0) % 4294967296) a1 t127 _ A11.out).mono ?_); rintro e w' ⟨rfl, ⟨nd, rfl⟩⟩) | (go_at_call 14; (with_reducible refine (tallboyref01_Rotate.calls k ((a0) % 4294967296) a1 t128 _ A12.out).mono ?_); rintro e w' ⟨rfl, ⟨nd, rfl⟩⟩) | (go_at_call 15; (with_reducible refine (ints_Shift.calls k a0 a1 t129 _ A14.out).mono ?_); rintro e w' ⟨rfl, ⟨nd, rfl⟩⟩) | (go_at_call 16; (with_reducible refine (tallboyref01_Shift.calls k a0 a1 t130 _ A15.out).mono ?_); rintro e w' ⟨rfl, ⟨nd, rfl⟩⟩))
                go_ret
                exact ⟨by first | rfl | (simp; done) | (simp [*]; done), by repeat (first | exact Drawn0.refl _ | apply Drawn0.step)⟩
              · rw [if_neg c13] at H
                have c13b0 : (t127 == t128) = false := beq_eq_false_iff_ne.mpr c13
                have c13b1 : (t127 != t128) = true := bne_iff_ne.mpr c13
                obtain rfl := Option.some.inj H
                go_enter Try.func3, Try.ntmps3
                go_wp2_with (first | ((with_reducible refine gate_callee (f := 11) rfl ?_); refine goesL_ (some 20) rfl rfl Try.func11 (by kernel_rfl) rfl #[.int .i64 (wrap64 (a0))] rfl (by (try simp only [List.map_toArray, List.map_cons, List.map_nil]); first | done | rfl | (simp only [List.length_drop, List.length_take]; rfl)) ?_; (with_reducible refine (ints_Narrow.calls (wrap64 (a0)) t115 t116 t117 t118 t119 t120 _ A3.out).mono ?_); rintro e w' ⟨rfl, ⟨nd, rfl⟩⟩; refine ⟨_, rfl, ?_⟩) | ((with_reducible refine gate_callee (f := 12) rfl ?_); refine goesL_ (some 30) rfl rfl Try.func12 (by kernel_rfl) rfl #[.int .i64 (wrap64 (a0))] rfl (by (try simp only [List.map_toArray, List.map_cons, List.map_nil]); first | done | rfl | (simp only [List.length_drop, List.length_take]; rfl)) ?_; (with_reducible refine (tallboyref01_Narrow.calls k (wrap64 (a0)) t121 t122 t123 t124 t125 t126 _ A4.out).mono ?_); rintro e w' ⟨rfl, ⟨nd, rfl⟩⟩; refine ⟨_, rfl, ?_⟩) | (go_at_call 13; (with_reducible refine (ints_Rotate.calls ((a0) % 4294967296) a1 t127 _ A11.out).mono ?_); rintro e w' ⟨rfl, ⟨nd, rfl⟩⟩) | (go_at_call 14; (with_reducible refine (tallboyref01_Rotate.calls k ((a0) % 4294967296) a1 t128 _ A12.out).mono ?_); rintro e w' ⟨rfl, ⟨nd, rfl⟩⟩))
                go_ret
                exact ⟨by first | rfl | (simp; done) | (simp [*]; done), by repeat (first | exact Drawn0.refl _ | apply Drawn0.step)⟩
            · rw [if_neg c10] at H
              have c10b0 : (t120 == t126) = false := beq_eq_false_iff_ne.mpr c10
              have c10b1 : (t120 != t126) = true := bne_iff_ne.mpr c10
              obtain rfl := Option.some.inj H
              go_enter Try.func3, Try.ntmps3
              go_wp2_with (first | ((with_reducible refine gate_callee (f := 11) rfl ?_); refine goesL_ (some 20) rfl rfl Try.func11 (by kernel_rfl) rfl #[.int .i64 (wrap64 (a0))] rfl (by (try simp only [List.map_toArray, List.map_cons, List.map_nil]); first | done | rfl | (simp only [List.length_drop, List.length_take]; rfl)) ?_; (with_reducible refine (ints_Narrow.calls (wrap64 (a0)) t115 t116 t117 t118 t119 t120 _ A3.out).mono ?_); rintro e w' ⟨rfl, ⟨nd, rfl⟩⟩; refine ⟨_, rfl, ?_⟩) | ((with_reducible refine gate_callee (f := 12) rfl ?_); refine goesL_ (some 30) rfl rfl Try.func12 (by kernel_rfl) rfl #[.int .i64 (wrap64 (a0))] rfl (by (try simp only [List.map_toArray, List.map_cons, List.map_nil]); first | done | rfl | (simp only [List.length_drop, List.length_take]; rfl)) ?_; (with_reducible refine (tallboyref01_Narrow.calls k (wrap64 (a0)) t121 t122 t123 t124 t125 t126 _ A4.out).mono ?_); rintro e w' ⟨rfl, ⟨nd, rfl⟩⟩; refine ⟨_, rfl, ?_⟩))
              go_ret
              exact ⟨by first | rfl | (simp; done) | (simp [*]; done), by repeat (first | exact Drawn0.refl _ | apply Drawn0.step)⟩
          · rw [if_neg c9] at H
            have c9b0 : (t119 == t125) = false := beq_eq_false_iff_ne.mpr c9
            have c9b1 : (t119 != t125) = true := bne_iff_ne.mpr c9
            obtain rfl := Option.some.inj H
            go_enter Try.func3, Try.ntmps3
            go_wp2_with (first | ((with_reducible refine gate_callee (f := 11) rfl ?_); refine goesL_ (some 20) rfl rfl Try.func11 (by kernel_rfl) rfl #[.int .i64 (wrap64 (a0))] rfl (by (try simp only [List.map_toArray, List.map_cons, List.map_nil]); first | done | rfl | (simp only [List.length_drop, List.length_take]; rfl)) ?_; (with_reducible refine (ints_Narrow.calls (wrap64 (a0)) t115 t116 t117 t118 t119 t120 _ A3.out).mono ?_); rintro e w' ⟨rfl, ⟨nd, rfl⟩⟩; refine ⟨_, rfl, ?_⟩) | ((with_reducible refine gate_callee (f := 12) rfl ?_); refine goesL_ (some 30) rfl rfl Try.func12 (by kernel_rfl) rfl #[.int .i64 (wrap64 (a0))] rfl (by (try simp only [List.map_toArray, List.map_cons, List.map_nil]); first | done | rfl | (simp only [List.length_drop, List.length_take]; rfl)) ?_; (with_reducible refine (tallboyref01_Narrow.calls k (wrap64 (a0)) t121 t122 t123 t124 t125 t126 _ A4.out).mono ?_); rintro e w' ⟨rfl, ⟨nd, rfl⟩⟩; refine ⟨_, rfl, ?_⟩))
            go_ret
            exact ⟨by first | rfl | (simp; done) | (simp [*]; done), by repeat (first | exact Drawn0.refl _ | apply Drawn0.step)⟩
        · rw [if_neg c8] at H
          have c8b0 : (t118 == t124) = false := beq_eq_false_iff_ne.mpr c8
          have c8b1 : (t118 != t124) = true := bne_iff_ne.mpr c8
          obtain rfl := Option.some.inj H
          go_enter Try.func3, Try.ntmps3
          go_wp2_with (first | ((with_reducible refine gate_callee (f := 11) rfl ?_); refine goesL_ (some 20) rfl rfl Try.func11 (by kernel_rfl) rfl #[.int .i64 (wrap64 (a0))] rfl (by (try simp only [List.map_toArray, List.map_cons, List.map_nil]); first | done | rfl | (simp only [List.length_drop, List.length_take]; rfl)) ?_; (with_reducible refine (ints_Narrow.calls (wrap64 (a0)) t115 t116 t117 t118 t119 t120 _ A3.out).mono ?_); rintro e w' ⟨rfl, ⟨nd, rfl⟩⟩; refine ⟨_, rfl, ?_⟩) | ((with_reducible refine gate_callee (f := 12) rfl ?_); refine goesL_ (some 30) rfl rfl Try.func12 (by kernel_rfl) rfl #[.int .i64 (wrap64 (a0))] rfl (by (try simp only [List.map_toArray, List.map_cons, List.map_nil]); first | done | rfl | (simp only [List.length_drop, List.length_take]; rfl)) ?_; (with_reducible refine (tallboyref01_Narrow.calls k (wrap64 (a0)) t121 t122 t123 t124 t125 t126 _ A4.out).mono ?_); rintro e w' ⟨rfl, ⟨nd, rfl⟩⟩; refine ⟨_, rfl, ?_⟩))
          go_ret
          exact ⟨by first | rfl | (simp; done) | (simp [*]; done), by repeat (first | exact Drawn0.refl _ | apply Drawn0.step)⟩
      · rw [if_neg c7] at H
        have c7b0 : (t117 == t123) = false := beq_eq_false_iff_ne.mpr c7
        have c7b1 : (t117 != t123) = true := bne_iff_ne.mpr c7
        obtain rfl := Option.some.inj H
        go_enter Try.func3, Try.ntmps3
        go_wp2_with (first | ((with_reducible refine gate_callee (f := 11) rfl ?_); refine goesL_ (some 20) rfl rfl Try.func11 (by kernel_rfl) rfl #[.int .i64 (wrap64 (a0))] rfl (by (try simp only [List.map_toArray, List.map_cons, List.map_nil]); first | done | rfl | (simp only [List.length_drop, List.length_take]; rfl)) ?_; (with_reducible refine (ints_Narrow.calls (wrap64 (a0)) t115 t116 t117 t118 t119 t120 _ A3.out).mono ?_); rintro e w' ⟨rfl, ⟨nd, rfl⟩⟩; refine ⟨_, rfl, ?_⟩) | ((with_reducible refine gate_callee (f := 12) rfl ?_); refine goesL_ (some 30) rfl rfl Try.func12 (by kernel_rfl) rfl #[.int .i64 (wrap64 (a0))] rfl (by (try simp only [List.map_toArray, List.map_cons, List.map_nil]); first | done | rfl | (simp only [List.length_drop, List.length_take]; rfl)) ?_; (with_reducible refine (tallboyref01_Narrow.calls k (wrap64 (a0)) t121 t122 t123 t124 t125 t126 _ A4.out).mono ?_); rintro e w' ⟨rfl, ⟨nd, rfl⟩⟩; refine ⟨_, rfl, ?_⟩))
        go_ret
        exact ⟨by first | rfl | (simp; done) | (simp [*]; done), by repeat (first | exact Drawn0.refl _ | apply Drawn0.step)⟩
    · rw [if_neg c6] at H
      have c6b0 : (t116 == t122) = false := beq_eq_false_iff_ne.mpr c6
      have c6b1 : (t116 != t122) = true := bne_iff_ne.mpr c6
      obtain rfl := Option.some.inj H
      go_enter Try.func3, Try.ntmps3
      go_wp2_with (first | ((with_reducible refine gate_callee (f := 11) rfl ?_); refine goesL_ (some 20) rfl rfl Try.func11 (by kernel_rfl) rfl #[.int .i64 (wrap64 (a0))] rfl (by (try simp only [List.map_toArray, List.map_cons, List.map_nil]); first | done | rfl | (simp only [List.length_drop, List.length_take]; rfl)) ?_; (with_reducible refine (ints_Narrow.calls (wrap64 (a0)) t115 t116 t117 t118 t119 t120 _ A3.out).mono ?_); rintro e w' ⟨rfl, ⟨nd, rfl⟩⟩; refine ⟨_, rfl, ?_⟩) | ((with_reducible refine gate_callee (f := 12) rfl ?_); refine goesL_ (some 30) rfl rfl Try.func12 (by kernel_rfl) rfl #[.int .i64 (wrap64 (a0))] rfl (by (try simp only [List.map_toArray, List.map_cons, List.map_nil]); first | done | rfl | (simp only [List.length_drop, List.length_take]; rfl)) ?_; (with_reducible refine (tallboyref01_Narrow.calls k (wrap64 (a0)) t121 t122 t123 t124 t125 t126 _ A4.out).mono ?_); rintro e w' ⟨rfl, ⟨nd, rfl⟩⟩; refine ⟨_, rfl, ?_⟩))
      go_ret
      exact ⟨by first | rfl | (simp; done) | (simp [*]; done), by repeat (first | exact Drawn0.refl _ | apply Drawn0.step)⟩
  · rw [if_neg c5] at H
    have c5b0 : (t115 == t121) = false := beq_eq_false_iff_ne.mpr c5
    have c5b1 : (t115 != t121) = true := bne_iff_ne.mpr c5
    obtain rfl := Option.some.inj H
    go_enter Try.func3, Try.ntmps3
    go_wp2_with (first | ((with_reducible refine gate_callee (f := 11) rfl ?_); refine goesL_ (some 20) rfl rfl Try.func11 (by kernel_rfl) rfl #[.int .i64 (wrap64 (a0))] rfl (by (try simp only [List.map_toArray, List.map_cons, List.map_nil]); first | done | rfl | (simp only [List.length_drop, List.length_take]; rfl)) ?_; (with_reducible refine (ints_Narrow.calls (wrap64 (a0)) t115 t116 t117 t118 t119 t120 _ A3.out).mono ?_); rintro e w' ⟨rfl, ⟨nd, rfl⟩⟩; refine ⟨_, rfl, ?_⟩) | ((with_reducible refine gate_callee (f := 12) rfl ?_); refine goesL_ (some 30) rfl rfl Try.func12 (by kernel_rfl) rfl #[.int .i64 (wrap64 (a0))] rfl (by (try simp only [List.map_toArray, List.map_cons, List.map_nil]); first | done | rfl | (simp only [List.length_drop, List.length_take]; rfl)) ?_; (with_reducible refine (tallboyref01_Narrow.calls k (wrap64 (a0)) t121 t122 t123 t124 t125 t126 _ A4.out).mono ?_); rintro e w' ⟨rfl, ⟨nd, rfl⟩⟩; refine ⟨_, rfl, ?_⟩))
    go_ret
    exact ⟨by first | rfl | (simp; done) | (simp [*]; done), by repeat (first | exact Drawn0.refl _ | apply Drawn0.step)⟩

/-- THE ONE PURE STATEMENT of tallboylaw01_IntsTurns: yours. -/
def tallboylaw01_IntsTurns.Pure : Prop := ∀ (a0 : Int) (a1 : Int), (Lit.int .u64 a0).wf = true → (Lit.int .i64 a1).wf = true → ∃ k, tallboylaw01_IntsTurns.f k a0 a1 = some true
theorem tallboylaw01_IntsTurns.walk (P : tallboylaw01_IntsTurns.Pure) (a0 : Int) (a1 : Int) (w : World) (w0 : (Lit.int .u64 a0).wf = true) (w1 : (Lit.int .i64 a1).wf = true) :
    Calls Try.prog 3 #[.int .u64 a0, .int .i64 a1] w fun e w' => e = .returned (.bool true) ∧ Below w.heap.size w w' := by
  obtain ⟨k, h⟩ := P a0 a1 w0 w1
  refine (tallboylaw01_IntsTurns.calls k a0 a1 true w h).mono ?_
  rintro e w' ⟨rfl, hd⟩
  exact ⟨rfl, hd.below⟩

end Go.Proofs.Ytbdfdnlhoomhaaa.PIntsTurns
