/- The walk of the law CodecRow: it returns true at any numbers and widths. -/
import Derived.Test.YtfempngnapkhjaaCodecRows
namespace Go.Proofs.Ytfempngnapkhjaa.Codec
open Go.RowKit Go.Proofs.Ytfempngnapkhjaa.Mem Go.Proofs.Ytfempngnapkhjaa.CodecPure
set_option linter.unusedVariables false

theorem one_most : (1 : Nat) ≤ maxLen := by unfold maxLen; omega
theorem Rows3.base_le {w : World} {base gB : Nat} {a b c : Value} {x y z B : List Int} (h : Rows3 w base gB a b c x y z B) : base ≤ w.heap.size := Nat.le_trans h.hB (Nat.le_of_lt (blk_lt h.bf))
theorem own_mono {w1 w w' : World} {e : TypeId} {k : IntKind} {v : Value} {l : List Int} (hC : Chg (fun b => w1.heap.size ≤ b) w1 w) (h : Own w w1.heap.size e k v l) (hc : Chg (fun g => v.ownBlock = some g) w w') : Chg (fun b => w1.heap.size ≤ b) w1 w' :=
  hC.trans (hc.mono fun i _ hi => (World.ownsRow.lt h i hi).1)
set_option maxHeartbeats 4000000 in
theorem row_walk (A0 : Option Addr) (c0 : Nat) (l0 : List Int) (A1 : Option Addr) (c1 : Nat) (l1 : List Int) (w : World) (h0 : RowOf w .u64 A0 c0 l0 8) (h1 : RowOf w .i64 A1 c1 l1 8) :
    Calls Try.prog 7 #[.slice A0 l0.length c0, .slice A1 l1.length c1] w fun e w' => e = .returned (.bool true) ∧ Below w.heap.size w w' := by
  have s0 : Hid (Sl w .u64 A0 l0) := h0.sl
  have s1 : Hid (Sl w .i64 A1 l1) := h1.sl
  have r0 : l0.length ≤ 140737488351232 := by have := h0.reach; omega
  have r1 : l1.length ≤ 140737488351232 := by have := h1.reach; omega
  have b0 : Hid (∀ j, j < l0.length → 0 ≤ l0.getD j 0 ∧ l0.getD j 0 < 18446744073709551616) := fun j hj => by
    have hv := bounds_u64 (h0.wf (l0.getD j 0) (by rw [List.getD_eq_getElem?_getD, List.getElem?_eq_getElem hj]; exact List.getElem_mem hj))
    exact ⟨hv.1, by have := hv.2; omega⟩
  have hmk := mk400
  clear h0 h1
  go_enter Try.func7, Try.ntmps7
  go_wp2_with (go_at_call 17; refine (works_calls _).mono ?_; rintro e w1 ⟨rfl, hb⟩; have B1 := Lib.hid hb; have S0 : Hid (Sl w1 .u64 A0 l0) := s0.out.chg (Chg.of_below (S := fun _ => False) hb) (fun _ _ h => h); have S1 : Hid (Sl w1 .i64 A1 l1) := s1.out.chg (Chg.of_below (S := fun _ => False) hb) (fun _ _ h => h); clear hb)
  clear hmk
  go_loopw [6, 7, 8, 9, 10] (fun a b c nx i wr => ∃ (k next : Nat) (Aa Ab Ac : Option Addr) (ca cb cc : Nat) (x y z B : List Int), i = .int .i64 k ∧ nx = .int .i64 next ∧ a = .slice Aa k ca ∧ b = .slice Ab k cb ∧ c = .slice Ac k cc ∧ k ≤ 40 ∧ Hid (Rowed B x y z next k) ∧ Hid (Rows3 wr w1.heap.size w1.heap.size (.slice Aa k ca) (.slice Ab k cb) (.slice Ac k cc) x y z B) ∧ Hid (Chg (fun b => w1.heap.size ≤ b) w1 wr)) (fun _ _ _ _ i _ => 40 - (intOf i).toNat)
  case atStart =>
    refine ⟨0, 0, none, none, none, 0, 0, 0, [], [], [], B400, rfl, rfl, rfl, rfl, rfl, by decide, rowed0, ?_, Chg.alloc _ _ _⟩
    exact ⟨Own.nil _ _ _ _, Own.nil _ _ _ _, Own.nil _ _ _ _, heap_alloc_new _ _, Apart.none _ _ _, Apart.none _ _ _, Apart.none _ _ _, by simp [Value.ownBlock], by simp [Value.ownBlock], by simp [Value.ownBlock], Nat.le_refl _⟩
  case round =>
    obtain ⟨k, next, Aa, Ab, Ac, ca, cb, cc, x, y, z, B, rfl, rfl, rfl, rfl, rfl, k40, RD, R0, C0⟩ := hrel
    have nx := RD.out.room
    have lx := RD.out.la
    have ly := RD.out.lw
    have lz := RD.out.lv
    by_cases hin : k < l0.length ∧ k < l1.length ∧ k < 40
    · obtain ⟨i0, i1, i2⟩ := hin
      obtain ⟨ad0, e0, cell0⟩ := (S0.out.later C0.out (Nat.le_refl _)) k i0
      subst e0
      obtain ⟨ad1, e1, cell1⟩ := (S1.out.later C0.out (Nat.le_refl _)) k i1
      subst e1
      obtain ⟨u0, u1⟩ := b0.out k i0
      obtain ⟨u, eu⟩ : ∃ u, l0.getD k 0 = u := ⟨_, rfl⟩
      obtain ⟨q, eq⟩ : ∃ q, l1.getD k 0 = q := ⟨_, rfl⟩
      rw [eu] at cell0 u0 u1
      rw [eq] at cell1
      clear eu eq
      have put0 : Hid (∀ (n v : Int) (B' : List Int), 0 ≤ v → v < 18446744073709551616 → putC B next n v = (B', 0) → Calls Try.prog 9 #[.slice (some ⟨w1.heap.size, 0, none⟩) 400 400, .int .i64 next, .int .i64 n, .int .u64 v] _ (Wb _ w1.heap.size B' 0)) := fun n v B' h0 h1 e => by
        have := put_buf w1.heap.size B next n v _ R0.out.bf (by rw [RD.out.len]; decide) (by omega) h0 h1
        rw [e, RD.out.len] at this
        exact this
      rcases four_of q with ej | ej | ej | ej
      · obtain ⟨v, v0, v1, ev⟩ := less_of u 256 u0 (by decide)
        obtain ⟨B', eB, RD'⟩ := RD.out.step i2 1 v (by decide) v0 v1
        have put1 := Lib.hid (put0.out 1 v B' v0 (by omega) eB)
        have HD := Lib.hid RD'
        clear eB RD' put0 u0 u1 v0 v1
        go_wp2_with fail
        refine put1.out.mono ?_
        rintro e w3 ⟨rfl, hb3, hc3⟩
        have R1 := Lib.hid (R0.out.put hb3 hc3)
        have C1 := Lib.hid (C0.out.trans (hc3.mono fun i _ hi => (show w1.heap.size ≤ i by rw [hi]; exact Nat.le_refl _)))
        clear hb3 hc3 put1
        go_wp2_with (first
          | (at_builtin; refine wpList_app_at rfl _ _ 41 rfl w1.heap.size 3 .i64 8 Try.underlying41 infoInt (.slice Aa k ca) x rfl (R1.out.alloc _).oa (some ⟨w3.heap.size, 0, none⟩) 1 1 [(next : Int)] rfl rfl (Own.lit w3 3 .i64 [(next : Int)] one_most).sl (fun h => by cases h) ?h63 ?hby ?hba ?_; (case h63 => unfold maxLen; omega); (case hby => omega); (case hba => exact (R1.out.alloc _).base_le); intro Aa' ca' na' w4 hn' ho4 hc4 hat4; obtain rfl : na' = k + 1 := (by omega); have R2 := Lib.hid ((R1.out.alloc _).appa ho4 hc4 hat4); have C2 := Lib.hid (own_mono (C1.out.trans (Chg.alloc _ _ _)) (R1.out.alloc _).oa hc4); clear hn' ho4 hc4 hat4)
          | (at_builtin; refine wpList_app_at rfl _ _ 41 rfl w1.heap.size 3 .i64 8 Try.underlying41 infoInt (.slice Ab k cb) y rfl (R2.out.alloc _).ob (some ⟨w4.heap.size, 0, none⟩) 1 1 [(1 : Int)] rfl rfl (Own.lit w4 3 .i64 [(1 : Int)] one_most).sl (fun h => by cases h) ?h63 ?hby ?hba ?_; (case h63 => unfold maxLen; omega); (case hby => omega); (case hba => exact (R2.out.alloc _).base_le); intro Ab' cb' nb' w5 hn' ho5 hc5 hat5; obtain rfl : nb' = k + 1 := (by omega); have R3 := Lib.hid ((R2.out.alloc _).appb ho5 hc5 hat5); have C3 := Lib.hid (own_mono (C2.out.trans (Chg.alloc _ _ _)) (R2.out.alloc _).ob hc5); clear hn' ho5 hc5 hat5)
          | (at_builtin; refine wpList_app_at rfl _ _ 40 rfl w1.heap.size 23 .u64 8 Try.underlying40 infoU64 (.slice Ac k cc) z rfl (R3.out.alloc _).oc (some ⟨w5.heap.size, 0, none⟩) 1 1 [v] rfl rfl (Own.lit w5 23 .u64 [v] one_most).sl (fun h => by cases h) ?h63 ?hby ?hba ?_; (case h63 => unfold maxLen; omega); (case hby => omega); (case hba => exact (R3.out.alloc _).base_le); intro Ac' cc' nc' w6 hn' ho6 hc6 hat6; obtain rfl : nc' = k + 1 := (by omega); have R4 := Lib.hid ((R3.out.alloc _).appc ho6 hc6 hat6); have C4 := Lib.hid (own_mono (C3.out.trans (Chg.alloc _ _ _)) (R3.out.alloc _).oc hc6); clear hn' ho6 hc6 hat6))
        go_round
        case rel => exact ⟨k + 1, next + 1, Aa', Ab', Ac', ca', cb', cc', _, _, _, B', by go_num, by go_num, rfl, rfl, rfl, i2, HD, R4, C4⟩
        case measure => simp [intOf]; omega
      · obtain ⟨v, v0, v1, ev⟩ := less_of u 65536 u0 (by decide)
        obtain ⟨B', eB, RD'⟩ := RD.out.step i2 2 v (by decide) v0 v1
        have put1 := Lib.hid (put0.out 2 v B' v0 (by omega) eB)
        have HD := Lib.hid RD'
        clear eB RD' put0 u0 u1 v0 v1
        go_wp2_with fail
        refine put1.out.mono ?_
        rintro e w3 ⟨rfl, hb3, hc3⟩
        have R1 := Lib.hid (R0.out.put hb3 hc3)
        have C1 := Lib.hid (C0.out.trans (hc3.mono fun i _ hi => (show w1.heap.size ≤ i by rw [hi]; exact Nat.le_refl _)))
        clear hb3 hc3 put1
        go_wp2_with (first
          | (at_builtin; refine wpList_app_at rfl _ _ 41 rfl w1.heap.size 3 .i64 8 Try.underlying41 infoInt (.slice Aa k ca) x rfl (R1.out.alloc _).oa (some ⟨w3.heap.size, 0, none⟩) 1 1 [(next : Int)] rfl rfl (Own.lit w3 3 .i64 [(next : Int)] one_most).sl (fun h => by cases h) ?h63 ?hby ?hba ?_; (case h63 => unfold maxLen; omega); (case hby => omega); (case hba => exact (R1.out.alloc _).base_le); intro Aa' ca' na' w4 hn' ho4 hc4 hat4; obtain rfl : na' = k + 1 := (by omega); have R2 := Lib.hid ((R1.out.alloc _).appa ho4 hc4 hat4); have C2 := Lib.hid (own_mono (C1.out.trans (Chg.alloc _ _ _)) (R1.out.alloc _).oa hc4); clear hn' ho4 hc4 hat4)
          | (at_builtin; refine wpList_app_at rfl _ _ 41 rfl w1.heap.size 3 .i64 8 Try.underlying41 infoInt (.slice Ab k cb) y rfl (R2.out.alloc _).ob (some ⟨w4.heap.size, 0, none⟩) 1 1 [(2 : Int)] rfl rfl (Own.lit w4 3 .i64 [(2 : Int)] one_most).sl (fun h => by cases h) ?h63 ?hby ?hba ?_; (case h63 => unfold maxLen; omega); (case hby => omega); (case hba => exact (R2.out.alloc _).base_le); intro Ab' cb' nb' w5 hn' ho5 hc5 hat5; obtain rfl : nb' = k + 1 := (by omega); have R3 := Lib.hid ((R2.out.alloc _).appb ho5 hc5 hat5); have C3 := Lib.hid (own_mono (C2.out.trans (Chg.alloc _ _ _)) (R2.out.alloc _).ob hc5); clear hn' ho5 hc5 hat5)
          | (at_builtin; refine wpList_app_at rfl _ _ 40 rfl w1.heap.size 23 .u64 8 Try.underlying40 infoU64 (.slice Ac k cc) z rfl (R3.out.alloc _).oc (some ⟨w5.heap.size, 0, none⟩) 1 1 [v] rfl rfl (Own.lit w5 23 .u64 [v] one_most).sl (fun h => by cases h) ?h63 ?hby ?hba ?_; (case h63 => unfold maxLen; omega); (case hby => omega); (case hba => exact (R3.out.alloc _).base_le); intro Ac' cc' nc' w6 hn' ho6 hc6 hat6; obtain rfl : nc' = k + 1 := (by omega); have R4 := Lib.hid ((R3.out.alloc _).appc ho6 hc6 hat6); have C4 := Lib.hid (own_mono (C3.out.trans (Chg.alloc _ _ _)) (R3.out.alloc _).oc hc6); clear hn' ho6 hc6 hat6))
        go_round
        case rel => exact ⟨k + 1, next + 2, Aa', Ab', Ac', ca', cb', cc', _, _, _, B', by go_num, by go_num, rfl, rfl, rfl, i2, HD, R4, C4⟩
        case measure => simp [intOf]; omega
      · obtain ⟨v, v0, v1, ev⟩ := less_of u 4294967296 u0 (by decide)
        obtain ⟨B', eB, RD'⟩ := RD.out.step i2 4 v (by decide) v0 v1
        have put1 := Lib.hid (put0.out 4 v B' v0 (by omega) eB)
        have HD := Lib.hid RD'
        clear eB RD' put0 u0 u1 v0 v1
        go_wp2_with fail
        refine put1.out.mono ?_
        rintro e w3 ⟨rfl, hb3, hc3⟩
        have R1 := Lib.hid (R0.out.put hb3 hc3)
        have C1 := Lib.hid (C0.out.trans (hc3.mono fun i _ hi => (show w1.heap.size ≤ i by rw [hi]; exact Nat.le_refl _)))
        clear hb3 hc3 put1
        go_wp2_with (first
          | (at_builtin; refine wpList_app_at rfl _ _ 41 rfl w1.heap.size 3 .i64 8 Try.underlying41 infoInt (.slice Aa k ca) x rfl (R1.out.alloc _).oa (some ⟨w3.heap.size, 0, none⟩) 1 1 [(next : Int)] rfl rfl (Own.lit w3 3 .i64 [(next : Int)] one_most).sl (fun h => by cases h) ?h63 ?hby ?hba ?_; (case h63 => unfold maxLen; omega); (case hby => omega); (case hba => exact (R1.out.alloc _).base_le); intro Aa' ca' na' w4 hn' ho4 hc4 hat4; obtain rfl : na' = k + 1 := (by omega); have R2 := Lib.hid ((R1.out.alloc _).appa ho4 hc4 hat4); have C2 := Lib.hid (own_mono (C1.out.trans (Chg.alloc _ _ _)) (R1.out.alloc _).oa hc4); clear hn' ho4 hc4 hat4)
          | (at_builtin; refine wpList_app_at rfl _ _ 41 rfl w1.heap.size 3 .i64 8 Try.underlying41 infoInt (.slice Ab k cb) y rfl (R2.out.alloc _).ob (some ⟨w4.heap.size, 0, none⟩) 1 1 [(4 : Int)] rfl rfl (Own.lit w4 3 .i64 [(4 : Int)] one_most).sl (fun h => by cases h) ?h63 ?hby ?hba ?_; (case h63 => unfold maxLen; omega); (case hby => omega); (case hba => exact (R2.out.alloc _).base_le); intro Ab' cb' nb' w5 hn' ho5 hc5 hat5; obtain rfl : nb' = k + 1 := (by omega); have R3 := Lib.hid ((R2.out.alloc _).appb ho5 hc5 hat5); have C3 := Lib.hid (own_mono (C2.out.trans (Chg.alloc _ _ _)) (R2.out.alloc _).ob hc5); clear hn' ho5 hc5 hat5)
          | (at_builtin; refine wpList_app_at rfl _ _ 40 rfl w1.heap.size 23 .u64 8 Try.underlying40 infoU64 (.slice Ac k cc) z rfl (R3.out.alloc _).oc (some ⟨w5.heap.size, 0, none⟩) 1 1 [v] rfl rfl (Own.lit w5 23 .u64 [v] one_most).sl (fun h => by cases h) ?h63 ?hby ?hba ?_; (case h63 => unfold maxLen; omega); (case hby => omega); (case hba => exact (R3.out.alloc _).base_le); intro Ac' cc' nc' w6 hn' ho6 hc6 hat6; obtain rfl : nc' = k + 1 := (by omega); have R4 := Lib.hid ((R3.out.alloc _).appc ho6 hc6 hat6); have C4 := Lib.hid (own_mono (C3.out.trans (Chg.alloc _ _ _)) (R3.out.alloc _).oc hc6); clear hn' ho6 hc6 hat6))
        go_round
        case rel => exact ⟨k + 1, next + 4, Aa', Ab', Ac', ca', cb', cc', _, _, _, B', by go_num, by go_num, rfl, rfl, rfl, i2, HD, R4, C4⟩
        case measure => simp [intOf]; omega
      · obtain ⟨v, ev⟩ : ∃ v, u = v := ⟨_, rfl⟩
        subst ev
        obtain ⟨B', eB, RD'⟩ := RD.out.step i2 8 u (by decide) u0 u1
        have put1 := Lib.hid (put0.out 8 u B' u0 u1 eB)
        have HD := Lib.hid RD'
        clear eB RD' put0 u0 u1
        go_wp2_with fail
        refine put1.out.mono ?_
        rintro e w3 ⟨rfl, hb3, hc3⟩
        have R1 := Lib.hid (R0.out.put hb3 hc3)
        have C1 := Lib.hid (C0.out.trans (hc3.mono fun i _ hi => (show w1.heap.size ≤ i by rw [hi]; exact Nat.le_refl _)))
        clear hb3 hc3 put1
        go_wp2_with (first
          | (at_builtin; refine wpList_app_at rfl _ _ 41 rfl w1.heap.size 3 .i64 8 Try.underlying41 infoInt (.slice Aa k ca) x rfl (R1.out.alloc _).oa (some ⟨w3.heap.size, 0, none⟩) 1 1 [(next : Int)] rfl rfl (Own.lit w3 3 .i64 [(next : Int)] one_most).sl (fun h => by cases h) ?h63 ?hby ?hba ?_; (case h63 => unfold maxLen; omega); (case hby => omega); (case hba => exact (R1.out.alloc _).base_le); intro Aa' ca' na' w4 hn' ho4 hc4 hat4; obtain rfl : na' = k + 1 := (by omega); have R2 := Lib.hid ((R1.out.alloc _).appa ho4 hc4 hat4); have C2 := Lib.hid (own_mono (C1.out.trans (Chg.alloc _ _ _)) (R1.out.alloc _).oa hc4); clear hn' ho4 hc4 hat4)
          | (at_builtin; refine wpList_app_at rfl _ _ 41 rfl w1.heap.size 3 .i64 8 Try.underlying41 infoInt (.slice Ab k cb) y rfl (R2.out.alloc _).ob (some ⟨w4.heap.size, 0, none⟩) 1 1 [(8 : Int)] rfl rfl (Own.lit w4 3 .i64 [(8 : Int)] one_most).sl (fun h => by cases h) ?h63 ?hby ?hba ?_; (case h63 => unfold maxLen; omega); (case hby => omega); (case hba => exact (R2.out.alloc _).base_le); intro Ab' cb' nb' w5 hn' ho5 hc5 hat5; obtain rfl : nb' = k + 1 := (by omega); have R3 := Lib.hid ((R2.out.alloc _).appb ho5 hc5 hat5); have C3 := Lib.hid (own_mono (C2.out.trans (Chg.alloc _ _ _)) (R2.out.alloc _).ob hc5); clear hn' ho5 hc5 hat5)
          | (at_builtin; refine wpList_app_at rfl _ _ 40 rfl w1.heap.size 23 .u64 8 Try.underlying40 infoU64 (.slice Ac k cc) z rfl (R3.out.alloc _).oc (some ⟨w5.heap.size, 0, none⟩) 1 1 [u] rfl rfl (Own.lit w5 23 .u64 [u] one_most).sl (fun h => by cases h) ?h63 ?hby ?hba ?_; (case h63 => unfold maxLen; omega); (case hby => omega); (case hba => exact (R3.out.alloc _).base_le); intro Ac' cc' nc' w6 hn' ho6 hc6 hat6; obtain rfl : nc' = k + 1 := (by omega); have R4 := Lib.hid ((R3.out.alloc _).appc ho6 hc6 hat6); have C4 := Lib.hid (own_mono (C3.out.trans (Chg.alloc _ _ _)) (R3.out.alloc _).oc hc6); clear hn' ho6 hc6 hat6))
        go_round
        case rel => exact ⟨k + 1, next + 8, Aa', Ab', Ac', ca', cb', cc', _, _, _, B', by go_num, by go_num, rfl, rfl, rfl, i2, HD, R4, C4⟩
        case measure => simp [intOf]; omega
    · have hfin : (¬ k < l0.length) ∨ (k < l0.length ∧ ¬ k < l1.length) ∨ (k < l0.length ∧ k < l1.length ∧ ¬ k < 40) := by omega
      clear hin
      rcases hfin with i0 | ⟨i0, i1⟩ | ⟨i0, i1, i2⟩
      all_goals
        have G : Hid (∀ (p : Nat) (W : World) (a b c : Value), p < k → Rows3 W w1.heap.size w1.heap.size a b c x y z B → Calls Try.prog 11 #[.slice (some ⟨w1.heap.size, 0, none⟩) 400 400, .int .i64 (x.getD p 0), .int .i64 (y.getD p 0)] W fun e w' => e = .returned (.tuple #[.int .u64 (z.getD p 0), .int .i64 0]) ∧ w' = W) := fun p W a b c hp hr => by
          obtain ⟨f1, f2, f3, f4⟩ := RD.out.each p hp
          have := get_calls (some ⟨w1.heap.size, 0, none⟩) B 400 (x.getD p 0) (y.getD p 0) W hr.bf.sl RD.out.bytes (by rw [RD.out.len]; decide) (by decide) (by omega)
          rw [f4, RD.out.len] at this
          exact this.mono fun e w' ⟨h1, h2⟩ => ⟨h1, h2.symm⟩
        have EB := Lib.hid (B1.out.trans ((C0.out.below (Nat.le_refl _) fun b h => h).mono B1.out.size))
        clear b0 S0 S1 C0 nx
        go_wp2_with fail
        go_loopw [13] (fun i wr2 => ∃ m : Nat, m ≤ k ∧ i = .int .i64 ((m : Int) - 1) ∧ Hid (Dr _ wr2)) (fun i _ => ((intOf i) + 1).toNat)
        case atStart => exact ⟨k, Nat.le_refl _, rfl, Dr.refl _⟩
        case round =>
          obtain ⟨m, hm, rfl, DD⟩ := hrel
          cases m with
          | zero =>
            go_wp2
            go_ret
            exact ⟨rfl, EB.out.trans ((DD.out.chg fun _ => False).below EB.out.size fun _ h => h.elim)⟩
          | succ p =>
            have RR := Lib.hid (R0.out.draw DD.out)
            obtain ⟨ada, ea, ka⟩ := RR.out.oa.sl p (by rw [lx]; omega)
            obtain ⟨adb, eb, kb⟩ := RR.out.ob.sl p (by rw [ly]; omega)
            obtain ⟨adc, ec, kc⟩ := RR.out.oc.sl p (by rw [lz]; omega)
            subst ea eb ec
            have g1 := Lib.hid (G.out p)
            obtain ⟨a, e1⟩ : ∃ a, x.getD p 0 = a := ⟨_, rfl⟩
            obtain ⟨n, e2⟩ : ∃ n, y.getD p 0 = n := ⟨_, rfl⟩
            obtain ⟨v, e3⟩ : ∃ v, z.getD p 0 = v := ⟨_, rfl⟩
            rw [e1] at ka g1
            rw [e2] at kb g1
            rw [e3] at kc g1
            clear e1 e2 e3
            have hp : p < k := by omega
            have ep : ((p + 1 : Nat) : Int) - 1 = p := by omega
            rw [ep]
            clear ep
            go_wp2_with fail
            go_quiet ((go_at_call 11; exact Calls.quiet_of_same (g1.out _ _ _ _ hp (RR.out.draw ⟨_, rfl⟩))))
            go_wp2
            go_round
            case rel => exact ⟨p, by omega, rfl, DD.out.step _⟩
            case measure => simp [intOf]

end Go.Proofs.Ytfempngnapkhjaa.Codec
