/- Chapter 09's reference queue: Remove, Before. -/
import Derived.Test.YtfhffffdhlofgaaRefQ2
import Derived.Deep.RegionLaw
namespace Go.Proofs.Ytfhffffdhlofgaa.Links
open Go Go.RowKit Go.Proofs.Ytfhffffdhlofgaa.Mem Go.Proofs.Ytfhffffdhlofgaa.CodecPure Go.Proofs.Ytfhffffdhlofgaa.ArenaPure Go.Proofs.Ytfhffffdhlofgaa.Codec Go.Proofs.Ytfhffffdhlofgaa.Arena Go.Proofs.Ytfhffffdhlofgaa.Item
set_option linter.unusedVariables false
set_option maxRecDepth 100000
variable {C p : Nat} {w w' : World} {r : Ra} {s s' : St} {L L' : List Int}
theorem rbefore_calls (k : RQ C w r p s L) (hnd : L.Nodup) (x : Int) : Calls Try.prog 31 #[(.pointer (some ⟨p, 0, none⟩)), (.int .i64 x)] w fun e w' => e = .returned (.tuple #[.int .i64 (before L x).1, .bool (before L x).2]) ∧ Chg (fun _ => False) w w' := by
  have PL := rplace_calls k x
  have K := Lib.hid k
  have OP : Hid (∀ W, RQ C W r p s L → ∃ A c, W.cell? ⟨p, 1, none⟩ = some (.slice A L.length c) ∧ Sl W .i64 A L) := fun W k => by
    obtain ⟨A, c, -, h1, -, h2⟩ := k.open
    exact ⟨A, c, h1, h2.sl⟩
  unfold placeL at PL
  by_cases hb : x ∈ L
  · rw [if_pos hb] at PL
    have lt := List.idxOf_lt_length_iff.2 hb
    have BA := before_at hnd lt
    have ex : L.getD (L.idxOf x) 0 = x := by rw [List.getD_eq_getElem?_getD, List.getElem?_eq_getElem lt]; exact List.getElem_idxOf lt
    rw [ex] at BA
    rw [BA]
    have hm := k.most
    have hj : L.idxOf x < 1000000 := by omega
    generalize L.idxOf x = j at PL lt hj ⊢
    clear ex BA hb k hnd
    replace lt := Lib.hid lt
    by_cases h0 : 0 < j
    · rw [if_pos h0]
      obtain ⟨q, hq⟩ : ∃ q, j = q + 1 := ⟨j - 1, by omega⟩
      have e1 : (j : Int) - 1 = q := by omega
      have h0' : ¬ (j : Int) < 1 := by omega
      rw [show j - 1 = q from by omega]
      obtain ⟨y, hy⟩ : ∃ y, L.getD q 0 = y := ⟨_, rfl⟩
      rw [hy]
      replace hy := Lib.hid hy
      replace PL := Lib.hid PL
      replace hq := Lib.hid hq
      go_enter Try.func31, Try.ntmps31
      go_wp2_with fail
      refine PL.out.mono ?_
      rintro e w1 ⟨rfl, hc⟩
      obtain ⟨A, c, d1, ds⟩ := OP.out w1 (K.out.fresh hc)
      obtain ⟨ad, rfl, e0⟩ := ds q (by have := lt.out; have := hq.out; omega)
      have ql : (q : Int) < L.length := by have := lt.out; have := hq.out; omega
      replace hc := Lib.hid hc
      rw [hy.out] at e0
      generalize L.length = n at d1 ql hm
      clear ds PL
      go_wp2_with fail
      go_ret2
      exact ⟨rfl, hc.out⟩
    · rw [if_neg h0]
      have h0' : (j : Int) < 1 := by omega
      replace PL := Lib.hid PL
      go_enter Try.func31, Try.ntmps31
      go_wp2_with fail
      refine PL.out.mono ?_
      rintro e w1 ⟨rfl, hc⟩
      replace hc := Lib.hid hc
      go_wp2_with fail
      go_ret2
      exact ⟨rfl, hc.out⟩
  · rw [if_neg hb] at PL
    have BA : before L x = (0, false) := by unfold before; rw [if_neg fun h => hb h.1]
    rw [BA]
    replace PL := Lib.hid PL
    clear k hnd hb BA
    go_enter Try.func31, Try.ntmps31
    go_wp2_with fail
    refine PL.out.mono ?_
    rintro e w1 ⟨rfl, hc⟩
    replace hc := Lib.hid hc
    go_wp2_with fail
    go_ret2
    exact ⟨rfl, hc.out⟩
set_option maxHeartbeats 1000000 in
theorem rremove_calls (k : RQ C w r p s L) (x : Int) (hi : I64 x) : Calls Try.prog 28 #[(.pointer (some ⟨p, 0, none⟩)), (.int .i64 x)] w (RQok C w r p (rremoved s L x)) := by
  have PL := rplace_calls k x
  have K := Lib.hid k
  unfold rremoved
  unfold placeL at PL
  by_cases hb : x ∈ L
  · rw [if_pos hb] at PL ⊢
    have lt := List.idxOf_lt_length_iff.2 hb
    have EE := erase_idx hb
    generalize L.idxOf x = j at PL lt EE
    rw [EE]
    have OP : Hid (∀ W, RQ C W r p s L → ∃ A c, W.cell? ⟨p, 1, none⟩ = some (.slice A L.length c) ∧ W.heap[p]? = some (.cells #[(.pointer (some ⟨r.g, 0, none⟩)), .slice A L.length c] 50 (0, 0)) ∧ Mem.Own W C 3 .i64 (.slice A L.length c) L ∧ p < W.heap.size ∧ C ≤ W.heap.size) := fun W k => by
      obtain ⟨A, c, -, h1, h2, h3⟩ := k.open
      exact ⟨A, c, h1, h2, h3, Nat.lt_of_lt_of_le k.lo.2.2.2.1 k.lo.2.2.2.2, k.lo.2.2.2.2⟩
    obtain ⟨q, hq⟩ : ∃ q, j + 1 + q = L.length := ⟨L.length - (j + 1), by omega⟩
    have hm := k.most
    have IX : Hid (∀ y ∈ L.take j ++ L.drop (j + 1), I64 y) := fun y hy => by
      rcases List.mem_append.1 hy with hy | hy
      · exact k.i64 y (List.mem_of_mem_take hy)
      · exact k.i64 y (List.mem_of_mem_drop hy)
    have t1 : (L.take j).length = j := by rw [List.length_take]; omega
    have t2 : (L.drop (j + 1)).length = q := by rw [List.length_drop]; omega
    obtain ⟨n, hn⟩ : ∃ n, L.length = n := ⟨_, rfl⟩
    rw [hn] at hq hm OP
    replace lt := Lib.hid lt
    replace t1 := Lib.hid t1
    replace t2 := Lib.hid t2
    replace PL := Lib.hid PL
    replace EE := Lib.hid EE
    replace hn := Lib.hid hn
    have hqm : j + 1 + q ≤ 1000000 := by omega
    replace hq := Lib.hid hq
    clear k hb
    have jq := hq.out
    have j1 : (j : Int) ≤ n := by omega
    clear jq
    go_enter Try.func28, Try.ntmps28
    go_wp2_with fail
    refine PL.out.mono ?_
    rintro e w1 ⟨rfl, hc⟩
    have K1 := Lib.hid (K.out.fresh hc)
    replace hc := Lib.hid hc
    obtain ⟨A, c, c1, hb, ho, lt1, lC⟩ := OP.out w1 K1.out
    obtain ⟨S1, d1, run1, sl1, nil1⟩ := slice_to Try.underlying30 elem_int ho j (by have := lt.out; omega)
    obtain ⟨S2, d2, run2, sl2, nil2⟩ := slice_from Try.underlying30 elem_int ho (j + 1) q (by rw [hn.out]; exact hq.out)
    obtain ⟨j2, hj2⟩ : ∃ j2, j + 1 = j2 := ⟨_, rfl⟩
    rw [hj2] at run2
    have wj : IntKind.i64.wrap ((j : Int) + 1) = j2 := by rw [IntWalk.i64_in _ (by omega)]; omega
    replace hj2 := Lib.hid hj2
    have ST := Lib.hid (fun (W : World) (A' : Option Addr) (n' c' : Nat) => K1.out.store (W := W) (A := A') (n := n') (c := c') (L' := L.take j ++ L.drop (j + 1)))
    replace sl1 := Lib.hid sl1
    replace sl2 := Lib.hid sl2
    replace nil1 := Lib.hid nil1
    replace nil2 := Lib.hid nil2
    replace hb := Lib.hid hb
    clear ho PL
    have W0 : Hid (Chg (fun b => w1.heap.size ≤ b) w1 (w1.alloc (.cells #[] 3)).drew) := (Chg.alloc _ _ _).trans (Chg.drew _ _)
    have O0 : Hid (Mem.Own (w1.alloc (.cells #[] 3)).drew w1.heap.size 3 .i64 (.slice (some ⟨w1.heap.size, 0, none⟩) 0 0) []) := (Mem.Own.lit w1 3 .i64 [] (show 0 ≤ maxLen by decide)).chg (Chg.drew (fun _ => False) _) fun _ _ => id
    have Z0 : Hid (w1.heap.size ≤ (w1.alloc (.cells #[] 3)).drew.heap.size) := W0.out.size
    go_wp2_with fail
    go_region_law
      (first
        | (refine step_app (by rfl) _ _ 30 (by rfl) w1.heap.size 3 .i64 8 Try.underlying30 infoInt (.slice (some ⟨w1.heap.size, 0, none⟩) 0 0) [] (by rfl) O0.out S1 _ d1 (L.take j) (by rfl) t1.out (sl1.out.later W0.out (Nat.le_refl _)) nil1.out (by unfold maxLen; simp; omega) (by simp; omega) Z0.out ?_; intro A6 c6 n6 w6 hn6 hown6 hchg6; obtain rfl : j = n6 := (by rw [hn6]; simp); have O6 : Hid (Mem.Own w6 w1.heap.size 3 .i64 (.slice A6 j c6) (L.take j)) := hown6; have K6 : Hid (Chg (fun b => w1.heap.size ≤ b) w1 w6) := (W0.out.trans hchg6); have g1 : w6.cell? ⟨p, 1, none⟩ = some (.slice A n c) := (K6.out.cell c1 (show ¬ w1.heap.size ≤ p by omega)); clear hn6 hown6 hchg6; skip)
        | (refine step_app (by rfl) _ _ 30 (by rfl) w1.heap.size 3 .i64 8 Try.underlying30 infoInt (.slice A6 j c6) (L.take j) (by rfl) O6.out S2 _ d2 (L.drop (j + 1)) (by rfl) t2.out (sl2.out.later K6.out (Nat.le_refl _)) nil2.out (by rw [t1.out]; unfold maxLen; omega) (by rw [t1.out]; omega) (by exact K6.out.size) ?_; intro A8 c8 n8 w8 hn8 hown8 hchg8; have hn8' : Hid (n8 = j + q) := (by rw [hn8, t1.out]; exact rfl); have O8 : Hid (Mem.Own w8 w1.heap.size 3 .i64 (.slice A8 n8 c8) (L.take j ++ L.drop (j + 1))) := hown8; have K8 : Hid (Chg (fun b => w1.heap.size ≤ b) w1 w8) := (K6.out.trans hchg8); have hb8 := (K8.out.keep hb.out (show ¬ w1.heap.size ≤ p by omega)); have g2 : w8.cell? ⟨p, 1, none⟩ = some (.slice A n c) := (by rw [blk_cell hb8]; rfl); have g3 := blk_frozen hb8 1; clear hn8 hown8 hchg8 hb8; skip))
    all_goals
      have tl : (L.take j ++ L.drop (j + 1)).length = j + q := by rw [List.length_append, t1.out, t2.out]
      obtain ⟨k9, C9⟩ := ST.out w8 A8 n8 c8 K8.out (O8.out.mono lC) (by rw [tl]; exact hn8'.out) IX.out (by rw [tl]; omega)
      have GC : Hid (∀ W s', RQ C W r p s' (L.take j ++ L.drop (j + 1)) → W.cell? ⟨p, 0, none⟩ = some (.pointer (some ⟨r.g, 0, none⟩))) := fun W s' k => k.open.choose_spec.choose_spec.1
      clear g1 g2 g3 tl run1 run2 c1
      have C9' : Hid (Chg (fun y => r.has y ∨ y = p) w (w8.setCell ⟨p, 1, none⟩ (.slice A8 n8 c8))) := (hc.out.mono fun _ _ h => h.elim).trans (C9.mono fun _ _ h => .inr h)
      have K9 := Lib.hid k9
      clear k9 C9
      generalize w8.setCell ⟨p, 1, none⟩ (.slice A8 n8 c8) = w9 at K9 C9' ⊢
      have d0 := GC.out w9 s K9.out
      have SA := Lib.hid (refset_calls K9.out.ref x 1 (-1) hi (by decide))
      go_wp2_with fail
      refine SA.out.mono ?_
      rintro e w10 ⟨rfl, l10, c10⟩
      have K10 := Lib.hid (K9.out.arena l10 c10)
      have C10 : Hid (Chg (fun y => r.has y ∨ y = p) w w10) := C9'.out.trans (c10.mono fun _ _ h => .inl h)
      have SB := Lib.hid (refset_calls l10 x 2 (-1) hi (by decide))
      clear l10 c10 SA d0
      have d0 := GC.out w10 _ K10.out
      generalize (itemSet s x 1 (-1)).2 = er1
      go_wp2_with fail
      refine SB.out.mono ?_
      rintro e w11 ⟨rfl, l11, c11⟩
      have K11 := Lib.hid (K10.out.arena l11 c11)
      have C11 : Hid (Chg (fun y => r.has y ∨ y = p) w w11) := C10.out.trans (c11.mono fun _ _ h => .inl h)
      clear l11 c11 SB d0
      generalize (itemSet (itemSet s x 1 (-1)).1 x 2 (-1)).2 = er2
      go_wp2_with fail
      refine (rlay_calls K11.out).mono ?_
      rintro e w12 ⟨rfl, k12, c12⟩
      have F : Hid (RQok C w r p (relay (unlink s x) (L.take j ++ L.drop (j + 1)), L.take j ++ L.drop (j + 1), 0) (.returned (.int .i64 0)) w12) := ⟨rfl, k12, C11.out.trans (c12.mono fun _ _ h => .inl h)⟩
      clear k12 c12
      go_wp2_with fail
      go_ret
      exact F.out
  · rw [if_neg hb] at PL ⊢
    replace PL := Lib.hid PL
    clear k hb
    go_enter Try.func28, Try.ntmps28
    go_wp2_with fail
    refine PL.out.mono ?_
    rintro e w1 ⟨rfl, hc⟩
    have F : Hid (RQok C w r p (s, L, 3) (.returned (.int .i64 3)) w1) := ⟨rfl, K.out.fresh hc, hc.mono fun _ _ h => h.elim⟩
    clear hc
    go_wp2_with fail
    go_ret
    exact F.out
end Go.Proofs.Ytfhffffdhlofgaa.Links
