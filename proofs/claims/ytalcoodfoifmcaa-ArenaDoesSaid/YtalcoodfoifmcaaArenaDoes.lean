/- The walk of the law ArenaDoes: it returns true at any number of pages and any acts. -/
import Derived.Test.YtalcoodfoifmcaaArenaTwo
import Derived.Deep.CutBlock
namespace Go.Proofs.Ytalcoodfoifmcaa.Arena
open Go Go.RowKit Go.Proofs.Ytalcoodfoifmcaa.Mem Go.Proofs.Ytalcoodfoifmcaa.CodecPure Go.Proofs.Ytalcoodfoifmcaa.ArenaPure Go.Proofs.Ytalcoodfoifmcaa.Codec
set_option linter.unusedVariables false
theorem Two.start {w w1 w2 : World} {a : Ar} {r : Ra} {s : St} (hl : Lies w1 a s) (hc : Chg (fun _ => False) w w1) (h1 : w.heap.size ≤ a.g) (h2 : w.heap.size ≤ a.ps) (h3 : ∀ b ∈ a.pb, w.heap.size ≤ b) (h4 : ∀ b ∈ a.pb, b < w1.heap.size) (h5 : a.ps < w1.heap.size)
    (hr : RLies w2 r s) (hc2 : Chg (fun _ => False) w1 w2) (g1 : w1.heap.size ≤ r.g) (g2 : w1.heap.size ≤ r.o) (g3 : w1.heap.size ≤ r.b) : Two w.heap.size w w2 a r s s := by
  have z := hc.size
  have zg := blk_lt hl.head
  have far : ∀ x, w1.heap.size ≤ x → x ≠ a.g ∧ x ≠ a.ps ∧ x ∉ a.pb := fun x hx => ⟨by omega, by omega, fun hb => by have := h4 x hb; omega⟩
  refine ⟨⟨hl.chg hc2 id id fun _ _ => id, (hc.trans hc2).mono fun _ _ h => h.elim, h1, h2, h3⟩, hr, ⟨by omega, by omega, by omega⟩, fun x hx => ?_⟩
  rcases hx with rfl | rfl | rfl
  · exact far _ g1
  · exact far _ g2
  · exact far _ g3
theorem does_no (pages : Int) (A0 : Option Addr) (c0 : Nat) (n0 : Nat) (w : World) (h : pages < 1 ∨ 32 < pages) :
    Calls Try.prog 7 #[(.int .i64 pages), .slice A0 n0 c0] w fun e w' => e = .returned (.bool true) ∧ Below w.heap.size w w' := by
  go_enter Try.func7, Try.ntmps7
  go_wp2_with fail
  refine (new_calls pages w).mono ?_
  rintro e w1 hn
  rcases hn with ⟨_, rfl, rfl⟩ | ⟨h1, h2, _⟩
  · go_wp2_with fail
    refine (refnew_calls pages w).mono ?_
    rintro e w1 hn
    rcases hn with ⟨_, rfl, rfl⟩ | ⟨h1, h2, _⟩
    · clear h
      go_wp2
      go_ret
      exact ⟨rfl, Below.refl _ _⟩
    · omega
  · omega
set_option maxHeartbeats 4000000 in
set_option maxRecDepth 100000 in
theorem does_walk (pages : Int) (A2 : Option Addr) (c2 : Nat) (l2 : List Op5) (w : World) (w1 : (Lit.int .i64 pages).wf = true) (h2 : ORow w A2 c2 l2) :
    Calls Try.prog 7 #[(.int .i64 pages), .slice A2 l2.length c2] w fun e w' => e = .returned (.bool true) ∧ Below w.heap.size w w' := by
  by_cases hp : pages < 1 ∨ 32 < pages
  · exact does_no pages A2 c2 l2.length w hp
  have hm2 : l2.length ≤ 9223372036854775807 := Nat.le_trans h2.cap h2.most
  have HO := Lib.hid h2
  clear w1 h2
  go_enter Try.func7, Try.ntmps7
  go_wp2_with fail
  refine (new_calls pages w).mono ?_
  rintro e wa hn
  rcases hn with ⟨hq, _⟩ | ⟨_, _, a, rfl, hl, hc, k1, k2, k3, k4, k5⟩
  · exact absurd hq hp
  have K := Lib.hid (fun (w2 : World) (r : Ra) (hr : RLies w2 r (new pages.toNat)) (hc2 : Chg (fun _ => False) wa w2) (g1 : wa.heap.size ≤ r.g) (g2 : wa.heap.size ≤ r.o) (g3 : wa.heap.size ≤ r.b) => Two.start hl hc k1 k2 k3 k4 k5 hr hc2 g1 g2 g3)
  clear hl hc k1 k2 k3 k4 k5
  go_wp2_with fail
  refine (refnew_calls pages wa).mono ?_
  rintro e wb hn
  rcases hn with ⟨hq, _⟩ | ⟨_, _, r, rfl, hr, hc2, g1, g2, g3⟩
  · exact absurd hq hp
  have H0 := Lib.hid (K.out wb r hr hc2 g1 g2 g3)
  clear hr hc2 g1 g2 g3 K hp
  go_wp2
  go_loopg [9] 60 (fun g i wr => ∃ (k : Nat) (s : St), i = .int .i64 k ∧ g = 60 - k ∧ Hid (Two w.heap.size w wr a r s s) ∧ k ≤ 60 ∧ k ≤ l2.length)
  case atStart => exact ⟨0, _, rfl, rfl, H0.out, by omega, by omega⟩
  case round =>
    obtain ⟨k, s, rfl, hg, H5, hk1, hk2⟩ := hrel
    obtain ⟨wo, rfl⟩ : ∃ wo : World, wo = wr := ⟨_, rfl⟩
    have hg2 := Lib.hid hg
    clear hg
    by_cases hlt2 : k < l2.length ∧ k < 60
    · obtain ⟨h1, h2⟩ := hlt2
      have h1' : (k : Int) < l2.length := by omega
      have h2' : (k : Int) < 60 := by omega
      have OR := HO.out.chg H5.out.here.chg (Nat.le_refl _)
      obtain ⟨ad, rfl, d0, d1, d2, d3, d4⟩ := OR.fields k h1
      obtain ⟨ad', e', -, -, -, -, -, -, f1, f2, f3, f4⟩ := OR.op k h1
      cases e'
      have FA : Hid (∀ ad, (l2.getD k Op5.none).A = some ad → (l2.getD k Op5.none).b ≠ [] → ad.block < w.heap.size) := fun ad e hne => by
        obtain ⟨_, _, _, _, _, _, _, _, _, _, _, r0⟩ := HO.out.op k h1
        obtain ⟨ad2, e2, c2⟩ := r0.sl 0 (List.length_pos_iff.2 hne)
        rw [e] at e2
        cases e2
        have := World.block_lt_of_cell? w _ c2
        rw [add_block] at this
        exact this
      have S0 : Hid (Sl w .u8 (l2.getD k Op5.none).A (l2.getD k Op5.none).b) := by
        obtain ⟨_, _, _, _, _, _, _, _, _, _, _, r0⟩ := HO.out.op k h1
        exact r0.sl
      clear OR
      generalize l2.getD k Op5.none = op at d0 d1 d2 d3 d4 f1 f2 f3 f4 FA S0
      obtain ⟨f10, f11⟩ := bounds_i64 f1
      obtain ⟨f20, f21⟩ := bounds_i64 f2
      obtain ⟨f30, f31⟩ := bounds_u64 f3
      have f31' : op.v < 18446744073709551616 := by omega
      have F4 := Lib.hid f4
      have H6 := Lib.hid (H5.out.fresh (Chg.alloc _ wo (.cells #[.int .i64 op.kind, .int .i64 op.at_, .int .i64 op.n, .int .u64 op.v, .slice op.A op.b.length op.c] 36)))
      have FB : Hid ((wo.alloc (.cells #[.int .i64 op.kind, .int .i64 op.at_, .int .i64 op.n, .int .u64 op.v, .slice op.A op.b.length op.c] 36)).heap[wo.heap.size]? = some (.cells #[.int .i64 op.kind, .int .i64 op.at_, .int .i64 op.n, .int .u64 op.v, .slice op.A op.b.length op.c] 36 (0, 0))) := heap_alloc_at _ _
      have NT := Lib.hid (H5.out.not2 wo.heap.size (Nat.le_refl _))
      clear f1 f2 f3 f4
      have hob : op.b.length ≤ 9223372036854775807 := Nat.le_trans F4.out.cap F4.out.most
      by_cases e5 : 5000 < op.b.length
      · have F : Hid (Below w.heap.size w (wo.alloc (.cells #[.int .i64 op.kind, .int .i64 op.at_, .int .i64 op.n, .int .u64 op.v, .slice op.A op.b.length op.c] 36))) := H6.out.here.below (Nat.le_refl _)
        have e5' : (5000 : Int) < op.b.length := by omega
        go_wp2
        go_ret
        exact ⟨rfl, F.out⟩
      have e5' : (op.b.length : Int) ≤ 5000 := by omega
      go_upto_block 2 with fail
      go_cut [] (fun wx => ∃ s' : St, Hid (Two w.heap.size w wx a r s' s') ∧ Hid (wx.heap[wo.heap.size]? = some (.cells #[.int .i64 op.kind, .int .i64 op.at_, .int .i64 op.n, .int .u64 op.v, .slice op.A op.b.length op.c] 36 (0, 0))))
      case first =>
        by_cases e0 : op.kind = 0
        · have t0 : (op.kind == 0) = true := by rw [e0]; rfl
          clear e0
          have dK0 := H6.out.grant op.n
          have dK1 := Lib.hid dK0
          clear dK0
          go_wp2_with fail
          refine dK1.out.mono ?_
          rintro e w5 ⟨rfl, hnew, hc⟩
          have H7 := Lib.hid hnew
          clear hnew dK1
          have F7 := Lib.hid (hc.keep FB.out NT.out)
          clear hc
          have g2 : w5.cell? ⟨wo.heap.size, 2, none⟩ = some (.int .i64 op.n) := by rw [blk_cell F7.out]; rfl
          have dK0 := H7.out.rgrant op.n
          have dK1 := Lib.hid dK0
          clear dK0
          go_wp2_with fail
          refine dK1.out.mono ?_
          rintro e w6 ⟨rfl, hnew, hc⟩
          have H8 := Lib.hid hnew
          clear hnew dK1
          have F8 := Lib.hid (hc.keep F7.out NT.out)
          clear hc g2
          go_wp2_with fail
          go_meet
          exact ⟨_, H8.out, F8.out⟩
        · have t0 : (op.kind == 0) = false := by rw [beq_eq_false_iff_ne]; exact e0
          clear e0
          by_cases e1 : op.kind = 1
          · have t1 : (op.kind == 1) = true := by rw [e1]; rfl
            clear e1
            go_wp2_with fail
            go_region_held3 (fun w' => w'.cell? ⟨wo.heap.size, 2, none⟩ = some (.int .i64 op.n)) (go_keep)
              (first
                | (go_at_call 13; refine ((H6.out.fresh (Chg.drew _ _)).ret op.n).mono ?_; rintro e w5 ⟨rfl, hnew, hc⟩; have H7 := Lib.hid hnew; have F7 := Lib.hid (hc.keep (w := World.drew _) FB.out NT.out); clear hnew hc; have g2 : w5.cell? ⟨wo.heap.size, 2, none⟩ = some (.int .i64 op.n) := (by rw [blk_cell F7.out]; rfl); skip)
                | (go_at_call 18; refine (H7.out.rret op.n).mono ?_; rintro e w6 ⟨rfl, hnew, hc⟩; have H8 := Lib.hid hnew; have F8 := Lib.hid (hc.keep F7.out NT.out); clear hnew hc; have g2 : w6.cell? ⟨wo.heap.size, 2, none⟩ = some (.int .i64 op.n) := (by rw [blk_cell F8.out]; rfl); skip))
            go_wp2_with fail
            go_meet
            exact ⟨_, H8.out, F8.out⟩
          · have t1 : (op.kind == 1) = false := by rw [beq_eq_false_iff_ne]; exact e1
            clear e1
            by_cases e2 : op.kind = 2
            · have t2 : (op.kind == 2) = true := by rw [e2]; rfl
              clear e2
              have WE : Hid (Chg (fun _ => False) (wo.alloc (.cells #[.int .i64 op.kind, .int .i64 op.at_, .int .i64 op.n, .int .u64 op.v, .slice op.A op.b.length op.c] 36)) ((wo.alloc (.cells #[.int .i64 op.kind, .int .i64 op.at_, .int .i64 op.n, .int .u64 op.v, .slice op.A op.b.length op.c] 36)).alloc (.cells #[] 5)).drew) := (Chg.alloc _ _ _).trans (Chg.drew _ _)
              have OE : Hid (Own ((wo.alloc (.cells #[.int .i64 op.kind, .int .i64 op.at_, .int .i64 op.n, .int .u64 op.v, .slice op.A op.b.length op.c] 36)).alloc (.cells #[] 5)).drew (wo.heap.size + 1) 5 .u8 (.slice (some ⟨wo.heap.size + 1, 0, none⟩) 0 0) []) := by
                have := Own.lit (wo.alloc (.cells #[.int .i64 op.kind, .int .i64 op.at_, .int .i64 op.n, .int .u64 op.v, .slice op.A op.b.length op.c] 36)) 5 .u8 [] (Nat.zero_le _)
                have e : (wo.alloc (.cells #[.int .i64 op.kind, .int .i64 op.at_, .int .i64 op.n, .int .u64 op.v, .slice op.A op.b.length op.c] 36)).heap.size = wo.heap.size + 1 := by simp
                rw [e] at this
                exact this.chg (S := fun _ => False) (Chg.drew _ _) fun _ _ => id
              have SZ : Hid (wo.heap.size + 1 ≤ ((wo.alloc (.cells #[.int .i64 op.kind, .int .i64 op.at_, .int .i64 op.n, .int .u64 op.v, .slice op.A op.b.length op.c] 36)).alloc (.cells #[] 5)).drew.heap.size) := by
                show wo.heap.size + 1 ≤ ((wo.alloc _).alloc _).heap.size
                simp
              have SE : Hid (Sl ((wo.alloc (.cells #[.int .i64 op.kind, .int .i64 op.at_, .int .i64 op.n, .int .u64 op.v, .slice op.A op.b.length op.c] 36)).alloc (.cells #[] 5)).drew .u8 op.A op.b) := S0.out.later ((H6.out.fresh WE.out).here.chg) (Nat.le_refl _)
              have NE : Hid (op.A = none → op.c = 0) := fun e => (F4.out.nil e).2
              have HE := Lib.hid (H6.out.fresh WE.out)
              have FE := Lib.hid (WE.out.keep FB.out id)
              have BE : Hid (Bytes op.b) := fun x hx => bounds_u8 (F4.out.wf x hx)
              have RL := Lib.hid H5.out.low
              have RF : Hid (op.b ≠ [] → ∀ ad, op.A = some ad → ¬ r.has ad.block) := fun hne ad e h => by
                have := FA.out ad e hne
                have := RL.out
                rcases h with h | h <;> omega
              go_wp2_with fail
              go_region_held3 (fun w' => w'.cell? ⟨wo.heap.size, 1, none⟩ = some (.int .i64 op.at_) ∧ w'.cell? ⟨wo.heap.size, 4, none⟩ = some (.slice op.A op.b.length op.c)) (go_keep)
                (first
                  | (refine step_app (by rfl) _ _ 22 (by rfl) (wo.heap.size + 1) 5 .u8 1 Try.underlying22 infoByte (.slice (some ⟨wo.heap.size + 1, 0, none⟩) 0 0) [] (by rfl) (OE.out) op.A op.b.length op.c op.b (by rfl) rfl SE.out NE.out (by unfold maxLen; simp; omega) (by simp; omega) SZ.out ?_; intro A' c' n' w4 hn' hown hchg; obtain rfl : n' = op.b.length := (by simpa using hn'); have O4 : Hid (Own w4 (wo.heap.size + 1) 5 .u8 (.slice A' op.b.length c') op.b) := hown; have H6b := Lib.hid (H6.out.fresh (((WE.out.mono (fun _ _ h => h.elim)).trans hchg).mono (T := fun _ => False) (fun i h1 h2 => by simp at h1; omega))); have F6b := Lib.hid (hchg.keep FE.out (by omega)); clear hn' hown hchg; have g1 : w4.cell? ⟨wo.heap.size, 1, none⟩ = some (.int .i64 op.at_) := (by rw [blk_cell F6b.out]; rfl); have g4 : w4.cell? ⟨wo.heap.size, 4, none⟩ = some (.slice op.A op.b.length op.c) := (by rw [blk_cell F6b.out]; rfl); skip)
                  | (go_at_call 11; refine (H6b.out.write op.at_ A' c' op.b O4.out.sl BE.out (by omega) ⟨f10, f11⟩).mono ?_; rintro e w5 ⟨rfl, hnew, hc⟩; have H7 := Lib.hid hnew; have HO2 : Hid (Sl w5 .u8 op.A op.b) := S0.out.later H7.out.here.chg (Nat.le_refl _); have F7 := Lib.hid (hc.keep F6b.out NT.out); clear hnew hc; have g1 : w5.cell? ⟨wo.heap.size, 1, none⟩ = some (.int .i64 op.at_) := (by rw [blk_cell F7.out]; rfl); have g4 : w5.cell? ⟨wo.heap.size, 4, none⟩ = some (.slice op.A op.b.length op.c) := (by rw [blk_cell F7.out]; rfl); skip)
                  | (go_at_call 19; refine (H7.out.rwrite op.at_ op.A op.c op.b (HO2.out) BE.out RF.out (by omega) ⟨f10, f11⟩).mono ?_; rintro e w6 ⟨rfl, hnew, hc⟩; have H8 := Lib.hid hnew; have F8 := Lib.hid (hc.keep F7.out NT.out); clear hnew hc; have g1 : w6.cell? ⟨wo.heap.size, 1, none⟩ = some (.int .i64 op.at_) := (by rw [blk_cell F8.out]; rfl); have g4 : w6.cell? ⟨wo.heap.size, 4, none⟩ = some (.slice op.A op.b.length op.c) := (by rw [blk_cell F8.out]; rfl); skip))
              go_wp2_with fail
              go_meet
              exact ⟨_, H8.out, F8.out⟩
            · have t2 : (op.kind == 2) = false := by rw [beq_eq_false_iff_ne]; exact e2
              clear e2
              by_cases e3 : op.kind = 3
              · have t3 : (op.kind == 3) = true := by rw [e3]; rfl
                clear e3
                go_wp2_with fail
                go_region_held3 (fun w' => w'.cell? ⟨wo.heap.size, 1, none⟩ = some (.int .i64 op.at_) ∧ w'.cell? ⟨wo.heap.size, 2, none⟩ = some (.int .i64 op.n) ∧ w'.cell? ⟨wo.heap.size, 3, none⟩ = some (.int .u64 op.v)) (go_keep)
                  (first
                    | (go_at_call 20; refine ((H6.out.fresh (Chg.drew _ _)).setnumber op.at_ op.n op.v ⟨f10, f11⟩ f30 f31').mono ?_; rintro e w5 ⟨rfl, hnew, hc⟩; have H7 := Lib.hid hnew; have F7 := Lib.hid (hc.keep (w := World.drew _) FB.out NT.out); clear hnew hc; have g1 : w5.cell? ⟨wo.heap.size, 1, none⟩ = some (.int .i64 op.at_) := (by rw [blk_cell F7.out]; rfl); have g2 : w5.cell? ⟨wo.heap.size, 2, none⟩ = some (.int .i64 op.n) := (by rw [blk_cell F7.out]; rfl); have g3 : w5.cell? ⟨wo.heap.size, 3, none⟩ = some (.int .u64 op.v) := (by rw [blk_cell F7.out]; rfl); skip)
                    | (go_at_call 21; refine (H7.out.rsetnumber op.at_ op.n op.v ⟨f10, f11⟩ f30 f31').mono ?_; rintro e w6 ⟨rfl, hnew, hc⟩; have H8 := Lib.hid hnew; have F8 := Lib.hid (hc.keep F7.out NT.out); clear hnew hc; have g1 : w6.cell? ⟨wo.heap.size, 1, none⟩ = some (.int .i64 op.at_) := (by rw [blk_cell F8.out]; rfl); have g2 : w6.cell? ⟨wo.heap.size, 2, none⟩ = some (.int .i64 op.n) := (by rw [blk_cell F8.out]; rfl); have g3 : w6.cell? ⟨wo.heap.size, 3, none⟩ = some (.int .u64 op.v) := (by rw [blk_cell F8.out]; rfl); skip))
                go_wp2_with fail
                go_meet
                exact ⟨_, H8.out, F8.out⟩
              · have t3 : (op.kind == 3) = false := by rw [beq_eq_false_iff_ne]; exact e3
                clear e3
                go_wp2_with fail
                go_region_held3 (fun w' => w'.cell? ⟨wo.heap.size, 1, none⟩ = some (.int .i64 op.at_) ∧ w'.cell? ⟨wo.heap.size, 2, none⟩ = some (.int .i64 op.n)) (go_keep)
                  (first
                    | (go_at_call 22; refine ((H6.out.fresh (Chg.drew _ _)).setplace op.at_ op.n ⟨f10, f11⟩ ⟨f20, f21⟩).mono ?_; rintro e w5 ⟨rfl, hnew, hc⟩; have H7 := Lib.hid hnew; have F7 := Lib.hid (hc.keep (w := World.drew _) FB.out NT.out); clear hnew hc; have g1 : w5.cell? ⟨wo.heap.size, 1, none⟩ = some (.int .i64 op.at_) := (by rw [blk_cell F7.out]; rfl); have g2 : w5.cell? ⟨wo.heap.size, 2, none⟩ = some (.int .i64 op.n) := (by rw [blk_cell F7.out]; rfl); skip)
                    | (go_at_call 23; refine (H7.out.rsetplace op.at_ op.n ⟨f10, f11⟩ ⟨f20, f21⟩).mono ?_; rintro e w6 ⟨rfl, hnew, hc⟩; have H8 := Lib.hid hnew; have F8 := Lib.hid (hc.keep F7.out NT.out); clear hnew hc; have g1 : w6.cell? ⟨wo.heap.size, 1, none⟩ = some (.int .i64 op.at_) := (by rw [blk_cell F8.out]; rfl); have g2 : w6.cell? ⟨wo.heap.size, 2, none⟩ = some (.int .i64 op.n) := (by rw [blk_cell F8.out]; rfl); skip))
                go_wp2_with fail
                go_meet
                exact ⟨_, H8.out, F8.out⟩
      case rest =>
        obtain ⟨s', H8, F8⟩ := hcut
        have g0 : wc.cell? ⟨wo.heap.size, 0, none⟩ = some (.int .i64 op.kind) := by rw [blk_cell F8.out]; rfl
        have g1 : wc.cell? ⟨wo.heap.size, 1, none⟩ = some (.int .i64 op.at_) := by rw [blk_cell F8.out]; rfl
        have g2 : wc.cell? ⟨wo.heap.size, 2, none⟩ = some (.int .i64 op.n) := by rw [blk_cell F8.out]; rfl
        have g3 : wc.cell? ⟨wo.heap.size, 3, none⟩ = some (.int .u64 op.v) := by rw [blk_cell F8.out]; rfl
        have g4 : wc.cell? ⟨wo.heap.size, 4, none⟩ = some (.slice op.A op.b.length op.c) := by rw [blk_cell F8.out]; rfl
        have T1 := Lib.hid (tells_calls H8.out op.kind op.at_ op.n op.v op.A op.b.length op.c ⟨f10, f11⟩)
        go_wp2_with fail
        refine T1.out.mono ?_
        rintro e w7 ⟨rfl, hnew, hc⟩
        have H9 := Lib.hid hnew
        clear hnew hc g0 g1 g2 g3 g4
        go_wp2
        go_roundg (60 - (k + 1))
        case measure => have := hg2.out; omega
        case rel => exact ⟨k + 1, s', by go_num, rfl, H9.out, by omega, by omega⟩
    · have F : Hid (Two w.heap.size w wo a r s s) := H5.out
      have hend : (l2.length : Int) ≤ k ∨ ((k : Int) < l2.length ∧ k = 60) := by omega
      clear hlt2
      have SC := same_calls F.out
      have SC := Lib.hid SC
      rcases hend with h9 | ⟨h9, rfl⟩
      all_goals
        go_wp2_with fail
        refine SC.out.mono ?_
        rintro e w6 ⟨rfl, hnew⟩
        have F2 : Hid (Below w.heap.size w w6) := hnew.here.below (Nat.le_refl _)
        clear hnew
        go_wp2
        go_ret
        exact ⟨rfl, F2.out⟩
end Go.Proofs.Ytalcoodfoifmcaa.Arena
