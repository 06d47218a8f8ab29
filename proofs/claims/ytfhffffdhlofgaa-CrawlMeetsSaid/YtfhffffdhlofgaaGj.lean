import Derived.Test.YtfhffffdhlofgaaGi
/- The walk of chapter 14's CrawlStops. -/
namespace Go.Proofs.Ytfhffffdhlofgaa.Crawl
open Go Go.RowKit Go.Proofs.Ytfhffffdhlofgaa.Mem Go.Proofs.Ytfhffffdhlofgaa.CodecPure Go.Proofs.Ytfhffffdhlofgaa.ArenaPure Go.Proofs.Ytfhffffdhlofgaa.Codec Go.Proofs.Ytfhffffdhlofgaa.Arena Go.Proofs.Ytfhffffdhlofgaa.Item Go.Proofs.Ytfhffffdhlofgaa.Links
set_option linter.unusedVariables false
set_option maxRecDepth 100000
variable {B : Nat} {w0 w w' : World} {a : Ar} {h : Qh} {cb : Nat} {s : St} {L : List Int} {is : Bool} {mk : Int}
/-- the items of numbers below i, the last one first -/
def downL : Nat → List Int
  | 0 => []
  | i + 1 => 64 * (i : Int) :: downL i
theorem downL_mem {y : Int} : ∀ {n : Nat}, y ∈ downL n ↔ ∃ j : Nat, j < n ∧ y = 64 * (j : Int)
  | 0 => by simp [downL]
  | n + 1 => by
    show y ∈ 64 * (n : Int) :: downL n ↔ _
    rw [List.mem_cons, downL_mem]
    constructor
    · rintro (rfl | ⟨j, h1, h2⟩)
      · exact ⟨n, by omega, rfl⟩
      · exact ⟨j, by omega, h2⟩
    · rintro ⟨j, h1, rfl⟩
      by_cases e : j = n
      · subst e; exact .inl rfl
      · exact .inr ⟨j, by omega, rfl⟩
theorem downL_length : ∀ n, (downL n).length = n
  | 0 => rfl
  | n + 1 => by show (downL n).length + 1 = _; rw [downL_length n]
theorem downL_tail : ∀ (d k : Nat), ∃ X, downL (k + d) = X ++ downL k
  | 0, k => ⟨[], rfl⟩
  | d + 1, k => by
    obtain ⟨X, h⟩ := downL_tail d k
    exact ⟨64 * ((k + d : Nat) : Int) :: X, by show 64 * ((k + d : Nat) : Int) :: downL (k + d) = _; rw [h]; rfl⟩
theorem down_in {k : Nat} (hk : k < 48) : In64 (64 * (k : Int)) := by unfold In64; omega
theorem down_push {k : Nat} (hk : k < 48) : pushL (downL k) (64 * (k : Int)) = (downL (k + 1), 0) := pushL_in (down_in hk) fun hm => by
  obtain ⟨j, h1, h2⟩ := downL_mem.1 hm
  omega
theorem down_last (n : Nat) (hn : 1 ≤ n) : ∃ A, downL n = A ++ [0] := by
  obtain ⟨d, rfl⟩ : ∃ d, n = 1 + d := ⟨n - 1, by omega⟩
  exact downL_tail d 1
/-- behind k steps -/
theorem down_step {n k : Nat} {A : List Int} (h : A ++ downL k = downL n) (hk : k < n) : ∃ A', A = A' ++ [64 * (k : Int)] ∧ A' ++ downL (k + 1) = downL n := by
  obtain ⟨d, rfl⟩ : ∃ d, n = (k + 1) + d := ⟨n - (k + 1), by omega⟩
  obtain ⟨X, hX⟩ := downL_tail d (k + 1)
  refine ⟨X, ?_, hX.symm⟩
  rw [hX] at h
  have e : X ++ downL (k + 1) = (X ++ [64 * (k : Int)]) ++ downL k := by simp [downL]
  rw [e] at h
  exact List.append_cancel_right h
theorem mark_not {n : Nat} (hn : n ≤ 30) {x : Int} (hx : 2048 ≤ x) : x ∉ downL n := fun hm => by
  obtain ⟨j, h1, h2⟩ := downL_mem.1 hm
  omega
/-- a loop that pushes -/
def Pushed (B : Nat) (w0 : World) (a : Ar) (h : Qh) (cb n : Nat) (g : Nat) (i : Value) (wr : World) : Prop := ∃ (k : Nat) (s : St), i = .int .i64 k ∧ g = n - k ∧ k ≤ n ∧ Hid (CA B w0 wr a h cb s (downL k) false 0)
set_option maxHeartbeats 1000000 in
theorem stops_walk (n0 steps : Int) (w : World) (wf0 : (Lit.int .i64 n0).wf = true) (wf1 : (Lit.int .i64 steps).wf = true) :
    Calls Try.prog 8 #[(.int .i64 n0), (.int .i64 steps)] w fun e w' => e = .returned (.bool true) ∧ Below w.heap.size w w' := by
  clear wf0 wf1
  obtain ⟨p, hp, p1, p2⟩ := small n0 20 (by decide)
  replace p1 : (IntKind.u64.wrap n0).tmod 20 = p := p1
  clear p2
  obtain ⟨n, hnp⟩ : ∃ n, 1 + p = n := ⟨_, rfl⟩
  have hnp' : (1 : Int) + p = n := by omega
  have hn20 : n ≤ 20 := by omega
  have hn1 : 1 ≤ n := by omega
  go_enter Try.func8, Try.ntmps8
  go_wp2_with fail
  refine (Crawl.works_calls w).mono ?_
  rintro e wa ⟨rfl, hc⟩
  have CW := Lib.hid hc
  clear hc
  go_wp2_with fail
  refine (laid_calls wa).mono ?_
  rintro e w1 ⟨a, r, rfl, T⟩
  replace T := Lib.hid T
  go_wp2_with fail
  refine (CA.begin T.out).mono ?_
  rintro e w2 ⟨h, rfl, -, Q2, -, -⟩
  replace Q2 := Lib.hid Q2
  clear T
  go_wp2_with fail
  refine (CA.new Q2.out).mono ?_
  rintro e w3 ⟨cb, rfl, H0, -, -⟩
  replace H0 := Lib.hid H0
  clear Q2
  go_wp2_with fail
  clear p1 hnp' hnp hp
  go_loopg [10] n (fun g i wr => Pushed wa.heap.size wa a h cb n g i wr)
  case atStart => exact ⟨0, _, rfl, rfl, by omega, H0.out⟩
  case round =>
    clear H0
    obtain ⟨k, s, rfl, hg, hk, H1⟩ := hrel
    obtain ⟨wo, rfl⟩ : ∃ wo : World, wo = wr := ⟨_, rfl⟩
    replace hg := Lib.hid hg
    by_cases h1 : k < n
    · have h1' : (k : Int) < n := by omega
      have PC := Lib.hid (fun W => place10_calls (k : Int) W k (by omega) (small30 k (by omega)))
      have PU := Lib.hid (H1.out.pushE (down_push (k := k) (by omega)) (down_in (by omega)).chunk (down_in (by omega)).i64)
      clear H1
      go_wp2_with fail
      refine (PC.out _).mono ?_
      rintro e w5 ⟨rfl, rfl⟩
      go_wp2_with fail
      refine PU.out.mono ?_
      rintro e w5 ⟨rfl, s', hnew, -⟩
      replace hnew := Lib.hid hnew
      clear PU PC
      have wk1 : IntKind.i64.wrap ((k : Int) + 1) = (k : Int) + 1 := IntWalk.i64_in _ (by omega)
      go_wp2_with fail
      go_roundg (n - (k + 1))
      case measure => have := hg.out; omega
      case rel => exact ⟨k + 1, s', rfl, rfl, by omega, hnew.out⟩
    · obtain rfl : k = n := by omega
      clear h1 hg hk
      go_wp2_with fail
      refine (H1.out.listE (n := k) (downL_length k) (by omega)).mono ?_
      rintro e w4 ⟨A0, c0, rfl, O4, H2, -⟩
      replace H2 := Lib.hid H2
      have NB := Lib.hid (H1.out.off O4)
      have SA := Lib.hid O4.sl
      clear O4 H1
      obtain ⟨AL, hAL⟩ := down_last k hn1
      have hAL := Lib.hid hAL
      have HS := H2.out
      rw [hAL.out] at HS
      have ST := CA.startE HS (x := 2048) (by decide) (by rw [← hAL.out]; exact mark_not (by omega) (by decide))
      rw [show AL ++ [0, 2048] = (AL ++ [0]) ++ [2048] by simp, ← hAL.out] at ST
      replace ST := Lib.hid ST
      clear HS H2
      go_wp2_with fail
      refine ST.out.mono ?_
      rintro e w5 ⟨rfl, s5, hnew, hc⟩
      have S5 := Lib.hid (SA.out.chg hc NB.out)
      have H5 := Lib.hid hnew
      clear ST SA hnew hc
      go_wp2_with fail
      obtain ⟨q, hq, q1, q2⟩ := small steps k (by omega)
      clear q2
      have u1 : IntKind.u64.wrap (k : Int) = k := by rw [u64_wrap]; exact Int.emod_eq_of_lt (by omega) (by omega)
      have k0 : (k : Int) ≠ 0 := by omega
      go_loopg [12] q (fun g i wr => ∃ (j : Nat) (s : St) (A : List Int), i = .int .i64 j ∧ g = q - j ∧ j ≤ q ∧ Hid (A ++ downL j = downL k) ∧ Hid (CA wa.heap.size wa wr a h cb s (A ++ 2048 :: downL j) true 2048) ∧ Hid (Sl wr .i64 A0 (downL k)))
      case atStart => exact ⟨0, _, downL k, rfl, rfl, by omega, List.append_nil _, H5.out, S5.out⟩
      case round =>
        clear S5 H5
        obtain ⟨j, s, A, rfl, hg, hj, HA, H6, S6⟩ := hrel
        obtain ⟨wo, rfl⟩ : ∃ wo : World, wo = wr := ⟨_, rfl⟩
        replace hg := Lib.hid hg
        by_cases h1 : j < q
        · have h1' : (j : Int) < q := by omega
          obtain ⟨A', eA, hA'⟩ := down_step HA.out (show j < k by omega)
          have HS := H6.out
          rw [eA, List.append_assoc] at HS
          have PU := Lib.hid (CA.stepE (A := A') (x := 64 * (j : Int)) (C := downL j) HS (by decide))
          have HA2 := Lib.hid hA'
          clear HS H6 HA eA hA'
          go_wp2_with fail
          refine PU.out.mono ?_
          rintro e w6 ⟨rfl, s', hnew, hc⟩
          have S7 := Lib.hid (S6.out.chg hc NB.out)
          replace hnew := Lib.hid hnew
          clear PU hc S6
          have wk1 : IntKind.i64.wrap ((j : Int) + 1) = (j : Int) + 1 := IntWalk.i64_in _ (by omega)
          go_wp2_with fail
          go_roundg (q - (j + 1))
          case measure => have := hg.out; omega
          case rel => exact ⟨j + 1, s', A', rfl, rfl, by omega, HA2.out, hnew.out, S7.out⟩
        · obtain rfl : j = q := by omega
          clear h1 hg hj
          have ST := Lib.hid (CA.stopE H6.out)
          rw [HA.out] at ST
          clear H6 HA
          go_wp2_with fail
          refine ST.out.mono ?_
          rintro e w6 ⟨rfl, s6, hnew, hc⟩
          have S7 := Lib.hid (S6.out.chg hc NB.out)
          have H7 := Lib.hid hnew
          clear ST hc S6 hnew
          go_wp2_with fail
          refine (stop_no H7.out).mono ?_
          rintro e w7 ⟨rfl, rfl⟩
          go_wp2_with fail
          refine (Crawl.walks_calls H7.out).mono ?_
          rintro e w8 ⟨rfl, rfl⟩
          go_wp2_with fail
          refine (H7.out.listE (n := k) (downL_length k) (by omega)).mono ?_
          rintro e w9 ⟨A2, c2, rfl, O9, H9, hc⟩
          have S9 := S7.out.chg hc (fun _ _ => id)
          have SM := same06_calls (c := c2) (d := c0) O9.sl S9 (by rw [downL_length]; omega)
          rw [downL_length] at SM
          replace SM := Lib.hid SM
          replace H9 := Lib.hid H9
          clear O9 S9 S7 H7 hc NB
          go_wp2_with fail
          refine SM.out.mono ?_
          rintro e w10 ⟨rfl, hd⟩
          have HS := H9.out.fresh (hd.chg _)
          rw [hAL.out] at HS
          have ST := CA.startE HS (x := 2112) (by decide) (by rw [← hAL.out]; exact mark_not (by omega) (by decide))
          replace ST := Lib.hid ST
          clear HS SM hd H9
          go_wp2_with fail
          refine ST.out.mono ?_
          rintro e w11 ⟨rfl, s11, hnew, hc⟩
          have ST2 := Lib.hid (CA.stepE (A := AL) (x := 0) (C := []) hnew (by decide))
          clear ST hnew hc
          go_wp2_with fail
          refine ST2.out.mono ?_
          rintro e w12 ⟨rfl, s12, hnew, hc⟩
          replace hnew := Lib.hid hnew
          clear ST2 hc
          have PC := Lib.hid (fun W => place10_calls 0 W 0 (by omega) (small30 0 (by omega)))
          go_wp2_with fail
          refine (PC.out _).mono ?_
          rintro e w13 ⟨rfl, rfl⟩
          go_wp2_with fail
          go_ret
          exact ⟨rfl, (CW.out.trans (hnew.out.q.here.chg.mono fun _ hl hb => by omega)).below (Nat.le_refl _) fun _ h => h.elim⟩
end Go.Proofs.Ytfhffffdhlofgaa.Crawl

/- The walk of chapter 14's CrawlMore. -/
namespace Go.Proofs.Ytfhffffdhlofgaa.Crawl
open Go Go.RowKit Go.Proofs.Ytfhffffdhlofgaa.Mem Go.Proofs.Ytfhffffdhlofgaa.CodecPure Go.Proofs.Ytfhffffdhlofgaa.ArenaPure Go.Proofs.Ytfhffffdhlofgaa.Codec Go.Proofs.Ytfhffffdhlofgaa.Arena Go.Proofs.Ytfhffffdhlofgaa.Item Go.Proofs.Ytfhffffdhlofgaa.Links
set_option linter.unusedVariables false
set_option maxRecDepth 100000
variable {B : Nat} {w0 w w' : World} {a : Ar} {h : Qh} {cb : Nat} {s : St} {L : List Int} {is : Bool} {mk : Int}
theorem CA.lenE (k : CA B w0 w a h cb s L is mk) {n : Nat} (hn : L.length = n) : Calls Try.prog 18 #[(.pointer (some ⟨h.q, 0, none⟩))] w fun e w' => e = .returned (.int .i64 n) ∧ w = w' := k.q.lenE hn
/-- what is pushed ahead of a walk -/
theorem ahead_push {A : List Int} {n i k : Nat} (h : A ++ downL k = downL (n + i)) (hi : n + i < 30) : pushL (A ++ 2048 :: downL k) (64 * ((n + i : Nat) : Int)) = (64 * ((n + i : Nat) : Int) :: A ++ 2048 :: downL k, 0) :=
  pushL_in (down_in (by omega)) fun hm => by
    have : 64 * ((n + i : Nat) : Int) ∈ downL (n + i) ∨ 64 * ((n + i : Nat) : Int) = 2048 := by
      rw [← h]
      simp at hm ⊢
      rcases hm with hm | hm | hm
      · exact .inl (.inl hm)
      · exact .inr hm
      · exact .inl (.inr hm)
    rcases this with hm | hm
    · obtain ⟨j, h1, h2⟩ := downL_mem.1 hm
      omega
    · omega
set_option maxHeartbeats 1000000 in
theorem more_walk (n0 m0 steps : Int) (w : World) (wf0 : (Lit.int .i64 n0).wf = true) (wf1 : (Lit.int .i64 m0).wf = true) (wf2 : (Lit.int .i64 steps).wf = true) :
    Calls Try.prog 10 #[(.int .i64 n0), (.int .i64 m0), (.int .i64 steps)] w fun e w' => e = .returned (.bool true) ∧ Below w.heap.size w w' := by
  clear wf0 wf1 wf2
  obtain ⟨p, hp, p1, p2⟩ := small n0 14 (by decide)
  replace p1 : (IntKind.u64.wrap n0).tmod 14 = p := p1
  clear p2
  obtain ⟨m, hm, m1, m2⟩ := small m0 14 (by decide)
  replace m1 : (IntKind.u64.wrap m0).tmod 14 = m := m1
  clear m2
  obtain ⟨n, hnp⟩ : ∃ n, 1 + p = n := ⟨_, rfl⟩
  have hnp' : (1 : Int) + p = n := by omega
  have hn14 : n ≤ 14 := by omega
  have hn1 : 1 ≤ n := by omega
  go_enter Try.func10, Try.ntmps10
  go_wp2_with fail
  refine (Crawl.works_calls w).mono ?_
  rintro e wa ⟨rfl, hc⟩
  have CW := Lib.hid hc
  clear hc
  go_wp2_with fail
  refine (laid_calls wa).mono ?_
  rintro e w1 ⟨a, r, rfl, T⟩
  replace T := Lib.hid T
  go_wp2_with fail
  refine (CA.begin T.out).mono ?_
  rintro e w2 ⟨h, rfl, -, Q2, -, -⟩
  replace Q2 := Lib.hid Q2
  clear T
  go_wp2_with fail
  refine (CA.new Q2.out).mono ?_
  rintro e w3 ⟨cb, rfl, H0, -, -⟩
  replace H0 := Lib.hid H0
  clear Q2
  go_wp2_with fail
  clear p1 hnp' hnp hp m1
  go_loopg [12] n (fun g i wr => Pushed wa.heap.size wa a h cb n g i wr)
  case atStart => exact ⟨0, _, rfl, rfl, by omega, H0.out⟩
  case round =>
    clear H0
    obtain ⟨k, s, rfl, hg, hk, H1⟩ := hrel
    obtain ⟨wo, rfl⟩ : ∃ wo : World, wo = wr := ⟨_, rfl⟩
    replace hg := Lib.hid hg
    by_cases h1 : k < n
    · have h1' : (k : Int) < n := by omega
      have PC := Lib.hid (fun W => place10_calls (k : Int) W k (by omega) (small30 k (by omega)))
      have PU := Lib.hid (H1.out.pushE (down_push (k := k) (by omega)) (down_in (by omega)).chunk (down_in (by omega)).i64)
      clear H1
      go_wp2_with fail
      refine (PC.out _).mono ?_
      rintro e w5 ⟨rfl, rfl⟩
      go_wp2_with fail
      refine PU.out.mono ?_
      rintro e w5 ⟨rfl, s', hnew, -⟩
      replace hnew := Lib.hid hnew
      clear PU PC
      have wk1 : IntKind.i64.wrap ((k : Int) + 1) = (k : Int) + 1 := IntWalk.i64_in _ (by omega)
      go_wp2_with fail
      go_roundg (n - (k + 1))
      case measure => have := hg.out; omega
      case rel => exact ⟨k + 1, s', rfl, rfl, by omega, hnew.out⟩
    · obtain rfl : k = n := by omega
      clear h1 hg hk
      obtain ⟨AL, hAL⟩ := down_last k hn1
      have hAL := Lib.hid hAL
      have HS := H1.out
      rw [hAL.out] at HS
      have ST := CA.startE HS (x := 2048) (by decide) (by rw [← hAL.out]; exact mark_not (by omega) (by decide))
      rw [show AL ++ [0, 2048] = (AL ++ [0]) ++ [2048] by simp, ← hAL.out] at ST
      replace ST := Lib.hid ST
      clear HS H1
      go_wp2_with fail
      refine ST.out.mono ?_
      rintro e w5 ⟨rfl, s5, hnew, -⟩
      have H5 := Lib.hid hnew
      clear ST hnew
      obtain ⟨q, hq, q1, q2⟩ := small steps k (by omega)
      clear q2
      have u1 : IntKind.u64.wrap (k : Int) = k := by rw [u64_wrap]; exact Int.emod_eq_of_lt (by omega) (by omega)
      have k0 : (k : Int) ≠ 0 := by omega
      go_wp2_with fail
      go_loopg [13, 14] q (fun g kk i wr => ∃ (j : Nat) (s : St) (A : List Int), kk = .int .i64 j ∧ i = .int .i64 j ∧ g = q - j ∧ j ≤ q ∧ Hid (A ++ downL j = downL k) ∧ Hid (CA wa.heap.size wa wr a h cb s (A ++ 2048 :: downL j) true 2048))
      case atStart => exact ⟨0, _, downL k, rfl, rfl, rfl, by omega, List.append_nil _, H5.out⟩
      case round =>
        clear H5
        obtain ⟨j, s, A, rfl, rfl, hg, hj, HA, H6⟩ := hrel
        obtain ⟨wo, rfl⟩ : ∃ wo : World, wo = wr := ⟨_, rfl⟩
        replace hg := Lib.hid hg
        by_cases h1 : j < q
        · have h1' : (j : Int) < q := by omega
          obtain ⟨A', eA, hA'⟩ := down_step HA.out (show j < k by omega)
          have HS := H6.out
          rw [eA, List.append_assoc] at HS
          have PU := Lib.hid (CA.stepE (A := A') (x := 64 * (j : Int)) (C := downL j) HS (by decide))
          have HA2 := Lib.hid hA'
          have PC := Lib.hid (fun W => place10_calls (j : Int) W j (by omega) (small30 j (by omega)))
          clear HS H6 HA eA hA'
          go_wp2_with fail
          refine PU.out.mono ?_
          rintro e w6 ⟨rfl, s', hnew, -⟩
          replace hnew := Lib.hid hnew
          clear PU
          have wk1 : IntKind.i64.wrap ((j : Int) + 1) = (j : Int) + 1 := IntWalk.i64_in _ (by omega)
          go_wp2_with fail
          refine (PC.out _).mono ?_
          rintro e w7 ⟨rfl, rfl⟩
          go_wp2_with fail
          go_roundg (q - (j + 1))
          case measure => have := hg.out; omega
          case rel => exact ⟨j + 1, s', A', rfl, rfl, rfl, by omega, HA2.out, hnew.out⟩
        · obtain rfl : j = q := by omega
          clear h1 hg hj
          go_wp2_with fail
          go_loopg [17] m (fun g i wr => ∃ (i' : Nat) (s : St) (A : List Int), i = .int .i64 i' ∧ g = m - i' ∧ i' ≤ m ∧ Hid (A ++ downL j = downL (k + i')) ∧ Hid (CA wa.heap.size wa wr a h cb s (A ++ 2048 :: downL j) true 2048))
          case atStart => exact ⟨0, _, A, rfl, rfl, by omega, HA.out, H6.out⟩
          case round =>
            clear H6 HA
            obtain ⟨i', s, A, rfl, hg, hi, HA, H6⟩ := hrel
            obtain ⟨wo, rfl⟩ : ∃ wo : World, wo = wr := ⟨_, rfl⟩
            replace hg := Lib.hid hg
            by_cases h1 : i' < m
            · have h1' : (i' : Int) < m := by omega
              obtain ⟨y, hy⟩ : ∃ y, k + i' = y := ⟨_, rfl⟩
              have hy30 : y < 30 := by omega
              have PC := Lib.hid (fun W => place10_calls (y : Int) W y hy30 (small30 y hy30))
              have AP := ahead_push HA.out (by omega)
              rw [hy] at AP
              have PU := Lib.hid (H6.out.pushE AP (down_in (by omega)).chunk (down_in (by omega)).i64)
              have HA2 : Hid ((64 * (y : Int) :: A) ++ downL j = downL (k + (i' + 1))) := by
                show _ = _
                rw [← hy]
                show 64 * ((k + i' : Nat) : Int) :: (A ++ downL j) = _
                rw [HA.out]; rfl
              have wk2 : IntKind.i64.wrap ((k : Int) + (i' : Int)) = (y : Int) := by rw [IntWalk.i64_in _ (by omega)]; omega
              clear H6 HA AP
              replace hy := Lib.hid hy
              go_wp2_with fail
              refine (PC.out _).mono ?_
              rintro e w5 ⟨rfl, rfl⟩
              go_wp2_with fail
              refine PU.out.mono ?_
              rintro e w5 ⟨rfl, s', hnew, -⟩
              replace hnew := Lib.hid hnew
              clear PU PC
              have wk1 : IntKind.i64.wrap ((i' : Int) + 1) = (i' : Int) + 1 := IntWalk.i64_in _ (by omega)
              go_wp2_with fail
              go_roundg (m - (i' + 1))
              case measure => have := hg.out; omega
              case rel => exact ⟨i' + 1, s', _, rfl, rfl, by omega, HA2.out, hnew.out⟩
            · obtain rfl : i' = m := by omega
              clear h1 hg hi
              obtain ⟨z, hz⟩ : ∃ z, k + i' = z := ⟨_, rfl⟩
              rw [hz] at HA
              have wz : IntKind.i64.wrap ((k : Int) + (i' : Int)) = (z : Int) := by rw [IntWalk.i64_in _ (by omega)]; omega
              have hz30 : z < 30 := by omega
              have hjz : j ≤ z := by omega
              replace hz := Lib.hid hz
              go_wp2_with fail
              go_loopg [13] (z - j) (fun g kk wr => ∃ (j : Nat) (s : St) (A : List Int), kk = .int .i64 j ∧ g = z - j ∧ j ≤ z ∧ Hid (A ++ downL j = downL z) ∧ Hid (CA wa.heap.size wa wr a h cb s (A ++ 2048 :: downL j) true 2048))
              case atStart => exact ⟨j, _, A, rfl, rfl, hjz, HA.out, H6.out⟩
              case round =>
                clear H6 HA hjz
                obtain ⟨t, s, A, rfl, hg, ht, HA, H6⟩ := hrel
                obtain ⟨wo, rfl⟩ : ∃ wo : World, wo = wr := ⟨_, rfl⟩
                replace hg := Lib.hid hg
                by_cases h1 : t < z
                · have h1' : (t : Int) < z := by omega
                  obtain ⟨A', eA, hA'⟩ := down_step HA.out h1
                  have HS := H6.out
                  rw [eA, List.append_assoc] at HS
                  have PU := Lib.hid (CA.stepE (A := A') (x := 64 * (t : Int)) (C := downL t) HS (by decide))
                  have HA2 := Lib.hid hA'
                  have PC := Lib.hid (fun W => place10_calls (t : Int) W t (by omega) (small30 t (by omega)))
                  clear HS H6 HA eA hA'
                  go_wp2_with fail
                  refine PU.out.mono ?_
                  rintro e w6 ⟨rfl, s', hnew, -⟩
                  replace hnew := Lib.hid hnew
                  clear PU
                  have wk1 : IntKind.i64.wrap ((t : Int) + 1) = (t : Int) + 1 := IntWalk.i64_in _ (by omega)
                  go_wp2_with fail
                  refine (PC.out _).mono ?_
                  rintro e w7 ⟨rfl, rfl⟩
                  go_wp2_with fail
                  go_roundg (z - (t + 1))
                  case measure => have := hg.out; omega
                  case rel => exact ⟨t + 1, s', A', rfl, rfl, by omega, HA2.out, hnew.out⟩
                · obtain rfl : t = z := by omega
                  clear h1 hg ht
                  have eA : A = [] := List.append_cancel_right (bs := downL t) (by rw [HA.out]; rfl)
                  subst eA
                  have ST := Lib.hid (CA.stepEnd (C := downL t) H6.out)
                  clear H6 HA
                  go_wp2_with fail
                  refine ST.out.mono ?_
                  rintro e w6 ⟨rfl, s', hnew, -⟩
                  replace hnew := Lib.hid hnew
                  clear ST
                  go_wp2_with fail
                  refine (hnew.out.lenE (downL_length t)).mono ?_
                  rintro e w7 ⟨rfl, rfl⟩
                  go_wp2_with fail
                  go_ret
                  exact ⟨rfl, (CW.out.trans (hnew.out.q.here.chg.mono fun _ hl hb => by omega)).below (Nat.le_refl _) fun _ h => h.elim⟩
end Go.Proofs.Ytfhffffdhlofgaa.Crawl

/- Lists of items that are still in a queue, the last one first; rows of yes and no. -/
namespace Go.Proofs.Ytfhffffdhlofgaa.Crawl
open Go Go.RowKit Go.Proofs.Ytfhffffdhlofgaa.Mem Go.Proofs.Ytfhffffdhlofgaa.CodecPure Go.Proofs.Ytfhffffdhlofgaa.ArenaPure Go.Proofs.Ytfhffffdhlofgaa.Codec Go.Proofs.Ytfhffffdhlofgaa.Arena Go.Proofs.Ytfhffffdhlofgaa.Item Go.Proofs.Ytfhffffdhlofgaa.Links Go.Proofs.Ytfhffffdhlofgaa.Inv
set_option linter.unusedVariables false
set_option maxRecDepth 100000
/-- those of the numbers m .. m+d-1 that f names, the greatest one first -/
def upL (f : Nat → Bool) (m : Nat) : Nat → List Int
  | 0 => []
  | d + 1 => if f (m + d) = true then 64 * ((m + d : Nat) : Int) :: upL f m d else upL f m d
theorem upL_mem {f : Nat → Bool} {m : Nat} {y : Int} : ∀ {d : Nat}, y ∈ upL f m d ↔ ∃ k : Nat, m ≤ k ∧ k < m + d ∧ f k = true ∧ y = 64 * (k : Int)
  | 0 => by
    constructor
    · intro h; cases h
    · rintro ⟨k, h1, h2, _⟩; omega
  | d + 1 => by
    show y ∈ (if f (m + d) = true then 64 * ((m + d : Nat) : Int) :: upL f m d else upL f m d) ↔ _
    by_cases hf : f (m + d) = true
    · rw [if_pos hf, List.mem_cons, upL_mem]
      constructor
      · rintro (rfl | ⟨k, h1, h2, h3, h4⟩)
        · exact ⟨m + d, by omega, by omega, hf, rfl⟩
        · exact ⟨k, h1, by omega, h3, h4⟩
      · rintro ⟨k, h1, h2, h3, rfl⟩
        by_cases e : k = m + d
        · subst e; exact .inl rfl
        · exact .inr ⟨k, h1, by omega, h3, rfl⟩
    · rw [if_neg hf, upL_mem]
      constructor
      · rintro ⟨k, h1, h2, h3, h4⟩; exact ⟨k, h1, by omega, h3, h4⟩
      · rintro ⟨k, h1, h2, h3, rfl⟩
        by_cases e : k = m + d
        · subst e; exact absurd h3 hf
        · exact ⟨k, h1, by omega, h3, rfl⟩
theorem upL_split (f : Nat → Bool) (m e : Nat) : ∀ d, upL f m (e + d) = upL f (m + e) d ++ upL f m e
  | 0 => rfl
  | d + 1 => by
    have ih := upL_split f m e d
    show (if f (m + (e + d)) = true then 64 * ((m + (e + d) : Nat) : Int) :: upL f m (e + d) else upL f m (e + d)) = (if f (m + e + d) = true then 64 * ((m + e + d : Nat) : Int) :: upL f (m + e) d else upL f (m + e) d) ++ upL f m e
    rw [ih, show m + (e + d) = m + e + d by omega]
    split <;> rfl
theorem upL_none {f : Nat → Bool} {m : Nat} : ∀ {d : Nat}, (∀ j, j < d → f (m + j) = false) → upL f m d = []
  | 0, _ => rfl
  | d + 1, h => by
    show (if f (m + d) = true then _ else _) = _
    rw [if_neg (by rw [h d (by omega)]; decide), upL_none fun j hj => h j (by omega)]
theorem upL_down {f : Nat → Bool} : ∀ {d : Nat}, (∀ j, j < d → f j = true) → upL f 0 d = downL d
  | 0, _ => rfl
  | d + 1, h => by
    show (if f (0 + d) = true then 64 * ((0 + d : Nat) : Int) :: upL f 0 d else _) = _
    rw [Nat.zero_add, if_pos (h d (by omega)), upL_down fun j hj => h j (by omega)]; rfl
theorem upL_congr {f g : Nat → Bool} {m : Nat} : ∀ {d : Nat}, (∀ j, j < d → f (m + j) = g (m + j)) → upL f m d = upL g m d
  | 0, _ => rfl
  | d + 1, h => by
    show (if f (m + d) = true then _ else _) = (if g (m + d) = true then _ else _)
    rw [h d (by omega), upL_congr fun j hj => h j (by omega)]
theorem upL_out (f : Nat → Bool) (k m : Nat) : ∀ d, upL (up f k false) m d = (upL f m d).filter (fun y => y != 64 * (k : Int))
  | 0 => rfl
  | d + 1 => by
    have ih := upL_out f k m d
    show (if up f k false (m + d) = true then _ else _) = (if f (m + d) = true then _ else _ : List Int).filter _
    by_cases e : m + d = k
    · subst e
      rw [if_neg (by rw [up_at]; decide), ih]
      by_cases hf : f (m + d) = true
      · rw [if_pos hf, List.filter_cons, if_neg (by simp)]
      · rw [if_neg hf]
    · rw [up_ne _ _ e, ih]
      by_cases hf : f (m + d) = true
      · rw [if_pos hf, if_pos hf, List.filter_cons, if_pos (by simp; omega)]
      · rw [if_neg hf, if_neg hf]
/-- while a walk stands ahead of number m -/
def stL (f : Nat → Bool) (m d : Nat) : List Int := upL f m d ++ 2048 :: upL f 0 m
theorem stL_not {f : Nat → Bool} {m d : Nat} (h : m + d ≤ 30) : (2048 : Int) ∉ upL f m d ∧ (2048 : Int) ∉ upL f 0 m := by
  refine ⟨fun hm => ?_, fun hm => ?_⟩ <;> obtain ⟨k, h1, h2, h3, h4⟩ := upL_mem.1 hm <;> omega
theorem stL_rem {f : Nat → Bool} {m d n : Nat} (hn : m + d = n) (h30 : n ≤ 30) (hf : ∀ k, f k = true → k < n) (hnd : (stL f m d).Nodup) (k : Nat) (hk : k < 30) :
    remL (stL f m d) (64 * (k : Int)) = (stL (up f k false) m d, if f k = true then 0 else 3) := by
  have e : stL (up f k false) m d = (stL f m d).filter (fun y => y != 64 * (k : Int)) := by
    unfold stL
    rw [upL_out, upL_out, List.filter_append, List.filter_cons, if_pos (by simp; omega)]
  unfold remL
  by_cases hm : f k = true
  · have hin : 64 * (k : Int) ∈ stL f m d := by
      unfold stL
      rw [List.mem_append, List.mem_cons]
      have := hf k hm
      by_cases h1 : m ≤ k
      · exact .inl (upL_mem.2 ⟨k, h1, by omega, hm, rfl⟩)
      · exact .inr (.inr (upL_mem.2 ⟨k, by omega, by omega, hm, rfl⟩))
    rw [if_pos hin, if_pos hm, hnd.erase_eq_filter, e]
  · have e2 : up f k false = f := by
      funext j
      by_cases ej : j = k
      · subst ej; rw [up_at]; simpa using Eq.symm (Bool.not_eq_true _ ▸ hm : f j = false)
      · rw [up_ne _ _ ej]
    have hout : 64 * (k : Int) ∉ stL f m d := fun hin => by
      unfold stL at hin
      rw [List.mem_append, List.mem_cons] at hin
      rcases hin with hin | hin | hin
      · obtain ⟨j, _, _, h3, h4⟩ := upL_mem.1 hin
        have : j = k := by omega
        subst this; exact hm h3
      · omega
      · obtain ⟨j, _, _, h3, h4⟩ := upL_mem.1 hin
        have : j = k := by omega
        subst this; exact hm h3
    rw [if_neg hout, if_neg hm, e2]
/-- who is met next -/
theorem stL_next (f : Nat → Bool) (m d : Nat) : (∀ j, j < d → f (m + j) = false) ∨ ∃ k d', m ≤ k ∧ f k = true ∧ (∀ j, m ≤ j → j < k → f j = false) ∧ k + 1 + d' = m + d ∧
    upL f m d = upL f (k + 1) d' ++ [64 * (k : Int)] ∧ upL f 0 (k + 1) = 64 * (k : Int) :: upL f 0 m := by
  have P : ∀ e, e ≤ d → (∀ j, j < e → f (m + j) = false) ∨ ∃ k, m ≤ k ∧ k < m + d ∧ f k = true ∧ ∀ j, m ≤ j → j < k → f j = false := by
    intro e
    induction e with
    | zero => exact fun _ => .inl fun j hj => by omega
    | succ e ih =>
      intro he
      rcases ih (by omega) with h | h
      · cases hf : f (m + e) with
        | true =>
          refine .inr ⟨m + e, by omega, by omega, hf, fun j h1 h2 => ?_⟩
          have := h (j - m) (by omega)
          rwa [show m + (j - m) = j by omega] at this
        | false =>
          refine .inl fun j hj => ?_
          by_cases ej : j = e
          · subst ej; exact hf
          · exact h j (by omega)
      · exact .inr h
  rcases P d (Nat.le_refl _) with h | ⟨k, h1, h2, h3, h4⟩
  · exact .inl h
  · have n1 : upL f m (k - m) = [] := upL_none fun j hj => h4 (m + j) (by omega) (by omega)
    have s1 : upL f k 1 = [64 * (k : Int)] := by
      show (if f (k + 0) = true then _ else _) = _
      rw [Nat.add_zero, if_pos h3]; rfl
    refine .inr ⟨k, m + d - (k + 1), h1, h3, h4, by omega, ?_, ?_⟩
    · have e1 := upL_split f m (k - m) (1 + (m + d - (k + 1)))
      have e2 := upL_split f k 1 (m + d - (k + 1))
      rw [show k - m + (1 + (m + d - (k + 1))) = d by omega, show m + (k - m) = k by omega, n1, List.append_nil, e2, s1] at e1
      exact e1
    · have e1 := upL_split f 0 k 1
      have e2 := upL_split f 0 m (k - m)
      rw [show m + (k - m) = k by omega, Nat.zero_add, n1] at e2
      rw [Nat.zero_add, s1, e2] at e1
      exact e1
/-! ### rows of yes and no -/
def bools (f : Nat → Bool) : List Value := (List.range 30).map fun i => .bool (f i)
theorem bools_get (f : Nat → Bool) (i : Nat) (hi : i < 30) : (bools f)[i]? = some (.bool (f i)) := by
  unfold bools
  rw [List.getElem?_map, List.getElem?_range hi]; rfl
theorem bools_set (f : Nat → Bool) (i : Nat) (b : Bool) : (bools f).set i (.bool b) = bools (up f i b) := by
  apply List.ext_getElem?
  intro j
  unfold bools
  rw [List.getElem?_set, List.getElem?_map, List.getElem?_map]
  by_cases hj : j < 30
  · rw [List.getElem?_range hj]
    by_cases e : i = j
    · subst e
      rw [if_pos rfl, if_pos (by simp; exact hj)]
      show _ = some (Value.bool (up f i b i))
      rw [up_at]
    · rw [if_neg e]
      show _ = some (Value.bool (up f i b j))
      rw [up_ne _ _ (Ne.symm e)]; rfl
  · rw [List.getElem?_eq_none (by simp; omega)]
    split
    · split
      · rename_i h1 h2; simp at h2; omega
      · rfl
    · rfl
def BR (w : World) (g : Nat) (f : Nat → Bool) : Prop := w.heap[g]? = some (.cells (bools f).toArray 4 (0, 0))
theorem BR.cell {w : World} {g : Nat} {f : Nat → Bool} (h : BR w g f) (i : Nat) (hi : i < 30) : w.cell? ⟨g, i, none⟩ = some (.bool (f i)) := by
  rw [blk_cell h, List.getElem?_toArray, bools_get f i hi]
theorem BR.set {w : World} {g : Nat} {f : Nat → Bool} (h : BR w g f) (i : Nat) (b : Bool) : BR (w.setCell ⟨g, i, none⟩ (.bool b)) g (up f i b) := by
  unfold BR at h ⊢
  rw [setCell_row h, setRow_heap w _ _ _ _ (0, 0) h, List.setIfInBounds_toArray, bools_set]
theorem BR.chg {w w' : World} {g : Nat} {f : Nat → Bool} {S : Nat → Prop} (h : BR w g f) (hc : Chg S w w') (hs : ¬ S g) : BR w' g f := hc.keep h hs
theorem mk30 (W : World) : (Instr.makeSlice 58 (.int .i64 30) (.int .i64 30)).run Try.prog W = .ok (.slice (some ⟨W.heap.size, 0, none⟩) 30 30) (W.alloc (.cells (bools fun _ => false).toArray 4)) := by kernel_rfl
end Go.Proofs.Ytfhffffdhlofgaa.Crawl

/- The walk of chapter 14's CrawlMeets. -/
namespace Go.Proofs.Ytfhffffdhlofgaa.Crawl
open Go Go.RowKit Go.Proofs.Ytfhffffdhlofgaa.Mem Go.Proofs.Ytfhffffdhlofgaa.CodecPure Go.Proofs.Ytfhffffdhlofgaa.ArenaPure Go.Proofs.Ytfhffffdhlofgaa.Codec Go.Proofs.Ytfhffffdhlofgaa.Arena Go.Proofs.Ytfhffffdhlofgaa.Item Go.Proofs.Ytfhffffdhlofgaa.Links Go.Proofs.Ytfhffffdhlofgaa.Inv
set_option linter.unusedVariables false
set_option maxRecDepth 100000
variable {B : Nat} {w0 w w' : World} {a : Ar} {h : Qh} {cb : Nat} {s : St} {L : List Int} {is : Bool} {mk : Int}
/-- none of a walk's blocks -/
def C3 (a : Ar) (h : Qh) (cb : Nat) (x : Nat) : Prop := C2 a h cb x ∨ x = a.g ∨ x = a.ps
/-- the rows of what is in and of what was met -/
structure Rows (B : Nat) (a : Ar) (h : Qh) (cb gi gm : Nat) (f g : Nat → Bool) (W : World) : Prop where
  inn : BR W gi f
  met : BR W gm g
  ne : gi ≠ gm
  off : ¬ C3 a h cb gi ∧ ¬ C3 a h cb gm
  low : B ≤ gi ∧ B ≤ gm
theorem Rows.chg {W W' : World} {gi gm : Nat} {f g : Nat → Bool} {S : Nat → Prop} (k : Rows B a h cb gi gm f g W) (hc : Chg S W W') (h1 : ¬ S gi) (h2 : ¬ S gm) : Rows B a h cb gi gm f g W' :=
  ⟨k.inn.chg hc h1, k.met.chg hc h2, k.ne, k.off, k.low⟩
theorem Rows.act {W W' : World} {gi gm : Nat} {f g : Nat → Bool} (k : Rows B a h cb gi gm f g W) (hc : Chg (C2 a h cb) W W') : Rows B a h cb gi gm f g W' :=
  k.chg hc (fun e => k.off.1 (.inl e)) fun e => k.off.2 (.inl e)
theorem CA.elsewhere (k : CA B w0 w a h cb s L is mk) {x : Nat} (hx : ¬ C3 a h cb x) (hB : B ≤ x) (i : Nat) (v : Value) : CA B w0 (w.setCell ⟨x, i, none⟩ v) a h cb s L is mk := by
  have hc : Chg (fun y => y = x) w (w.setCell ⟨x, i, none⟩ v) := Chg.setCell _ _ _ rfl
  refine ⟨k.q.other hc fun y e => ?_, hc.keep k.head fun e => hx (.inl (.inr e.symm)), k.low, k.sep⟩
  subst e
  exact ⟨hB, fun e => hx (.inr (.inl e)), fun e => hx (.inr (.inr e)), fun e => hx (.inl (.inl (.inl e))), fun e => hx (.inl (.inl (.inr (.inl e)))), fun e => hx (.inl (.inl (.inr (.inr e))))⟩
theorem Rows.setI {W : World} {gi gm : Nat} {f g : Nat → Bool} (k : Rows B a h cb gi gm f g W) (i : Nat) (b : Bool) : Rows B a h cb gi gm (up f i b) g (W.setCell ⟨gi, i, none⟩ (.bool b)) :=
  ⟨k.inn.set i b, k.met.chg (S := fun y => y = gi) (Chg.setCell _ _ _ rfl) fun e => k.ne e.symm, k.ne, k.off, k.low⟩
theorem Rows.setM {W : World} {gi gm : Nat} {f g : Nat → Bool} (k : Rows B a h cb gi gm f g W) (i : Nat) (b : Bool) : Rows B a h cb gi gm f (up g i b) (W.setCell ⟨gm, i, none⟩ (.bool b)) :=
  ⟨k.inn.chg (S := fun y => y = gm) (Chg.setCell _ _ _ rfl) k.ne, k.met.set i b, k.ne, k.off, k.low⟩
theorem below_up (k : Nat) : up (fun j => decide (j < k)) k true = fun j => decide (j < k + 1) := by
  funext j
  by_cases e : j = k
  · subst e; rw [up_at]; exact (decide_eq_true (by omega)).symm
  · rw [up_ne _ _ e]
    by_cases h : j < k
    · rw [decide_eq_true h, decide_eq_true (by omega)]
    · rw [decide_eq_false h, decide_eq_false (by omega)]
theorem upL_len (f : Nat → Bool) (m : Nat) : ∀ d, (upL f m d).length ≤ d
  | 0 => Nat.le_refl _
  | d + 1 => by
    have := upL_len f m d
    show List.length (if f (m + d) = true then 64 * ((m + d : Nat) : Int) :: upL f m d else upL f m d) ≤ d + 1
    split
    · rw [List.length_cons]; omega
    · omega
/-- what holds between two steps -/
structure Mid (B : Nat) (w0 : World) (a : Ar) (h : Qh) (cb gi gm n m d : Nat) (f g : Nat → Bool) (s : St) (W : World) : Prop where
  walk : CA B w0 W a h cb s (stL f m d) true 2048
  rows : Rows B a h cb gi gm f g W
  dom : ∀ k, f k = true → k < n
  done : ∀ k, k < m → f k = true → g k = true
  todo : ∀ k, m ≤ k → g k = false
theorem Mid.gone {w0 W W7 : World} {gi gm n m d kk : Nat} {f g : Nat → Bool} {s s7 : St} (M : Mid B w0 a h cb gi gm n m d f g s W) (h7 : CA B w0 W7 a h cb s7 (stL (up f kk false) m d) true 2048) (R7 : Rows B a h cb gi gm f g W7) :
    Mid B w0 a h cb gi gm n m d (up f kk false) g s7 (W7.setCell ⟨gi, kk, none⟩ (.bool false)) := by
  have o : ∀ j, up f kk false j = true → f j = true := fun j hj => by
    by_cases e : j = kk
    · subst e; rw [up_at] at hj; cases hj
    · rwa [up_ne _ _ e] at hj
  exact ⟨h7.elsewhere R7.off.1 R7.low.1 _ _, R7.setI kk false, fun j hj => M.dom j (o j hj), fun j hj h => M.done j hj (o j h), M.todo⟩
theorem Mid.next {w0 W W7 : World} {gi gm n m d t d' : Nat} {f g : Nat → Bool} {s s7 : St} (M : Mid B w0 a h cb gi gm n m d f g s W) (h7 : CA B w0 W7 a h cb s7 (stL f (t + 1) d') true 2048) (R7 : Rows B a h cb gi gm f g W7)
    (h1 : m ≤ t) (h3 : ∀ j, m ≤ j → j < t → f j = false) : Mid B w0 a h cb gi gm n (t + 1) d' f (up g t true) s7 (W7.setCell ⟨gm, t, none⟩ (.bool true)) := by
  refine ⟨h7.elsewhere R7.off.2 R7.low.2 _ _, R7.setM t true, M.dom, fun j hj hf => ?_, fun j hj => by rw [up_ne _ _ (by omega)]; exact M.todo j (by omega)⟩
  by_cases e : j = t
  · subst e; rw [up_at]
  · rw [up_ne _ _ e]
    by_cases e2 : j < m
    · exact M.done j e2 hf
    · rw [h3 j (by omega) (by omega)] at hf; cases hf
set_option maxHeartbeats 1000000 in
theorem meets_walk (n0 : Int) (A : Option Addr) (c : Nat) (l : List Int) (w : World) (wf0 : (Lit.int .i64 n0).wf = true) (hl : RowOf w .i64 A c l 8) :
    Calls Try.prog 9 #[(.int .i64 n0), .slice A l.length c] w fun e w' => e = .returned (.bool true) ∧ Below w.heap.size w w' := by
  have hlm : l.length ≤ 9223372036854775807 := Nat.le_trans hl.cap hl.most
  replace hl := Lib.hid hl
  clear wf0
  obtain ⟨ln, hn⟩ : ∃ n, l.length = n := ⟨_, rfl⟩
  rw [hn] at hlm ⊢
  replace hn := Lib.hid hn
  obtain ⟨p, hp, p1, p2⟩ := small n0 28 (by decide)
  replace p1 : (IntKind.u64.wrap n0).tmod 28 = p := p1
  clear p2
  obtain ⟨n, hnp⟩ : ∃ n, 1 + p = n := ⟨_, rfl⟩
  have hnp' : (1 : Int) + p = n := by omega
  have hn28 : n ≤ 28 := by omega
  have hn1 : 1 ≤ n := by omega
  have MK := @mk30
  go_enter Try.func9, Try.ntmps9
  go_wp2_with fail
  refine (Crawl.works_calls w).mono ?_
  rintro e wa ⟨rfl, hc⟩
  have CW := Lib.hid hc
  clear hc
  go_wp2_with fail
  refine (laid_calls wa).mono ?_
  rintro e w1 ⟨a, r, rfl, T⟩
  replace T := Lib.hid T
  go_wp2_with fail
  refine (CA.begin T.out).mono ?_
  rintro e w2 ⟨h, rfl, -, Q2, -, -⟩
  replace Q2 := Lib.hid Q2
  clear T
  go_wp2_with fail
  refine (CA.new Q2.out).mono ?_
  rintro e w3 ⟨cb, rfl, H0, -, -⟩
  have H1 := Lib.hid ((H0.fresh (Chg.alloc _ w3 (.cells (bools fun _ => false).toArray 4))).fresh (Chg.alloc _ _ (.cells (bools fun _ => false).toArray 4)))
  have R1 : Rows wa.heap.size a h cb w3.heap.size (w3.heap.size + 1) (fun _ => false) (fun _ => false) ((w3.alloc (.cells (bools fun _ => false).toArray 4)).alloc (.cells (bools fun _ => false).toArray 4)) := by
    have b1 := heap_alloc_at w3 (.cells (bools fun _ => false).toArray 4)
    have b2 := heap_alloc_at (w3.alloc (.cells (bools fun _ => false).toArray 4)) (.cells (bools fun _ => false).toArray 4)
    rw [World.size_alloc] at b2
    have bl := H0.q.blocks
    have lt : ∀ x, C3 a h cb x → x < w3.heap.size := fun x hx => by
      rcases hx with (hx | rfl) | rfl | rfl
      · exact H0.q.q2_lt x hx
      · exact blk_lt H0.head
      · exact bl.1
      · exact bl.2.1
    exact ⟨(Chg.alloc (fun _ => False) _ _).keep b1 id, b2, by omega, ⟨fun hx => by have := lt _ hx; omega, fun hx => by have := lt _ hx; omega⟩, by omega, by omega⟩
  replace R1 := Lib.hid R1
  clear Q2 H0
  go_wp2_with fail
  clear p1 hnp' hnp hp
  obtain ⟨gi, hgi⟩ : ∃ x, w3.heap.size = x := ⟨_, rfl⟩
  rw [hgi] at R1 ⊢
  obtain ⟨gm, hgm⟩ : ∃ x, gi + 1 = x := ⟨_, rfl⟩
  rw [hgm] at R1 ⊢
  obtain ⟨W0, hW0⟩ : ∃ W, (w3.alloc (.cells (bools fun _ => false).toArray 4)).alloc (.cells (bools fun _ => false).toArray 4) = W := ⟨_, rfl⟩
  rw [hW0] at R1 H1 ⊢
  clear hgi hgm hW0 MK
  go_loopg [12] n (fun g i wr => ∃ (k : Nat) (s : St), i = .int .i64 k ∧ g = n - k ∧ k ≤ n ∧ Hid (CA wa.heap.size wa wr a h cb s (downL k) false 0) ∧ Hid (Rows wa.heap.size a h cb gi gm (fun j => decide (j < k)) (fun _ => false) wr))
  case atStart => exact ⟨0, _, rfl, rfl, by omega, H1.out, R1.out⟩
  case round =>
    clear H1 R1
    obtain ⟨k, s, rfl, hg, hk, H1, R1⟩ := hrel
    obtain ⟨wo, rfl⟩ : ∃ wo : World, wo = wr := ⟨_, rfl⟩
    replace hg := Lib.hid hg
    by_cases h1 : k < n
    · have h1' : (k : Int) < n := by omega
      have h30 : (k : Int) < 30 := by omega
      have PC := Lib.hid (fun W => place10_calls (k : Int) W k (by omega) (small30 k (by omega)))
      have PU := Lib.hid (H1.out.pushE (down_push (k := k) (by omega)) (down_in (by omega)).chunk (down_in (by omega)).i64)
      clear H1
      go_wp2_with fail
      refine (PC.out _).mono ?_
      rintro e w5 ⟨rfl, rfl⟩
      go_wp2_with fail
      refine PU.out.mono ?_
      rintro e w6 ⟨rfl, s', hnew, hc⟩
      have R2 := R1.out.act hc
      have ci := R2.inn.cell k (by omega)
      have fi := blk_frozen R2.inn k
      have H2 : Hid (CA wa.heap.size wa (w6.setCell ⟨gi, k, none⟩ (.bool true)) a h cb s' (downL (k + 1)) false 0) := hnew.elsewhere R2.off.1 R2.low.1 _ _
      have R3 : Hid (Rows wa.heap.size a h cb gi gm (fun j => decide (j < k + 1)) (fun _ => false) (w6.setCell ⟨gi, k, none⟩ (.bool true))) := by
        have := R2.setI k true
        rw [below_up] at this
        exact this
      clear PU PC R1 R2 hnew hc
      have wk1 : IntKind.i64.wrap ((k : Int) + 1) = (k : Int) + 1 := IntWalk.i64_in _ (by omega)
      go_wp2_with fail
      go_roundg (n - (k + 1))
      case measure => have := hg.out; omega
      case rel => exact ⟨k + 1, s', rfl, rfl, by omega, H2.out, R3.out⟩
    · obtain rfl : k = n := by omega
      clear h1 hg hk
      obtain ⟨AL, hAL⟩ := down_last k hn1
      have hAL := Lib.hid hAL
      have HS := H1.out
      rw [hAL.out] at HS
      have ST := CA.startE HS (x := 2048) (by decide) (by rw [← hAL.out]; exact mark_not (by omega) (by decide))
      rw [show AL ++ [0, 2048] = (AL ++ [0]) ++ [2048] by simp, ← hAL.out] at ST
      replace ST := Lib.hid ST
      clear HS H1
      go_wp2_with fail
      refine ST.out.mono ?_
      rintro e w5 ⟨rfl, s5, hnew, hc⟩
      have R5 := Lib.hid (R1.out.act hc)
      have H5 := Lib.hid hnew
      clear ST hnew R1 hc
      go_wp2_with fail
      have hm0 : Mid wa.heap.size wa a h cb gi gm k 0 k (fun j => decide (j < k)) (fun _ => false) s5 w5 := by
        have e : stL (fun j => decide (j < k)) 0 k = downL k ++ [2048] := by
          show upL _ 0 k ++ 2048 :: [] = _
          rw [upL_down fun j hj => decide_eq_true hj]
        exact ⟨by rw [e]; exact H5.out, R5.out, fun j hj => of_decide_eq_true hj, fun j hj => by omega, fun j _ => rfl⟩
      replace hm0 := Lib.hid hm0
      clear H5 R5 hAL
      go_loopg [13, 14] (k + 1) (fun g lv i wr => ∃ (j m d : Nat) (f gg : Nat → Bool) (s : St) (z : Int), lv = .int .i64 z ∧ z = (m : Int) - 1 ∧ i = .int .i64 j ∧ g = k + 1 - j ∧ j ≤ m ∧ m + d = k ∧ Hid (Mid wa.heap.size wa a h cb gi gm k m d f gg s wr))
      case atStart => exact ⟨0, 0, k, _, _, _, -1, rfl, rfl, rfl, rfl, Nat.le_refl _, by omega, hm0.out⟩
      case round =>
        clear hm0
        obtain ⟨j, m, d, f, gg, s, z, rfl, hz, rfl, hg, hj, hmd, M⟩ := hrel
        obtain ⟨wo, rfl⟩ : ∃ wo : World, wo = wr := ⟨_, rfl⟩
        replace hg := Lib.hid hg
        replace hz := Lib.hid hz
        have hmk : m ≤ k := by omega
        have hjn : (j : Int) ≤ k := by omega
        have wk1 : IntKind.i64.wrap ((j : Int) + 1) = (j : Int) + 1 := IntWalk.i64_in _ (by omega)
        replace hmd := Lib.hid hmd
        go_upto_if 63 with fail
        go_cut [] (fun wc => ∃ (f : Nat → Bool) (s : St), Hid (Mid wa.heap.size wa a h cb gi gm k m d f gg s wc))
        case first =>
          by_cases h1 : j < ln
          · have h1' : (j : Int) < ln := by omega
            obtain ⟨ad, rfl, cj⟩ := hl.out.sl j (by rw [hn.out]; exact h1)
            have cj2 := M.out.walk.q.here.chg.cell (CW.out.cell cj id) (by have := World.block_lt_of_cell? w _ cj; have := CW.out.size; omega)
            obtain ⟨x, hx⟩ : ∃ x, l.getD j 0 = x := ⟨_, rfl⟩
            rw [hx] at cj2
            obtain ⟨kk, hkk, q1, q2⟩ := small x 30 (by decide)
            replace q1 : (IntKind.u64.wrap x).tmod 30 = kk := q1
            clear q2 cj hx
            have k30 : (kk : Int) < 30 := by omega
            have PC := Lib.hid (fun W => place10_calls (kk : Int) W kk hkk (small30 kk hkk))
            have RM := Lib.hid ((M.out.walk.fresh (Chg.drew _ _)).removeE (stL_rem hmd.out (by omega) M.out.dom M.out.walk.nodup kk hkk))
            obtain ⟨b, hb⟩ : ∃ b, f kk = b := ⟨_, rfl⟩
            rw [hb] at RM
            have ci := M.out.rows.inn.cell kk hkk
            rw [hb] at ci
            replace hb := Lib.hid hb
            clear h1
            rcases Bool.eq_false_or_eq_true b with hb2 | hb2
            · subst hb2
              go_wp2_with fail
              go_region_held3 (fun w' => w'.cell? ⟨gi, kk, none⟩ = some (.bool true)) (go_keep)
               (first
                 | (go_at_call 37; refine (PC.out (World.drew wo)).mono ?_; rintro e w6 ⟨rfl, rfl⟩; skip)
                 | (go_at_call 15; refine RM.out.mono ?_; rintro e w7 ⟨rfl, s7, h7, c7⟩; have H7 := Lib.hid h7; have C7 := Lib.hid c7; have g7 := C7.out.cell (show (World.drew wo).cell? _ = _ from ci) fun e => M.out.rows.off.1 (.inl e); clear h7 c7; skip))
              have R7 := (M.out.rows.chg (Chg.drew (fun _ => False) _) id id).act C7.out
              have z7 := blk_frozen R7.inn kk
              have M7 := Lib.hid (M.out.gone H7.out R7)
              go_wp2_with fail
              go_meet
              exact ⟨_, s7, M7.out⟩
            · subst hb2
              go_wp2_with fail
              go_region_held3 (fun w' => w'.cell? ⟨gi, kk, none⟩ = some (.bool false)) (go_keep)
               (first
                 | (go_at_call 37; refine (PC.out (World.drew wo)).mono ?_; rintro e w6 ⟨rfl, rfl⟩; skip)
                 | (go_at_call 15; refine RM.out.mono ?_; rintro e w7 ⟨rfl, s7, h7, c7⟩; have H7 := Lib.hid h7; have C7 := Lib.hid c7; have g7 := C7.out.cell (show (World.drew wo).cell? _ = _ from ci) fun e => M.out.rows.off.1 (.inl e); clear h7 c7; skip))
              have R7 := (M.out.rows.chg (Chg.drew (fun _ => False) _) id id).act C7.out
              have z7 := blk_frozen R7.inn kk
              have M7 := Lib.hid (M.out.gone H7.out R7)
              go_wp2_with fail
              go_meet
              exact ⟨_, s7, M7.out⟩
          · have h1' : ¬ (j : Int) < ln := by omega
            clear h1
            go_wp2_with fail
            go_meet
            exact ⟨f, s, M.out⟩
        case rest =>
          clear M
          obtain ⟨f, s, M⟩ := hcut
          rcases stL_next f m d with hall | ⟨t, d', ht1, ht2, ht3, ht4, ht5, ht6⟩
          · have e0 : stL f m d = 2048 :: upL f 0 m := by unfold stL; rw [upL_none hall]; rfl
            have e1 : upL f 0 k = upL f 0 m := by
              have := upL_split f 0 m d
              rw [hmd.out, Nat.zero_add, upL_none hall] at this
              exact this
            have AL : Hid (∀ i, i < k → f i = true → gg i = true) := fun i hi hf => by
              by_cases e : i < m
              · exact M.out.done i e hf
              · have := hall (i - m) (by have := hmd.out; omega)
                rw [show m + (i - m) = i by omega] at this
                rw [this] at hf; cases hf
            have HS := M.out.walk
            rw [e0, ← e1] at HS
            have ST := Lib.hid (CA.stepEnd HS)
            have RW := M.out.rows
            replace RW := Lib.hid RW
            have N48 := Lib.hid ((stL_not (f := f) (m := 0) (d := k) (by omega)).1)
            clear HS e0 e1 hall M
            go_wp2_with fail
            refine ST.out.mono ?_
            rintro e w8 ⟨rfl, s8, h8, c8⟩
            have H8 := Lib.hid h8
            have R8 := Lib.hid (RW.out.act c8)
            clear ST RW h8 c8
            go_wp2_with fail
            refine (Crawl.walks_calls H8.out).mono ?_
            rintro e w9 ⟨rfl, rfl⟩
            go_wp2_with fail
            go_loopg [19, 20] k (fun g lv i wr => ∃ (j' : Nat) (s : St), lv = .int .i64 ((upL f 0 j').length : Nat) ∧ i = .int .i64 j' ∧ g = k - j' ∧ j' ≤ k ∧ Hid (CA wa.heap.size wa wr a h cb s (upL f 0 k) false 2048) ∧ Hid (Rows wa.heap.size a h cb gi gm f gg wr))
            case atStart => exact ⟨0, _, rfl, rfl, rfl, by omega, H8.out, R8.out⟩
            case round =>
              clear H8 R8
              obtain ⟨j', s', rfl, rfl, hg, hj', H9, R9⟩ := hrel
              obtain ⟨wo, rfl⟩ : ∃ wo : World, wo = wr := ⟨_, rfl⟩
              replace hg := Lib.hid hg
              by_cases h1 : j' < k
              · have h1' : (j' : Int) < k := by omega
                have t30 : (j' : Int) < 30 := by omega
                have ci := R9.out.inn.cell j' (by omega)
                have cm := R9.out.met.cell j' (by omega)
                have ll : (upL f 0 j').length ≤ 30 := Nat.le_trans (upL_len f 0 j') (by omega)
                obtain ⟨lf, hlf⟩ : ∃ lf, (upL f 0 j').length = lf := ⟨_, rfl⟩
                have wk1 : IntKind.i64.wrap ((j' : Int) + 1) = (j' : Int) + 1 := IntWalk.i64_in _ (by omega)
                have wk2 : IntKind.i64.wrap ((lf : Int) + 1) = (lf : Int) + 1 := IntWalk.i64_in _ (by omega)
                rw [hlf]
                replace hlf := Lib.hid hlf
                cases hf : f j' with
                | true =>
                  rw [hf] at ci
                  rw [AL.out j' h1 hf] at cm
                  have e9 : Hid (lf + 1 = (upL f 0 (j' + 1)).length) := by
                    show _ = List.length (if f (0 + j') = true then 64 * ((0 + j' : Nat) : Int) :: upL f 0 j' else upL f 0 j')
                    rw [Nat.zero_add, if_pos hf, List.length_cons, hlf.out]
                  clear hf
                  go_wp2_with fail
                  go_roundg (k - (j' + 1))
                  case measure => have := hg.out; omega
                  case rel => exact ⟨j' + 1, s', by rw [← e9.out]; rfl, rfl, rfl, by omega, H9.out, R9.out⟩
                | false =>
                  rw [hf] at ci
                  have e9 : Hid (lf = (upL f 0 (j' + 1)).length) := by
                    show _ = List.length (if f (0 + j') = true then 64 * ((0 + j' : Nat) : Int) :: upL f 0 j' else upL f 0 j')
                    rw [Nat.zero_add, if_neg (by rw [hf]; decide), hlf.out]
                  clear hf cm
                  go_wp2_with fail
                  go_roundg (k - (j' + 1))
                  case measure => have := hg.out; omega
                  case rel => exact ⟨j' + 1, s', by rw [← e9.out], rfl, rfl, by omega, H9.out, R9.out⟩
              · obtain rfl : j' = k := by omega
                clear h1 hg hj'
                obtain ⟨lf, hlf⟩ : ∃ lf, (upL f 0 j').length = lf := ⟨_, rfl⟩
                rw [hlf]
                have LN := Lib.hid (H9.out.lenE hlf)
                have HB : decide ((2048 : Int) ∈ upL f 0 j') = false := decide_eq_false N48.out
                have HA := Lib.hid (H9.out.q.hasE 2048 HB)
                clear hlf HB
                go_wp2_with fail
                refine LN.out.mono ?_
                rintro e w10 ⟨rfl, rfl⟩
                go_wp2_with fail
                refine HA.out.mono ?_
                rintro e w11 ⟨rfl, rfl⟩
                go_wp2_with fail
                go_ret
                exact ⟨rfl, (CW.out.trans (H9.out.q.here.chg.mono fun _ hl hb => by omega)).below (Nat.le_refl _) fun _ h => h.elim⟩
          · have ht30 : t < 30 := by have := hmd.out; omega
            have HS := M.out.walk
            have e0 : stL f m d = upL f (t + 1) d' ++ 64 * (t : Int) :: 2048 :: upL f 0 m := by unfold stL; rw [ht5]; simp
            have e1 : stL f (t + 1) d' = upL f (t + 1) d' ++ 2048 :: 64 * (t : Int) :: upL f 0 m := by unfold stL; rw [ht6]
            rw [e0] at HS
            have ST := CA.stepE HS (by decide)
            rw [← e1] at ST
            replace ST := Lib.hid ST
            clear HS e0 e1 ht5 ht6
            go_wp2_with fail
            refine ST.out.mono ?_
            rintro e w8 ⟨rfl, s8, h8, c8⟩
            have R8 := M.out.rows.act c8
            have ci := R8.inn.cell t ht30
            have cm := R8.met.cell t ht30
            rw [ht2] at ci
            rw [M.out.todo t ht1] at cm
            have zm := blk_frozen R8.met t
            have M8 := Lib.hid (M.out.next h8 R8 ht1 ht3)
            have q64 : (64 * (t : Int)).tdiv 64 = t := by rw [Int.tdiv_eq_ediv_of_nonneg (by omega)]; omega
            have t30 : (t : Int) < 30 := by omega
            have tk : ¬ ((k : Int) ≤ t) := by have := hmd.out; omega
            have tz : ¬ ((t : Int) ≤ z) := by have := hz.out; omega
            clear ST R8 h8 c8 M ht3
            go_wp2_with fail
            go_roundg (k + 1 - (j + 1))
            case measure => have := hg.out; omega
            case rel => exact ⟨j + 1, t + 1, d', f, _, s8, t, rfl, by omega, rfl, rfl, by omega, by have := hmd.out; omega, M8.out⟩
end Go.Proofs.Ytfhffffdhlofgaa.Crawl

