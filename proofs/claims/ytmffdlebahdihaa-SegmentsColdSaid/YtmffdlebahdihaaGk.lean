import Derived.Test.YtmffdlebahdihaaGj
/- The walk of chapter 13's SegmentsEnds. -/
namespace Go.Proofs.Ytmffdlebahdihaa.Seg
open Go Go.RowKit Go.Proofs.Ytmffdlebahdihaa.Mem Go.Proofs.Ytmffdlebahdihaa.CodecPure Go.Proofs.Ytmffdlebahdihaa.ArenaPure Go.Proofs.Ytmffdlebahdihaa.Codec Go.Proofs.Ytmffdlebahdihaa.Arena Go.Proofs.Ytmffdlebahdihaa.Item Go.Proofs.Ytmffdlebahdihaa.Links
set_option linter.unusedVariables false
set_option maxRecDepth 100000
theorem jugS_less {L : Nat → List Nat} {F : Nat → Int → Int} (h : SI L F) (hj : (jug L F).isSome = true) : cnt (jugS L F).1 = cnt L ∧ pot (jugS L F).1 (jugS L F).2 + 1 = pot L F := by
  cases e : jug L F with
  | none => rw [e] at hj; cases hj
  | some q =>
    rw [jugS_some e]
    exact h.jug_less e
set_option maxHeartbeats 4000000 in
theorem ends_walk (A : Option Addr) (c : Nat) (l : List (List Int)) (w : World) (hl : SRow w [.i64, .i64, .i64, .i64] A c l) :
    Calls Try.prog 8 #[.slice A l.length c] w fun e w' => e = .returned (.bool true) ∧ Below w.heap.size w w' := by
  have DC := Lib.hid (fun W (h : Chg (fun _ => False) w W) => done_calls w A c l W hl h)
  go_enter Try.func8, Try.ntmps8
  go_wp2_with fail
  refine (works13_calls w).mono ?_
  rintro e wa ⟨rfl, hc⟩
  have CW := Lib.hid hc
  have D2 := Lib.hid (DC.out _ hc)
  clear hc DC hl
  go_wp2_with fail
  refine D2.out.mono ?_
  rintro e w1 ⟨lh, a, rfl, L, F, K, -⟩
  have CBW : Hid (∀ W, Chg (fun b => wa.heap.size ≤ b) wa W → Below w.heap.size w W) := fun W hc => ((CW.out.mono fun _ _ h => h.elim).trans (hc.mono fun b _ hb => Nat.le_trans CW.out.size hb)).below (Nat.le_refl _) fun _ h => h
  have CT := Lib.hid K.counts
  have l0 := K.len30 (i := 0) (by decide)
  have l1 := K.len30 (i := 1) (by decide)
  have l2 := K.len30 (i := 2) (by decide)
  replace K := Lib.hid K
  clear D2
  go_wp2_with fail
  refine CT.out.mono ?_
  rintro e w2 ⟨rfl, hd⟩
  have K2 := Lib.hid (K.out.fresh (hd.chg _))
  have P0 := Lib.hid (pot_le L F)
  clear hd CT K
  obtain ⟨n, hn⟩ : ∃ n, cnt L = n := ⟨_, rfl⟩
  have hn2 : ((L 0).length : Int) + ((L 1).length : Int) + ((L 2).length : Int) = (n : Int) := by rw [← hn]; unfold cnt; omega
  have n90 : n ≤ 90 := by rw [← hn]; unfold cnt; omega
  rw [hn] at P0
  replace hn := Lib.hid hn
  go_wp2_with fail
  go_loopg [9] (2 * n + 1) (fun q i wr => ∃ (k : Nat) (L : Nat → List Nat) (F : Nat → Int → Int), i = .int .i64 k ∧ q = 2 * n + 1 - k ∧ Hid (SE wa.heap.size wa wr a lh L F) ∧ Hid (cnt L = n) ∧ Hid (pot L F + k ≤ 2 * n))
  case atStart => exact ⟨0, L, F, rfl, rfl, K2.out, hn.out, P0.out⟩
  case round =>
    clear K2 hn P0 hn2 l0 l1 l2
    obtain ⟨k, L, F, rfl, hg, K, hc, hp⟩ := hrel
    replace hg := Lib.hid hg
    have hk := hp.out
    have h3 : (k : Int) ≤ 3 * (n : Int) := by omega
    have k180 : k ≤ 180 := by omega
    have JG := K.out.jugC
    by_cases hj : (jug L F).isSome = true
    · have JL := jugS_less K.out.si hj
      rw [hj] at JG
      replace JG := Lib.hid JG
      replace JL := Lib.hid JL
      clear hj hk
      go_wp2_with fail
      refine JG.out.mono ?_
      rintro e w3 ⟨rfl, k3, -⟩
      replace k3 := Lib.hid k3
      clear JG
      go_wp2_with fail
      go_roundg (2 * n + 1 - (k + 1))
      case measure => have := hg.out; have := hp.out; have := JL.out.2; omega
      case rel => exact ⟨k + 1, _, _, rfl, rfl, k3.out, JL.out.1.trans hc.out, by have := hp.out; have := JL.out.2; show _ ≤ _; omega⟩
    · have hj2 : (jug L F).isSome = false := by simpa using hj
      have hj3 : jug L F = none := by simpa using hj
      obtain ⟨u1, u2⟩ := jug_none hj3
      rw [hj2, jugS_no hj2] at JG
      replace JG := Lib.hid JG
      have l0 := K.out.len30 (i := 0) (by decide)
      have l1 := K.out.len30 (i := 1) (by decide)
      have l2 := K.out.len30 (i := 2) (by decide)
      have CT : Hid (∀ W, SE wa.heap.size wa W a lh L F → Calls Try.prog 32 #[(.pointer (some ⟨lh.b, 0, none⟩))] W fun e w' => e = .returned (.tuple #[.int .i64 (L 0).length, .int .i64 (L 1).length, .int .i64 (L 2).length]) ∧ Dr W w') := fun W h => h.counts
      have e0 : cnt L = (L 0).length + (L 1).length + (L 2).length := rfl
      rw [hc.out] at u1 u2 e0
      generalize (L 0).length = n0 at *
      generalize (L 1).length = n1 at *
      generalize (L 2).length = n2 at *
      have v1 : (n0 : Int) + (n1 : Int) + (n2 : Int) = (n : Int) := by omega
      have v2 : (5 : Int) * (n0 : Int) ≤ (n : Int) := by omega
      have v3 : (5 : Int) * (n1 : Int) ≤ 2 * (n : Int) := by omega
      clear hj hj2 hj3 u1 u2 e0 hk
      go_wp2_with fail
      refine JG.out.mono ?_
      rintro e w3 ⟨rfl, k3, -⟩
      have C3 := Lib.hid (CT.out _ k3)
      replace k3 := Lib.hid k3
      clear JG CT
      go_wp2_with fail
      refine C3.out.mono ?_
      rintro e w4 ⟨rfl, hd⟩
      have FF := Lib.hid (CBW.out _ (k3.out.fresh (hd.chg _)).chg)
      clear hd C3 k3
      go_wp2_with fail
      go_ret
      exact ⟨by simp, FF.out⟩
end Go.Proofs.Ytmffdlebahdihaa.Seg

