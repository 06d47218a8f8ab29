import Derived.Test.YtmffdlebahdihaaGi
/- The segments' Juggle. -/
namespace Go.Proofs.Ytmffdlebahdihaa.Seg
open Go Go.RowKit Go.Proofs.Ytmffdlebahdihaa.Mem Go.Proofs.Ytmffdlebahdihaa.CodecPure Go.Proofs.Ytmffdlebahdihaa.ArenaPure Go.Proofs.Ytmffdlebahdihaa.Codec Go.Proofs.Ytmffdlebahdihaa.Arena Go.Proofs.Ytmffdlebahdihaa.Item Go.Proofs.Ytmffdlebahdihaa.Links
set_option linter.unusedVariables false
set_option maxRecDepth 100000
variable {B : Nat} {w0 w w' : World} {a : Ar} {s s' : St} {L : Nat → List Nat} {F : Nat → Int → Int} {i k z : Nat} {l : Lh}
theorem tail_nil : tail (at64 []) = (0, false) := rfl
theorem tail_snoc (A : List Nat) (k : Nat) : tail (at64 (A ++ [k])) = (64 * (k : Int), true) := by
  have e : at64 (A ++ [k]) = at64 A ++ [64 * (k : Int)] := by unfold at64; rw [List.map_append]; rfl
  unfold tail
  rw [e, if_neg (by simp)]
  simp
theorem SW.tailC (h : SW w a l s L F) (hi : i < 3) {t : Int} {b : Bool} (ht : tail (at64 (L i)) = (t, b)) (hd : Dr w w') : Calls Try.prog 65 #[(.pointer (some ⟨(l.q i).q, 0, none⟩))] w' fun e w2 => e = .returned (.tuple #[.int .i64 t, .bool b]) ∧ w2 = w' := by
  have := tail_calls ((h.fresh (hd.chg _)).q i hi)
  rw [ht] at this
  exact this.mono fun e w2 ⟨e1, e2⟩ => ⟨e1, e2.symm⟩
def jugS (L : Nat → List Nat) (F : Nat → Int → Int) : St3 := (jug L F).getD (L, F)
theorem jugS_some {q : St3} (h : jug L F = some q) : jugS L F = q := by unfold jugS; rw [h]; rfl
theorem jugS_none (h : jug L F = none) : jugS L F = (L, F) := by unfold jugS; rw [h]; rfl
set_option maxHeartbeats 4000000 in
theorem SE.jugC (q : SE B w0 w a l L F) : Calls Try.prog 33 #[(.pointer (some ⟨l.b, 0, none⟩))] w (SEnd B w0 w a l (jugS L F) (.bool (jug L F).isSome)) := by
  have CT := Lib.hid q.counts
  have h0 := q.len30 (i := 0) (by decide)
  have h1 := q.len30 (i := 1) (by decide)
  have h2 := q.len30 (i := 2) (by decide)
  have JC := jug_cases L F
  have js : (5 * (L 0).length > cnt L ∧ jseg L = 0) ∨ (¬ 5 * (L 0).length > cnt L ∧ 5 * (L 1).length > 2 * cnt L ∧ jseg L = 1) ∨ (¬ 5 * (L 0).length > cnt L ∧ ¬ 5 * (L 1).length > 2 * cnt L ∧ jseg L = 2) := by
    unfold jseg
    by_cases a0 : 5 * (L 0).length > cnt L
    · exact .inl ⟨a0, if_pos a0⟩
    · by_cases a1 : 5 * (L 1).length > 2 * cnt L
      · exact .inr (.inl ⟨a0, a1, by rw [if_neg a0, if_pos a1]⟩)
      · exact .inr (.inr ⟨a0, a1, by rw [if_neg a0, if_neg a1]⟩)
  have hj := jseg_lt L
  have MV : Hid (∀ (A : List Nat) (k z : Nat), L (jseg L) = A ++ [k] → jug L F = some (goesL L (jseg L) k z, goesF F k z) → z < 3 → ∀ W, Dr w W → Calls Try.prog 67 #[(.pointer (some ⟨l.b, 0, none⟩)), (.int .i64 (64 * (k : Int))), (.int .i64 ((z : Int)))] W fun e w' => e = .returned (.tuple #[]) ∧ SEnd B w0 w a l (jugS L F) (.bool (jug L F).isSome) (.returned (.bool true)) w') := fun A k z e ej hz W hd => by
    rw [jugS_some ej, ej]
    exact (goes_calls (q.fresh (hd.chg _)) hj (by rw [e]; simp) hz).mono fun e w' ⟨e1, e2, e3⟩ => ⟨e1, rfl, e2, ((hd.chg (fun _ => False)).mono fun _ _ h => h.elim).trans e3⟩
  have NO : Hid (jug L F = none → ∀ W, Chg (fun _ => False) w W → SEnd B w0 w a l (jugS L F) (.bool (jug L F).isSome) (.returned (.bool false)) W) := fun e W hc => by
    rw [jugS_none e, e]
    exact q.same rfl hc
  obtain ⟨s, h⟩ := q.ex
  have c1 := h.c1
  have c2 := h.c2
  have c3 := h.c3
  have TN : Hid (∀ i, i < 3 → L i = [] → ∀ W, Dr w W → Calls Try.prog 65 #[(.pointer (some ⟨(l.q i).q, 0, none⟩))] W fun e w2 => e = .returned (.tuple #[.int .i64 0, .bool false]) ∧ w2 = W) := fun i hi e W hd => h.tailC hi (by rw [e]; rfl) hd
  have TS : Hid (∀ (i : Nat) (A : List Nat) (k : Nat), i < 3 → L i = A ++ [k] → ∀ W, Dr w W → Calls Try.prog 65 #[(.pointer (some ⟨(l.q i).q, 0, none⟩))] W fun e w2 => e = .returned (.tuple #[.int .i64 (64 * (k : Int)), .bool true]) ∧ w2 = W) := fun i A k hi e W hd => h.tailC hi (by rw [e]; exact tail_snoc A k) hd
  have BT : Hid (∀ (i : Nat) (A : List Nat) (k : Nat), i < 3 → L i = A ++ [k] → (Go.bits .and .i64 (F k 10) 4 != 0) = decide (F k 10 ≥ 4) ∧ ∀ W, Dr w W → Calls Try.prog 66 #[(.pointer (some ⟨l.b, 0, none⟩)), (.int .i64 (64 * (k : Int)))] W fun e w' => e = .returned (.int .i64 (F k 10)) ∧ Chg (fun _ => False) W w') := fun i A k hi e => by
    have hk := q.si.lt i hi k (by rw [e]; simp)
    obtain ⟨b0, b1⟩ := q.si.bit k hk
    exact ⟨(bits_tab b0 b1).2.2.2.1, fun W hd => bits_calls (h.fresh (hd.chg _)) hk⟩
  have MV2 : Hid (∀ (A : List Nat) (k z : Nat), L (jseg L) = A ++ [k] → jug L F = some (goesL L (jseg L) k z, goesF F k z) → z < 3 → ∀ W, Chg (fun _ => False) w W → Calls Try.prog 67 #[(.pointer (some ⟨l.b, 0, none⟩)), (.int .i64 (64 * (k : Int))), (.int .i64 ((z : Int)))] W fun e w' => e = .returned (.tuple #[]) ∧ SEnd B w0 w a l (jugS L F) (.bool (jug L F).isSome) (.returned (.bool true)) w') := fun A k z e ej hz W hd => by
    rw [jugS_some ej, ej]
    exact (goes_calls (q.fresh hd) hj (by rw [e]; simp) hz).mono fun e w' ⟨e1, e2, e3⟩ => ⟨e1, rfl, e2, (hd.mono fun _ _ h => h.elim).trans e3⟩
  generalize SEnd B w0 w a l (jugS L F) (.bool (jug L F).isSome) = P at *
  clear MV h q hj
  unfold cnt at js
  rcases js with ⟨a0, ej⟩ | ⟨a0, a1, ej⟩ | ⟨a0, a1, ej⟩
  · rw [ej] at JC MV2
    replace JC := Lib.hid JC
    obtain ⟨n0, e0⟩ : ∃ n, (L 0).length = n := ⟨_, rfl⟩
    obtain ⟨n1, e1⟩ : ∃ n, (L 1).length = n := ⟨_, rfl⟩
    obtain ⟨n2, e2⟩ : ∃ n, (L 2).length = n := ⟨_, rfl⟩
    rw [e0, e1, e2] at CT
    rw [e0, e1, e2] at a0
    rw [e0] at h0
    rw [e1] at h1
    rw [e2] at h2
    have i0 : (5 : Int) * (n0 : Int) > (n0 : Int) + (n1 : Int) + (n2 : Int) := by omega
    clear a0 ej e0 e1 e2
    rcases JC.out with ⟨-, ⟨-, hx⟩ | ⟨-, -, -, -, hx⟩⟩ | ⟨A, k, z, e, hj2, ⟨hb, rfl⟩ | ⟨hb, rfl, -⟩⟩
    · exact absurd hx (by decide)
    · exact absurd hx (by decide)
    · have TT := Lib.hid (TS.out 0 A k (by decide) e)
      obtain ⟨tb, BB⟩ := BT.out 0 A k (by decide) e
      rw [decide_eq_true hb] at tb
      have GO := Lib.hid (MV2.out A k 1 e hj2 (by decide))
      replace BB := Lib.hid BB
      generalize F k 10 = b at tb BB
      clear JC MV2 NO TN TS BT e hj2 hb
      go_enter Try.func33, Try.ntmps33
      go_wp2_with fail
      refine CT.out.mono ?_
      rintro e w1 ⟨rfl, hd⟩
      have d1 := (hd.chg (fun _ => False)).cell c1 id
      have d2 := (hd.chg (fun _ => False)).cell c2 id
      have d3 := (hd.chg (fun _ => False)).cell c3 id
      replace hd := Lib.hid hd
      clear CT c1 c2 c3
      go_wp2_with fail
      refine (TT.out w1 hd.out).mono ?_
      rintro e w2 ⟨rfl, rfl⟩
      clear TT d1 d2 d3
      go_wp2_with fail
      refine (BB.out w2 hd.out).mono ?_
      rintro e w3 ⟨rfl, hc⟩
      have C3 := Lib.hid ((hd.out.chg (fun _ => False)).trans hc)
      clear BB hc
      go_wp2_with fail
      refine (GO.out w3 C3.out).mono ?_
      rintro e w4 ⟨rfl, hP⟩
      replace hP := Lib.hid hP
      clear GO tb
      go_wp2_with fail
      exact hP.out
    · have TT := Lib.hid (TS.out 0 A k (by decide) e)
      obtain ⟨tb, BB⟩ := BT.out 0 A k (by decide) e
      rw [decide_eq_false (by omega)] at tb
      have GO := Lib.hid (MV2.out A k 2 e hj2 (by decide))
      replace BB := Lib.hid BB
      generalize F k 10 = b at tb BB
      clear JC MV2 NO TN TS BT e hj2 hb
      go_enter Try.func33, Try.ntmps33
      go_wp2_with fail
      refine CT.out.mono ?_
      rintro e w1 ⟨rfl, hd⟩
      have d1 := (hd.chg (fun _ => False)).cell c1 id
      have d2 := (hd.chg (fun _ => False)).cell c2 id
      have d3 := (hd.chg (fun _ => False)).cell c3 id
      replace hd := Lib.hid hd
      clear CT c1 c2 c3
      go_wp2_with fail
      refine (TT.out w1 hd.out).mono ?_
      rintro e w2 ⟨rfl, rfl⟩
      clear TT d1 d2 d3
      go_wp2_with fail
      refine (BB.out w2 hd.out).mono ?_
      rintro e w3 ⟨rfl, hc⟩
      have C3 := Lib.hid ((hd.out.chg (fun _ => False)).trans hc)
      clear BB hc
      go_wp2_with fail
      refine (GO.out w3 C3.out).mono ?_
      rintro e w4 ⟨rfl, hP⟩
      replace hP := Lib.hid hP
      clear GO tb
      go_wp2_with fail
      exact hP.out
  · rw [ej] at JC MV2
    replace JC := Lib.hid JC
    obtain ⟨n0, e0⟩ : ∃ n, (L 0).length = n := ⟨_, rfl⟩
    obtain ⟨n1, e1⟩ : ∃ n, (L 1).length = n := ⟨_, rfl⟩
    obtain ⟨n2, e2⟩ : ∃ n, (L 2).length = n := ⟨_, rfl⟩
    rw [e0, e1, e2] at CT
    rw [e0, e1, e2] at a0 a1
    rw [e0] at h0
    rw [e1] at h1
    rw [e2] at h2
    have i0 : ¬ (5 : Int) * (n0 : Int) > (n0 : Int) + (n1 : Int) + (n2 : Int) := by omega
    have i1 : (5 : Int) * (n1 : Int) > 2 * ((n0 : Int) + (n1 : Int) + (n2 : Int)) := by omega
    clear a0 a1 ej e0 e1 e2
    rcases JC.out with ⟨-, ⟨-, hx⟩ | ⟨-, -, -, -, hx⟩⟩ | ⟨A, k, z, e, hj2, ⟨hb, rfl⟩ | ⟨hb, rfl, -⟩⟩
    · exact absurd hx (by decide)
    · exact absurd hx (by decide)
    · have TT := Lib.hid (TS.out 1 A k (by decide) e)
      obtain ⟨tb, BB⟩ := BT.out 1 A k (by decide) e
      rw [decide_eq_true hb] at tb
      have GO := Lib.hid (MV2.out A k 1 e hj2 (by decide))
      replace BB := Lib.hid BB
      generalize F k 10 = b at tb BB
      clear JC MV2 NO TN TS BT e hj2 hb
      go_enter Try.func33, Try.ntmps33
      go_wp2_with fail
      refine CT.out.mono ?_
      rintro e w1 ⟨rfl, hd⟩
      have d1 := (hd.chg (fun _ => False)).cell c1 id
      have d2 := (hd.chg (fun _ => False)).cell c2 id
      have d3 := (hd.chg (fun _ => False)).cell c3 id
      replace hd := Lib.hid hd
      clear CT c1 c2 c3
      go_wp2_with fail
      refine (TT.out w1 hd.out).mono ?_
      rintro e w2 ⟨rfl, rfl⟩
      clear TT d1 d2 d3
      go_wp2_with fail
      refine (BB.out w2 hd.out).mono ?_
      rintro e w3 ⟨rfl, hc⟩
      have C3 := Lib.hid ((hd.out.chg (fun _ => False)).trans hc)
      clear BB hc
      go_wp2_with fail
      refine (GO.out w3 C3.out).mono ?_
      rintro e w4 ⟨rfl, hP⟩
      replace hP := Lib.hid hP
      clear GO tb
      go_wp2_with fail
      exact hP.out
    · have TT := Lib.hid (TS.out 1 A k (by decide) e)
      obtain ⟨tb, BB⟩ := BT.out 1 A k (by decide) e
      rw [decide_eq_false (by omega)] at tb
      have GO := Lib.hid (MV2.out A k 2 e hj2 (by decide))
      replace BB := Lib.hid BB
      generalize F k 10 = b at tb BB
      clear JC MV2 NO TN TS BT e hj2 hb
      go_enter Try.func33, Try.ntmps33
      go_wp2_with fail
      refine CT.out.mono ?_
      rintro e w1 ⟨rfl, hd⟩
      have d1 := (hd.chg (fun _ => False)).cell c1 id
      have d2 := (hd.chg (fun _ => False)).cell c2 id
      have d3 := (hd.chg (fun _ => False)).cell c3 id
      replace hd := Lib.hid hd
      clear CT c1 c2 c3
      go_wp2_with fail
      refine (TT.out w1 hd.out).mono ?_
      rintro e w2 ⟨rfl, rfl⟩
      clear TT d1 d2 d3
      go_wp2_with fail
      refine (BB.out w2 hd.out).mono ?_
      rintro e w3 ⟨rfl, hc⟩
      have C3 := Lib.hid ((hd.out.chg (fun _ => False)).trans hc)
      clear BB hc
      go_wp2_with fail
      refine (GO.out w3 C3.out).mono ?_
      rintro e w4 ⟨rfl, hP⟩
      replace hP := Lib.hid hP
      clear GO tb
      go_wp2_with fail
      exact hP.out
  · rw [ej] at JC MV2
    replace JC := Lib.hid JC
    obtain ⟨n0, e0⟩ : ∃ n, (L 0).length = n := ⟨_, rfl⟩
    obtain ⟨n1, e1⟩ : ∃ n, (L 1).length = n := ⟨_, rfl⟩
    obtain ⟨n2, e2⟩ : ∃ n, (L 2).length = n := ⟨_, rfl⟩
    rw [e0, e1, e2] at CT
    rw [e0, e1, e2] at a0 a1
    rw [e0] at h0
    rw [e1] at h1
    rw [e2] at h2
    have i0 : ¬ (5 : Int) * (n0 : Int) > (n0 : Int) + (n1 : Int) + (n2 : Int) := by omega
    have i1 : ¬ (5 : Int) * (n1 : Int) > 2 * ((n0 : Int) + (n1 : Int) + (n2 : Int)) := by omega
    clear a0 a1 ej e0 e1 e2
    rcases JC.out with ⟨hj1, ⟨e, -⟩ | ⟨A, k, e, hb, -⟩⟩ | ⟨A, k, z, e, hj2, ⟨hb, rfl⟩ | ⟨-, -, hx⟩⟩
    · have TT := Lib.hid (TN.out 2 (by decide) e)
      have ND := Lib.hid (NO.out hj1)
      clear JC MV2 NO TN TS BT e hj1
      go_enter Try.func33, Try.ntmps33
      go_wp2_with fail
      refine CT.out.mono ?_
      rintro e w1 ⟨rfl, hd⟩
      have d1 := (hd.chg (fun _ => False)).cell c1 id
      have d2 := (hd.chg (fun _ => False)).cell c2 id
      have d3 := (hd.chg (fun _ => False)).cell c3 id
      replace hd := Lib.hid hd
      clear CT c1 c2 c3
      go_wp2_with fail
      refine (TT.out w1 hd.out).mono ?_
      rintro e w2 ⟨rfl, rfl⟩
      clear TT d1 d2 d3
      go_wp2_with fail
      exact ND.out _ (hd.out.chg _)
    · have TT := Lib.hid (TS.out 2 A k (by decide) e)
      obtain ⟨tb, BB⟩ := BT.out 2 A k (by decide) e
      rw [decide_eq_false (by omega)] at tb
      have ND := Lib.hid (NO.out hj1)
      replace BB := Lib.hid BB
      generalize F k 10 = b at tb BB
      clear JC MV2 NO TN TS BT e hj1 hb
      go_enter Try.func33, Try.ntmps33
      go_wp2_with fail
      refine CT.out.mono ?_
      rintro e w1 ⟨rfl, hd⟩
      have d1 := (hd.chg (fun _ => False)).cell c1 id
      have d2 := (hd.chg (fun _ => False)).cell c2 id
      have d3 := (hd.chg (fun _ => False)).cell c3 id
      replace hd := Lib.hid hd
      clear CT c1 c2 c3
      go_wp2_with fail
      refine (TT.out w1 hd.out).mono ?_
      rintro e w2 ⟨rfl, rfl⟩
      clear TT d1 d2 d3
      go_wp2_with fail
      refine (BB.out w2 hd.out).mono ?_
      rintro e w3 ⟨rfl, hc⟩
      have C3 := Lib.hid ((hd.out.chg (fun _ => False)).trans hc)
      clear BB hc
      go_wp2_with fail
      exact ND.out _ C3.out
    · have TT := Lib.hid (TS.out 2 A k (by decide) e)
      obtain ⟨tb, BB⟩ := BT.out 2 A k (by decide) e
      rw [decide_eq_true hb] at tb
      have GO := Lib.hid (MV2.out A k 1 e hj2 (by decide))
      replace BB := Lib.hid BB
      generalize F k 10 = b at tb BB
      clear JC MV2 NO TN TS BT e hj2 hb
      go_enter Try.func33, Try.ntmps33
      go_wp2_with fail
      refine CT.out.mono ?_
      rintro e w1 ⟨rfl, hd⟩
      have d1 := (hd.chg (fun _ => False)).cell c1 id
      have d2 := (hd.chg (fun _ => False)).cell c2 id
      have d3 := (hd.chg (fun _ => False)).cell c3 id
      replace hd := Lib.hid hd
      clear CT c1 c2 c3
      go_wp2_with fail
      refine (TT.out w1 hd.out).mono ?_
      rintro e w2 ⟨rfl, rfl⟩
      clear TT d1 d2 d3
      go_wp2_with fail
      refine (BB.out w2 hd.out).mono ?_
      rintro e w3 ⟨rfl, hc⟩
      have C3 := Lib.hid ((hd.out.chg (fun _ => False)).trans hc)
      clear BB hc
      go_wp2_with fail
      refine (GO.out w3 C3.out).mono ?_
      rintro e w4 ⟨rfl, hP⟩
      replace hP := Lib.hid hP
      clear GO tb
      go_wp2_with fail
      exact hP.out
    · exact absurd rfl hx
end Go.Proofs.Ytmffdlebahdihaa.Seg

/- The segments' Victim. -/
namespace Go.Proofs.Ytmffdlebahdihaa.Seg
open Go Go.RowKit Go.Proofs.Ytmffdlebahdihaa.Mem Go.Proofs.Ytmffdlebahdihaa.CodecPure Go.Proofs.Ytmffdlebahdihaa.ArenaPure Go.Proofs.Ytmffdlebahdihaa.Codec Go.Proofs.Ytmffdlebahdihaa.Arena Go.Proofs.Ytmffdlebahdihaa.Item Go.Proofs.Ytmffdlebahdihaa.Links
set_option linter.unusedVariables false
set_option maxRecDepth 100000
variable {B : Nat} {w0 w w' : World} {a : Ar} {s s' : St} {L : Nat → List Nat} {F : Nat → Int → Int} {i k z : Nat} {l : Lh}
theorem vict_five (F : Nat → Int → Int) (S : List Nat) {t : Nat} (e : Int) (h : 5 ≤ t) : vict F S t e = (0, e) := by
  cases S with
  | nil => rfl
  | cons k S => unfold vict; rw [if_pos h]
/-- what of the line is still to come, from a segment on -/
def rest (L : Nat → List Nat) : Nat → List Nat
  | 0 => []
  | n + 1 => (L n).reverse ++ rest L n
theorem rest_line (L : Nat → List Nat) : rest L 3 = line L := by simp [rest, line]
theorem at64_split (A C : List Nat) (k : Nat) : at64 (A ++ k :: C) = at64 A ++ 64 * (k : Int) :: at64 C := by unfold at64; rw [List.map_append]; rfl
theorem before_mid {A C : List Nat} {k p : Nat} (hn : (A ++ p :: k :: C).Nodup) : before (at64 (A ++ p :: k :: C)) (64 * (k : Int)) = (64 * (p : Int), true) := by
  have e : A ++ p :: k :: C = (A ++ [p]) ++ k :: C := by simp
  have hk : 64 * (k : Int) ∉ at64 (A ++ [p]) := fun q => by
    rw [e] at hn
    exact (List.nodup_append.1 hn).2.2 k (at64_mem.1 q) k (by simp) rfl
  obtain ⟨X, Y, h1, h2, -, -, h5, -⟩ := split_at (64 * (k : Int)) (at64 (A ++ p :: k :: C)) (at64_mem.2 (by simp))
  rw [e, at64_split] at h1
  have ex : X = at64 (A ++ [p]) := by
    have q1 := idx_mid (A := at64 (A ++ [p])) (x := 64 * (k : Int)) (C := at64 C) hk
    have q2 := idx_mid (A := X) (x := 64 * (k : Int)) (C := Y) h2
    rw [h1] at q1
    have hl : X.length = (at64 (A ++ [p])).length := q2.symm.trans q1
    exact (List.append_inj_left h1 hl.symm).symm
  have hne : 64 * (k : Int) ≠ (at64 (A ++ p :: k :: C)).headD (-1) := by
    intro q
    refine hk ?_
    rw [q, e, at64_split]
    cases A with
    | nil => simp [at64]
    | cons y A => simp [at64]
  have this : at64 (A ++ [p]) = at64 A ++ [64 * (p : Int)] := by unfold at64; rw [List.map_append]; rfl
  have hl : (at64 A ++ [64 * (p : Int)]).getLastD (-1) = 64 * (p : Int) := by simp
  unfold before
  rw [if_pos ⟨at64_mem.2 (by simp), hne⟩, h5, ex, this, hl]
theorem before_head (C : List Nat) (k : Nat) : before (at64 (k :: C)) (64 * (k : Int)) = (0, false) := by
  unfold before
  rw [if_neg fun h => h.2 rfl]
/-- where the walk through a queue stands -/
def stand : List Nat → Int × Bool
  | [] => (0, false)
  | k :: _ => (64 * (k : Int), true)
theorem tail_stand (m : List Nat) : tail (at64 m) = stand m.reverse := by
  rcases List.eq_nil_or_concat m with rfl | ⟨A, k, rfl⟩
  · rfl
  · rw [List.concat_eq_append, tail_snoc]
    simp [stand]
theorem before_stand {m pre S : List Nat} {k : Nat} (hn : m.Nodup) (h : m.reverse = pre ++ k :: S) : before (at64 m) (64 * (k : Int)) = stand S := by
  have e : m = S.reverse ++ k :: pre.reverse := by
    have := congrArg List.reverse h
    rw [List.reverse_reverse] at this
    rw [this]; simp
  cases S with
  | nil => rw [e]; exact before_head _ _
  | cons p S =>
    rw [e] at hn ⊢
    have e2 : (p :: S).reverse ++ k :: pre.reverse = S.reverse ++ p :: k :: pre.reverse := by simp
    rw [e2] at hn ⊢
    exact before_mid hn
set_option maxHeartbeats 4000000 in
theorem SE.vicC (q : SE B w0 w a l L F) : Calls Try.prog 39 #[(.pointer (some ⟨l.b, 0, none⟩))] w fun e w' => e = .returned (.tuple #[.int .i64 (vict F (line L) 0 3).1, .int .i64 (vict F (line L) 0 3).2]) ∧ Chg (fun _ => False) w w' := by
  obtain ⟨s, h⟩ := q.ex
  have ND := Lib.hid q.si.nd
  have LT := Lib.hid q.si.lt
  have H := Lib.hid h
  obtain ⟨R, hR⟩ : ∃ R, vict F (line L) 0 3 = R := ⟨_, rfl⟩
  rw [hR]
  rw [← rest_line] at hR
  replace hR := Lib.hid hR
  have h30 : Hid (∀ i, i < 3 → (L i).length ≤ 30) := fun i hi => q.len30 hi
  clear h q
  go_enter Try.func39, Try.ntmps39
  go_wp2_with fail
  go_loopg [4, 5, 6] 4 (fun g e t c wr => ∃ (n tn : Nat) (ei : Int), e = .int .i64 ei ∧ t = .int .i64 tn ∧ c = .int .i64 ((n : Int) - 1) ∧ g = n + 1 ∧ n ≤ 3 ∧ tn ≤ 5 ∧ Hid (vict F (rest L n) tn ei = R) ∧ Hid (Chg (fun _ => False) w wr))
  case atStart => exact ⟨3, 0, 3, rfl, rfl, rfl, rfl, by omega, by omega, hR.out, Chg.refl _ _⟩
  case round =>
    clear hR
    obtain ⟨n, tn, ei, rfl, rfl, rfl, hg, hn, ht, hv, hc⟩ := hrel
    replace hg := Lib.hid hg
    cases n with
    | zero =>
      have e1 : (((0 : Nat) : Int) - 1) = -1 := rfl
      rw [e1]
      have hv2 : R = (0, ei) := hv.out.symm
      subst hv2
      clear e1 hv
      go_wp2_with fail
      go_ret2
      exact ⟨rfl, hc.out⟩
    | succ n =>
      have e1 : (((n + 1 : Nat) : Int) - 1) = (n : Int) := by omega
      rw [e1]
      have hn3 : n < 3 := by omega
      have HW := Lib.hid (H.out.fresh hc.out)
      have c0 := HW.out.c0
      have c1 := HW.out.c1
      have c2 := HW.out.c2
      have c3 := HW.out.c3
      have TL := (HW.out.tailC hn3 (t := (stand (L n).reverse).1) (b := (stand (L n).reverse).2) (tail_stand (L n)) (Dr.refl wr))
      obtain ⟨t0, b0, hs⟩ : ∃ t0 b0, stand (L n).reverse = (t0, b0) := ⟨_, _, rfl⟩
      rw [hs] at TL
      replace TL := Lib.hid TL
      replace hs := Lib.hid hs
      have z0 : (0 : Int) ≤ n := by omega
      clear e1
      rcases (show n = 0 ∨ n = 1 ∨ n = 2 by omega) with rfl | rfl | rfl
      · go_wp2_with fail
        refine TL.out.mono ?_
        rintro e w1 ⟨rfl, rfl⟩
        clear TL
        go_wp2_with fail
        go_loopg [4, 5, 8, 9] (L 0).reverse.length (fun g e t x b wr => ∃ (pre S : List Nat) (tn : Nat) (ei : Int), (L 0).reverse = pre ++ S ∧ e = .int .i64 ei ∧ t = .int .i64 tn ∧ x = .int .i64 (stand S).1 ∧ b = .bool (stand S).2 ∧ g = S.length ∧ tn ≤ 5 ∧ Hid (vict F (S ++ rest L 0) tn ei = R) ∧ Hid (Chg (fun _ => False) w wr))
        case atStart => exact ⟨[], (L 0).reverse, tn, ei, rfl, rfl, rfl, by rw [hs.out], by rw [hs.out], rfl, ht, hv.out, hc.out⟩
        case round =>
          clear hv hc HW c0 c1 c2 c3 hs ht
          obtain ⟨pre, S, tn, ei, hS, rfl, rfl, rfl, rfl, hg2, ht, hv, hc⟩ := hrel
          replace hg2 := Lib.hid hg2
          have HW := Lib.hid (H.out.fresh hc.out)
          have c0 := HW.out.c0
          cases S with
          | nil =>
            have e1 : stand [] = (0, false) := rfl
            rw [e1]
            dsimp only
            clear e1
            go_wp2_with fail
            go_roundg 1
            case measure => have := hg.out; omega
            case rel => exact ⟨0, tn, ei, rfl, rfl, rfl, rfl, by omega, ht, hv.out, hc.out⟩
          | cons k S =>
            have e1 : stand (k :: S) = (64 * (k : Int), true) := rfl
            rw [e1]
            dsimp only
            by_cases h5 : tn < 5
            · have h5' : (tn : Int) < 5 := by omega
              have hkL : k ∈ L 0 := by rw [← List.mem_reverse, hS]; simp
              have hk := LT.out _ hn3 k hkL
              have GT := Lib.hid (HW.out.get hk (f := 11) (.inr (.inr rfl)))
              have BF : Hid (∀ W, Chg (fun _ => False) w W → Calls Try.prog 79 #[(.pointer (some ⟨(l.q 0).q, 0, none⟩)), (.int .i64 (64 * (k : Int)))] W fun e w' => e = .returned (.tuple #[.int .i64 (stand S).1, .bool (stand S).2]) ∧ Chg (fun _ => False) W w') := fun W hW => by
                have := before_calls ((H.out.fresh hW).q 0 hn3) (64 * (k : Int))
                rw [before_stand (ND.out 0 hn3) hS] at this
                exact this
              have hS2 : Hid ((L 0).reverse = (pre ++ [k]) ++ S) := by show _ = _; rw [hS]; simp
              have hv2 : (if tn ≥ 5 then (0, ei) else if F k 11 = 0 then (64 * (k : Int), 0) else vict F (S ++ rest L 0) (tn + 1) 8) = R := hv.out
              rw [if_neg (by omega)] at hv2
              clear e1 hv hkL hS
              by_cases hr : F k 11 = 0
              · rw [if_pos hr] at hv2
                subst hv2
                rw [hr] at GT
                clear hr BF
                go_wp2_with fail
                refine GT.out.mono ?_
                rintro e w2 ⟨rfl, hc2⟩
                have C2 := Lib.hid (hc.out.trans hc2)
                clear GT hc2
                go_wp2_with fail
                go_ret2
                exact ⟨rfl, C2.out⟩
              · rw [if_neg hr] at hv2
                replace hv2 := Lib.hid hv2
                have hr2 : (F k 11 == 0) = false := by rw [beq_eq_false_iff_ne]; exact hr
                generalize F k 11 = rf at GT hr hr2
                go_wp2_with fail
                refine GT.out.mono ?_
                rintro e w2 ⟨rfl, hc2⟩
                have C2 := Lib.hid (hc.out.trans hc2)
                have B2 := Lib.hid (BF.out _ C2.out)
                clear GT hc2 BF hc
                go_wp2_with fail
                refine B2.out.mono ?_
                rintro e w3 ⟨rfl, hc3⟩
                have C3 := Lib.hid (C2.out.trans hc3)
                clear B2 hc3 C2
                go_wp2_with fail
                go_roundg S.length
                case measure => have := hg2.out; rw [this]; exact Nat.lt_succ_self _
                case rel => exact ⟨pre ++ [k], S, tn + 1, 8, hS2.out, rfl, by rw [Int.natCast_add]; rfl, rfl, rfl, rfl, by omega, hv2.out, C3.out⟩
            · have h5' : ¬ (tn : Int) < 5 := by omega
              have hv2 : Hid (vict F (rest L 0) tn ei = R) := by
                show _ = _
                rw [vict_five F _ ei (by omega)]
                exact (vict_five F (k :: S ++ rest L 0) ei (by omega)).symm.trans hv.out
              clear e1 hv
              go_wp2_with fail
              go_roundg 1
              case measure => have := hg.out; omega
              case rel => exact ⟨0, tn, ei, rfl, rfl, rfl, rfl, by omega, ht, hv2.out, hc.out⟩
      · go_wp2_with fail
        refine TL.out.mono ?_
        rintro e w1 ⟨rfl, rfl⟩
        clear TL
        go_wp2_with fail
        go_loopg [4, 5, 8, 9] (L 1).reverse.length (fun g e t x b wr => ∃ (pre S : List Nat) (tn : Nat) (ei : Int), (L 1).reverse = pre ++ S ∧ e = .int .i64 ei ∧ t = .int .i64 tn ∧ x = .int .i64 (stand S).1 ∧ b = .bool (stand S).2 ∧ g = S.length ∧ tn ≤ 5 ∧ Hid (vict F (S ++ rest L 1) tn ei = R) ∧ Hid (Chg (fun _ => False) w wr))
        case atStart => exact ⟨[], (L 1).reverse, tn, ei, rfl, rfl, rfl, by rw [hs.out], by rw [hs.out], rfl, ht, hv.out, hc.out⟩
        case round =>
          clear hv hc HW c0 c1 c2 c3 hs ht
          obtain ⟨pre, S, tn, ei, hS, rfl, rfl, rfl, rfl, hg2, ht, hv, hc⟩ := hrel
          replace hg2 := Lib.hid hg2
          have HW := Lib.hid (H.out.fresh hc.out)
          have c0 := HW.out.c0
          cases S with
          | nil =>
            have e1 : stand [] = (0, false) := rfl
            rw [e1]
            dsimp only
            clear e1
            go_wp2_with fail
            go_roundg 2
            case measure => have := hg.out; omega
            case rel => exact ⟨1, tn, ei, rfl, rfl, rfl, rfl, by omega, ht, hv.out, hc.out⟩
          | cons k S =>
            have e1 : stand (k :: S) = (64 * (k : Int), true) := rfl
            rw [e1]
            dsimp only
            by_cases h5 : tn < 5
            · have h5' : (tn : Int) < 5 := by omega
              have hkL : k ∈ L 1 := by rw [← List.mem_reverse, hS]; simp
              have hk := LT.out _ hn3 k hkL
              have GT := Lib.hid (HW.out.get hk (f := 11) (.inr (.inr rfl)))
              have BF : Hid (∀ W, Chg (fun _ => False) w W → Calls Try.prog 79 #[(.pointer (some ⟨(l.q 1).q, 0, none⟩)), (.int .i64 (64 * (k : Int)))] W fun e w' => e = .returned (.tuple #[.int .i64 (stand S).1, .bool (stand S).2]) ∧ Chg (fun _ => False) W w') := fun W hW => by
                have := before_calls ((H.out.fresh hW).q 1 hn3) (64 * (k : Int))
                rw [before_stand (ND.out 1 hn3) hS] at this
                exact this
              have hS2 : Hid ((L 1).reverse = (pre ++ [k]) ++ S) := by show _ = _; rw [hS]; simp
              have hv2 : (if tn ≥ 5 then (0, ei) else if F k 11 = 0 then (64 * (k : Int), 0) else vict F (S ++ rest L 1) (tn + 1) 8) = R := hv.out
              rw [if_neg (by omega)] at hv2
              clear e1 hv hkL hS
              by_cases hr : F k 11 = 0
              · rw [if_pos hr] at hv2
                subst hv2
                rw [hr] at GT
                clear hr BF
                go_wp2_with fail
                refine GT.out.mono ?_
                rintro e w2 ⟨rfl, hc2⟩
                have C2 := Lib.hid (hc.out.trans hc2)
                clear GT hc2
                go_wp2_with fail
                go_ret2
                exact ⟨rfl, C2.out⟩
              · rw [if_neg hr] at hv2
                replace hv2 := Lib.hid hv2
                have hr2 : (F k 11 == 0) = false := by rw [beq_eq_false_iff_ne]; exact hr
                generalize F k 11 = rf at GT hr hr2
                go_wp2_with fail
                refine GT.out.mono ?_
                rintro e w2 ⟨rfl, hc2⟩
                have C2 := Lib.hid (hc.out.trans hc2)
                have B2 := Lib.hid (BF.out _ C2.out)
                clear GT hc2 BF hc
                go_wp2_with fail
                refine B2.out.mono ?_
                rintro e w3 ⟨rfl, hc3⟩
                have C3 := Lib.hid (C2.out.trans hc3)
                clear B2 hc3 C2
                go_wp2_with fail
                go_roundg S.length
                case measure => have := hg2.out; rw [this]; exact Nat.lt_succ_self _
                case rel => exact ⟨pre ++ [k], S, tn + 1, 8, hS2.out, rfl, by rw [Int.natCast_add]; rfl, rfl, rfl, rfl, by omega, hv2.out, C3.out⟩
            · have h5' : ¬ (tn : Int) < 5 := by omega
              have hv2 : Hid (vict F (rest L 1) tn ei = R) := by
                show _ = _
                rw [vict_five F _ ei (by omega)]
                exact (vict_five F (k :: S ++ rest L 1) ei (by omega)).symm.trans hv.out
              clear e1 hv
              go_wp2_with fail
              go_roundg 2
              case measure => have := hg.out; omega
              case rel => exact ⟨1, tn, ei, rfl, rfl, rfl, rfl, by omega, ht, hv2.out, hc.out⟩
      · go_wp2_with fail
        refine TL.out.mono ?_
        rintro e w1 ⟨rfl, rfl⟩
        clear TL
        go_wp2_with fail
        go_loopg [4, 5, 8, 9] (L 2).reverse.length (fun g e t x b wr => ∃ (pre S : List Nat) (tn : Nat) (ei : Int), (L 2).reverse = pre ++ S ∧ e = .int .i64 ei ∧ t = .int .i64 tn ∧ x = .int .i64 (stand S).1 ∧ b = .bool (stand S).2 ∧ g = S.length ∧ tn ≤ 5 ∧ Hid (vict F (S ++ rest L 2) tn ei = R) ∧ Hid (Chg (fun _ => False) w wr))
        case atStart => exact ⟨[], (L 2).reverse, tn, ei, rfl, rfl, rfl, by rw [hs.out], by rw [hs.out], rfl, ht, hv.out, hc.out⟩
        case round =>
          clear hv hc HW c0 c1 c2 c3 hs ht
          obtain ⟨pre, S, tn, ei, hS, rfl, rfl, rfl, rfl, hg2, ht, hv, hc⟩ := hrel
          replace hg2 := Lib.hid hg2
          have HW := Lib.hid (H.out.fresh hc.out)
          have c0 := HW.out.c0
          cases S with
          | nil =>
            have e1 : stand [] = (0, false) := rfl
            rw [e1]
            dsimp only
            clear e1
            go_wp2_with fail
            go_roundg 3
            case measure => have := hg.out; omega
            case rel => exact ⟨2, tn, ei, rfl, rfl, rfl, rfl, by omega, ht, hv.out, hc.out⟩
          | cons k S =>
            have e1 : stand (k :: S) = (64 * (k : Int), true) := rfl
            rw [e1]
            dsimp only
            by_cases h5 : tn < 5
            · have h5' : (tn : Int) < 5 := by omega
              have hkL : k ∈ L 2 := by rw [← List.mem_reverse, hS]; simp
              have hk := LT.out _ hn3 k hkL
              have GT := Lib.hid (HW.out.get hk (f := 11) (.inr (.inr rfl)))
              have BF : Hid (∀ W, Chg (fun _ => False) w W → Calls Try.prog 79 #[(.pointer (some ⟨(l.q 2).q, 0, none⟩)), (.int .i64 (64 * (k : Int)))] W fun e w' => e = .returned (.tuple #[.int .i64 (stand S).1, .bool (stand S).2]) ∧ Chg (fun _ => False) W w') := fun W hW => by
                have := before_calls ((H.out.fresh hW).q 2 hn3) (64 * (k : Int))
                rw [before_stand (ND.out 2 hn3) hS] at this
                exact this
              have hS2 : Hid ((L 2).reverse = (pre ++ [k]) ++ S) := by show _ = _; rw [hS]; simp
              have hv2 : (if tn ≥ 5 then (0, ei) else if F k 11 = 0 then (64 * (k : Int), 0) else vict F (S ++ rest L 2) (tn + 1) 8) = R := hv.out
              rw [if_neg (by omega)] at hv2
              clear e1 hv hkL hS
              by_cases hr : F k 11 = 0
              · rw [if_pos hr] at hv2
                subst hv2
                rw [hr] at GT
                clear hr BF
                go_wp2_with fail
                refine GT.out.mono ?_
                rintro e w2 ⟨rfl, hc2⟩
                have C2 := Lib.hid (hc.out.trans hc2)
                clear GT hc2
                go_wp2_with fail
                go_ret2
                exact ⟨rfl, C2.out⟩
              · rw [if_neg hr] at hv2
                replace hv2 := Lib.hid hv2
                have hr2 : (F k 11 == 0) = false := by rw [beq_eq_false_iff_ne]; exact hr
                generalize F k 11 = rf at GT hr hr2
                go_wp2_with fail
                refine GT.out.mono ?_
                rintro e w2 ⟨rfl, hc2⟩
                have C2 := Lib.hid (hc.out.trans hc2)
                have B2 := Lib.hid (BF.out _ C2.out)
                clear GT hc2 BF hc
                go_wp2_with fail
                refine B2.out.mono ?_
                rintro e w3 ⟨rfl, hc3⟩
                have C3 := Lib.hid (C2.out.trans hc3)
                clear B2 hc3 C2
                go_wp2_with fail
                go_roundg S.length
                case measure => have := hg2.out; rw [this]; exact Nat.lt_succ_self _
                case rel => exact ⟨pre ++ [k], S, tn + 1, 8, hS2.out, rfl, by rw [Int.natCast_add]; rfl, rfl, rfl, rfl, by omega, hv2.out, C3.out⟩
            · have h5' : ¬ (tn : Int) < 5 := by omega
              have hv2 : Hid (vict F (rest L 2) tn ei = R) := by
                show _ = _
                rw [vict_five F _ ei (by omega)]
                exact (vict_five F (k :: S ++ rest L 2) ei (by omega)).symm.trans hv.out
              clear e1 hv
              go_wp2_with fail
              go_roundg 3
              case measure => have := hg.out; omega
              case rel => exact ⟨2, tn, ei, rfl, rfl, rfl, rfl, by omega, ht, hv2.out, hc.out⟩
end Go.Proofs.Ytmffdlebahdihaa.Seg

/- The segments begun. -/
namespace Go.Proofs.Ytmffdlebahdihaa.Seg
open Go Go.RowKit Go.Proofs.Ytmffdlebahdihaa.Mem Go.Proofs.Ytmffdlebahdihaa.CodecPure Go.Proofs.Ytmffdlebahdihaa.ArenaPure Go.Proofs.Ytmffdlebahdihaa.Codec Go.Proofs.Ytmffdlebahdihaa.Arena Go.Proofs.Ytmffdlebahdihaa.Item Go.Proofs.Ytmffdlebahdihaa.Links
set_option linter.unusedVariables false
set_option maxRecDepth 100000
variable {B : Nat} {w0 w w' : World} {a : Ar} {s s' : St} {L : Nat → List Nat} {F : Nat → Int → Int} {i k z : Nat} {l : Lh}
def pv (Q : Nat → Qh) (k j : Nat) : Value := if j < k then (.pointer (some ⟨(Q j).q, 0, none⟩)) else .pointer none
/-- k queues have been begun -/
structure NW (w wr : World) (a : Ar) (s : St) (lb k : Nat) (Q : Nat → Qh) : Prop where
  head : wr.heap[lb]? = some (.cells #[(.pointer (some ⟨a.g, 0, none⟩)), pv Q k 0, pv Q k 1, pv Q k 2] 104 (0, 0))
  q : ∀ j, j < k → QLies wr a (Q j) s []
  lo : ∀ j, j < k → lb < (Q j).q ∧ lb < (Q j).m
  up : ∀ i j, i < j → j < k → (Q i).q < (Q j).q ∧ (Q i).q < (Q j).m ∧ (Q i).m < (Q j).q ∧ (Q i).m < (Q j).m
  lies : Lies wr a s
  chg : Chg (fun x => w.heap.size ≤ x) w wr
  lb0 : w.heap.size ≤ lb
  aw : a.g < w.heap.size ∧ a.ps < w.heap.size ∧ ∀ b ∈ a.pb, b < w.heap.size
theorem lset {lb : Nat} {x0 x1 x2 x3 v : Value} (h : w.heap[lb]? = some (.cells #[x0, x1, x2, x3] 104 (0, 0))) :
    (w.setCell ⟨lb, 1, none⟩ v).heap[lb]? = some (.cells #[x0, v, x2, x3] 104 (0, 0)) ∧ (w.setCell ⟨lb, 2, none⟩ v).heap[lb]? = some (.cells #[x0, x1, v, x3] 104 (0, 0)) ∧ (w.setCell ⟨lb, 3, none⟩ v).heap[lb]? = some (.cells #[x0, x1, x2, v] 104 (0, 0)) := by
  refine ⟨?_, ?_, ?_⟩
  all_goals (rw [setCell_row h, setRow_heap w _ _ _ _ (0, 0) h]; rfl)
theorem NW.step {wr w3 w4 : World} {lb : Nat} {Q : Nat → Qh} {h : Qh} (n : NW w wr a s lb k Q) (hq : QLies w3 a h s []) (hc : Chg (fun _ => False) wr w3) (l1 : wr.heap.size ≤ h.q) (l2 : wr.heap.size ≤ h.m) (hs : Chg (fun x => x = lb) w3 w4)
    (hh : w4.heap[lb]? = some (.cells #[(.pointer (some ⟨a.g, 0, none⟩)), pv (fun j => if j = k then h else Q j) (k + 1) 0, pv (fun j => if j = k then h else Q j) (k + 1) 1, pv (fun j => if j = k then h else Q j) (k + 1) 2] 104 (0, 0))) : NW w w4 a s lb (k + 1) (fun j => if j = k then h else Q j) := by
  have lt : ∀ j, j < k → (Q j).q < wr.heap.size ∧ (Q j).m < wr.heap.size := fun j hj => ⟨blk_lt (n.q j hj).head, (n.q j hj).set.lt⟩
  have lbw : lb < wr.heap.size := blk_lt n.head
  have keepQ : ∀ {g : Qh}, QLies w3 a g s [] → g.q ≠ lb → g.m ≠ lb → Lies w4 a s → QLies w4 a g s [] := fun {g} k1 e1 e2 e3 => ⟨e3, k1.li, hs.keep k1.head e1, k1.set.chg hs e2, k1.out⟩
  have la : Lies w4 a s := (n.lies.chg hc id id fun _ _ => id).chg hs (fun e => by have := n.lb0; have := n.aw.1; omega) (fun e => by have := n.lb0; have := n.aw.2.1; omega) fun b hb e => by have := n.lb0; have := n.aw.2.2 b hb; omega
  have zz := hc.size
  refine ⟨hh, fun j hj => ?_, fun j hj => ?_, fun i j hij hj => ?_, la, (n.chg.trans (hc.mono fun _ _ h => h.elim)).trans (hs.mono fun b _ e => e ▸ n.lb0), n.lb0, n.aw⟩
  · by_cases e : j = k
    · subst e
      rw [if_pos rfl]
      exact keepQ hq (by omega) (by omega) la
    · rw [if_neg e]
      have lo := n.lo j (by omega)
      exact keepQ ((n.q j (by omega)).fresh hc) (by omega) (by omega) la
  · by_cases e : j = k
    · subst e; rw [if_pos rfl]; exact ⟨by omega, by omega⟩
    · rw [if_neg e]; exact n.lo j (by omega)
  · have ei : i ≠ k := by omega
    rw [if_neg ei]
    have li := lt i (by omega)
    by_cases e : j = k
    · subst e; rw [if_pos rfl]; exact ⟨by omega, by omega, by omega, by omega⟩
    · rw [if_neg e]; exact n.up i j hij (by omega)
theorem NW.sw {wr : World} {lb : Nat} {Q : Nat → Qh} (n : NW w wr a s lb 3 Q) (sp : SP s (fun _ => []) F) : SW wr a ⟨lb, Q⟩ s (fun _ => []) F := by
  refine ⟨sp, fun i hi => n.q i hi, n.head, ⟨by have := n.lb0; have := n.aw.1; show lb ≠ _; omega, by have := n.lb0; have := n.aw.2.1; show lb ≠ _; omega, fun hb => by have := n.lb0; have := n.aw.2.2 lb hb; omega, fun i hi => by have := n.lo i hi; exact ⟨by show lb ≠ (Q i).q; omega, by show lb ≠ (Q i).m; omega⟩⟩, fun i j hi hj e => ?_⟩
  show (Q i).q ≠ (Q j).q ∧ (Q i).q ≠ (Q j).m ∧ (Q i).m ≠ (Q j).m
  rcases Nat.lt_or_gt_of_ne e with h | h
  · have := n.up i j h hj; exact ⟨by omega, by omega, by omega⟩
  · have := n.up j i h hi; exact ⟨by omega, by omega, by omega⟩
set_option maxHeartbeats 4000000 in
theorem seg_new (hl : Lies w a s) (aw : a.g < w.heap.size ∧ a.ps < w.heap.size ∧ ∀ b ∈ a.pb, b < w.heap.size) : Calls Try.prog 35 #[(.pointer (some ⟨a.g, 0, none⟩))] w fun e w' => ∃ lb Q, e = .returned (.pointer (some ⟨lb, 0, none⟩)) ∧ NW w w' a s lb 3 Q := by
  have N0 : Hid (NW w (w.alloc (.cells #[(.pointer (some ⟨a.g, 0, none⟩)), .pointer none, .pointer none, .pointer none] 104)) a s w.heap.size 0 (fun _ => ⟨0, 0⟩)) :=
    ⟨heap_alloc_at w (.cells #[(.pointer (some ⟨a.g, 0, none⟩)), .pointer none, .pointer none, .pointer none] 104), fun j hj => by omega, fun j hj => by omega, fun i j _ hj => by omega, hl.chg (Chg.alloc (fun _ => False) _ _) id id fun _ _ => id, (Chg.alloc _ _ _), Nat.le_refl _, aw⟩
  clear hl aw
  go_enter Try.func35, Try.ntmps35
  go_wp2_with fail
  generalize w.alloc (.cells #[(.pointer (some ⟨a.g, 0, none⟩)), .pointer none, .pointer none, .pointer none] 104) = w1 at N0 ⊢
  obtain ⟨lb, hlb⟩ : ∃ lb, w.heap.size = lb := ⟨_, rfl⟩
  rw [hlb] at N0 ⊢
  clear hlb
  go_loopg [8] 4 (fun q c wr => ∃ (k : Nat) (Q : Nat → Qh), ((k = 0 ∧ c = .int .i64 0 ∧ q = 4) ∨ (k = 1 ∧ c = .int .i64 1 ∧ q = 3) ∨ (k = 2 ∧ c = .int .i64 2 ∧ q = 2) ∨ (k = 3 ∧ c = .int .i64 3 ∧ q = 1)) ∧ Hid (NW w wr a s lb k Q))
  case atStart => exact ⟨0, _, .inl ⟨rfl, rfl, rfl⟩, N0.out⟩
  case round =>
    clear N0
    obtain ⟨k, Q, ⟨rfl, rfl, hg⟩ | ⟨rfl, rfl, hg⟩ | ⟨rfl, rfl, hg⟩ | ⟨rfl, rfl, hg⟩, N⟩ := hrel
    · replace hg := Lib.hid hg
      have QN := Lib.hid (qnew_calls (N.out.lies.chg (Chg.drew (fun _ => False) wr) id id fun _ _ => id))
      go_wp2_with fail
      go_region_held3 (fun _ => True) (trivial)
        (first
          | (go_at_call 73; refine QN.out.mono ?_; rintro e w3 ⟨h, rfl, hq, hc, l1, l2⟩; have hb3 := hc.keep (show (World.drew wr).heap[lb]? = _ from N.out.head) id; have z3 := blk_frozen hb3 1; have y3 : w3.cell? ⟨lb, 1, none⟩ = some (.pointer none) := by rw [blk_cell hb3]; rfl
             have hst := (lset (v := (.pointer (some ⟨h.q, 0, none⟩))) hb3).1
             have CS : Chg (fun x => x = lb) w3 (w3.setCell ⟨lb, 1, none⟩ (.pointer (some ⟨h.q, 0, none⟩))) := Chg.setCell _ _ _ rfl
             have NX := N.out.step (h := h) hq ((Chg.drew (fun _ => False) wr).trans hc) l1 l2 CS hst; replace NX := Lib.hid NX; clear hq hc l1 l2 hb3 hst CS QN; skip))
      clear z3 y3
      go_wp2_with fail
      go_roundg 3
      case measure => have := hg.out; omega
      case rel => exact ⟨1, _, .inr (.inl ⟨rfl, rfl, rfl⟩), NX.out⟩
    · replace hg := Lib.hid hg
      have QN := Lib.hid (qnew_calls (N.out.lies.chg (Chg.drew (fun _ => False) wr) id id fun _ _ => id))
      go_wp2_with fail
      go_region_held3 (fun _ => True) (trivial)
        (first
          | (go_at_call 73; refine QN.out.mono ?_; rintro e w3 ⟨h, rfl, hq, hc, l1, l2⟩; have hb3 := hc.keep (show (World.drew wr).heap[lb]? = _ from N.out.head) id; have z3 := blk_frozen hb3 2; have y3 : w3.cell? ⟨lb, 2, none⟩ = some (.pointer none) := by rw [blk_cell hb3]; rfl
             have hst := (lset (v := (.pointer (some ⟨h.q, 0, none⟩))) hb3).2.1
             have CS : Chg (fun x => x = lb) w3 (w3.setCell ⟨lb, 2, none⟩ (.pointer (some ⟨h.q, 0, none⟩))) := Chg.setCell _ _ _ rfl
             have NX := N.out.step (h := h) hq ((Chg.drew (fun _ => False) wr).trans hc) l1 l2 CS hst; replace NX := Lib.hid NX; clear hq hc l1 l2 hb3 hst CS QN; skip))
      clear z3 y3
      go_wp2_with fail
      go_roundg 2
      case measure => have := hg.out; omega
      case rel => exact ⟨2, _, .inr (.inr (.inl ⟨rfl, rfl, rfl⟩)), NX.out⟩
    · replace hg := Lib.hid hg
      have QN := Lib.hid (qnew_calls (N.out.lies.chg (Chg.drew (fun _ => False) wr) id id fun _ _ => id))
      go_wp2_with fail
      go_region_held3 (fun _ => True) (trivial)
        (first
          | (go_at_call 73; refine QN.out.mono ?_; rintro e w3 ⟨h, rfl, hq, hc, l1, l2⟩; have hb3 := hc.keep (show (World.drew wr).heap[lb]? = _ from N.out.head) id; have z3 := blk_frozen hb3 3; have y3 : w3.cell? ⟨lb, 3, none⟩ = some (.pointer none) := by rw [blk_cell hb3]; rfl
             have hst := (lset (v := (.pointer (some ⟨h.q, 0, none⟩))) hb3).2.2
             have CS : Chg (fun x => x = lb) w3 (w3.setCell ⟨lb, 3, none⟩ (.pointer (some ⟨h.q, 0, none⟩))) := Chg.setCell _ _ _ rfl
             have NX := N.out.step (h := h) hq ((Chg.drew (fun _ => False) wr).trans hc) l1 l2 CS hst; replace NX := Lib.hid NX; clear hq hc l1 l2 hb3 hst CS QN; skip))
      clear z3 y3
      go_wp2_with fail
      go_roundg 1
      case measure => have := hg.out; omega
      case rel => exact ⟨3, _, .inr (.inr (.inr ⟨rfl, rfl, rfl⟩)), NX.out⟩
    · clear hg
      go_wp2_with fail
      go_ret
      exact ⟨lb, Q, rfl, N.out⟩
end Go.Proofs.Ytmffdlebahdihaa.Seg

/- Chapter 13's works and done. -/
namespace Go.Proofs.Ytmffdlebahdihaa.Seg
open Go Go.RowKit Go.Proofs.Ytmffdlebahdihaa.Mem Go.Proofs.Ytmffdlebahdihaa.CodecPure Go.Proofs.Ytmffdlebahdihaa.ArenaPure Go.Proofs.Ytmffdlebahdihaa.Codec Go.Proofs.Ytmffdlebahdihaa.Arena Go.Proofs.Ytmffdlebahdihaa.Item Go.Proofs.Ytmffdlebahdihaa.Links
set_option linter.unusedVariables false
set_option maxRecDepth 100000
variable {B : Nat} {w0 w w' : World} {a : Ar} {s s' : St} {L : Nat → List Nat} {F : Nat → Int → Int} {i k z : Nat} {l : Lh}
theorem SE.start {w1 : World} {r : Ra} (T : Two w.heap.size w w1 a r (laidS 30) (laidS 30)) : Calls Try.prog 35 #[(.pointer (some ⟨a.g, 0, none⟩))] w1 fun e w' => ∃ l : Lh, e = .returned (.pointer (some ⟨l.b, 0, none⟩)) ∧ SE w.heap.size w w' a l (fun _ => []) (fun _ _ => 0) := by
  have lt : a.g < w1.heap.size ∧ a.ps < w1.heap.size ∧ ∀ b ∈ a.pb, b < w1.heap.size := ⟨blk_lt T.here.lies.head, World.block_lt_of_cell? w1 _ (T.here.lies.row 0 T.here.lies.ok.low), T.here.pb_lt⟩
  exact (seg_new T.here.lies lt).mono fun e w' ⟨lb, Q, e1, n⟩ => by
    have z := T.here.chg.size
    have sw := n.sw sp_laid
    refine ⟨⟨lb, Q⟩, e1, ⟨⟨_, sw⟩, si_none, T.here.chg.trans (n.chg.mono fun b _ hb => by omega), fun x hx => ?_⟩⟩
    rcases hx with hx | ⟨i, hi, hx⟩
    · exact T.here.low.2.2 x hx
    · have := n.lo i hi
      have := n.lb0
      have hx' : x = (Q i).q ∨ x = (Q i).m := hx
      omega
/-- five items added, four moved on -/
def WA : Nat → St3
  | 0 => (fun _ => [], fun _ _ => 0)
  | n + 1 => addS (WA n).1 (WA n).2 n
def WJ : Nat → St3
  | 0 => WA 5
  | n + 1 => jugS (WJ n).1 (WJ n).2
theorem wa_ok : ∀ k, k < 5 → addE (WA k).1 k = 0 := by decide +kernel
theorem wj_ok : ∀ k, k < 4 → (jug (WJ k).1 (WJ k).2).isSome = true := by decide +kernel
theorem wj_end : ((WJ 4).1 0).length = 1 ∧ ((WJ 4).1 1).length = 0 ∧ (WJ 4).1 2 = [3, 2, 1, 0] ∧ (jug (WJ 4).1 (WJ 4).2).isSome = false ∧ vict (WJ 4).2 (line (WJ 4).1) 0 3 = (0, 0) ∧ addE (WJ 4).1 0 = 4 := by decide +kernel
theorem jugS_no (h : (jug L F).isSome = false) : jugS L F = (L, F) := by
  cases e : jug L F with
  | none => exact jugS_none e
  | some q => rw [e] at h; cases h
theorem addS_no (h : addE L k = 4) : addS L F k = (L, F) := by
  unfold addE at h
  unfold addS
  by_cases hs : sg L k < 3
  · rw [if_pos hs]
  · rw [if_neg hs] at h; exact absurd h (by decide)
theorem vict_none : vict (fun _ _ => 0) (line (fun _ => [])) 0 3 = (0, 3) := rfl
set_option maxHeartbeats 4000000 in
theorem works13_calls (w : World) : Calls Try.prog 27 #[] w fun e w' => e = .returned (.bool true) ∧ Chg (fun _ => False) w w' := by
  go_enter Try.func27, Try.ntmps27
  go_wp2_with fail
  refine (laid_calls w).mono ?_
  rintro e w1 ⟨a, r, rfl, T⟩
  replace T := Lib.hid T
  go_wp2_with fail
  refine (SE.start T.out).mono ?_
  rintro e w2 ⟨l, rfl, K0⟩
  have V0 := K0.vicC
  rw [vict_none] at V0
  replace V0 := Lib.hid V0
  replace K0 := Lib.hid K0
  clear T
  go_wp2_with fail
  refine V0.out.mono ?_
  rintro e w3 ⟨rfl, hc⟩
  have K1 : Hid (SE w.heap.size w w3 a l (WA 0).1 (WA 0).2) := K0.out.fresh hc
  clear hc V0 K0
  go_wp2_with fail
  go_loopg [7] 5 (fun q c wr => ∃ k : Nat, c = .int .i64 k ∧ q = 5 - k ∧ k ≤ 5 ∧ Hid (SE w.heap.size w wr a l (WA k).1 (WA k).2))
  case atStart => exact ⟨0, rfl, rfl, by omega, K1.out⟩
  case round =>
    clear K1
    obtain ⟨k, rfl, hg, hk, K⟩ := hrel
    replace hg := Lib.hid hg
    by_cases h1 : k < 5
    · have h1' : (k : Int) < 5 := by omega
      have AD := K.out.addC (k := k) (by omega)
      rw [wa_ok k h1] at AD
      replace AD := Lib.hid AD
      clear K
      go_wp2_with fail
      refine AD.out.mono ?_
      rintro e w4 ⟨rfl, h2, -⟩
      have K2 : Hid (SE w.heap.size w w4 a l (WA (k + 1)).1 (WA (k + 1)).2) := h2
      clear h2 AD
      go_wp2_with fail
      go_roundg (5 - (k + 1))
      case measure => have := hg.out; omega
      case rel => exact ⟨k + 1, rfl, rfl, by omega, K2.out⟩
    · have h1' : ¬ (k : Int) < 5 := by omega
      obtain rfl : k = 5 := by omega
      have K2 : Hid (SE w.heap.size w wr a l (WJ 0).1 (WJ 0).2) := K.out
      clear K h1
      go_wp2_with fail
      go_loopg [8] 4 (fun q c wr => ∃ k : Nat, c = .int .i64 k ∧ q = 4 - k ∧ k ≤ 4 ∧ Hid (SE w.heap.size w wr a l (WJ k).1 (WJ k).2))
      case atStart => exact ⟨0, rfl, rfl, by omega, K2.out⟩
      case round =>
        clear K2
        obtain ⟨k, rfl, hg2, hk2, K⟩ := hrel
        replace hg2 := Lib.hid hg2
        by_cases h2 : k < 4
        · have h2' : (k : Int) < 4 := by omega
          have JG := K.out.jugC
          rw [wj_ok k h2] at JG
          replace JG := Lib.hid JG
          clear K
          go_wp2_with fail
          refine JG.out.mono ?_
          rintro e w4 ⟨rfl, h3, -⟩
          have K2 : Hid (SE w.heap.size w w4 a l (WJ (k + 1)).1 (WJ (k + 1)).2) := h3
          clear h3 JG
          go_wp2_with fail
          go_roundg (4 - (k + 1))
          case measure => have := hg2.out; omega
          case rel => exact ⟨k + 1, rfl, rfl, by omega, K2.out⟩
        · have h2' : ¬ (k : Int) < 4 := by omega
          obtain rfl : k = 4 := by omega
          obtain ⟨q0, q1, q2, q3, q4, q5⟩ := wj_end
          have CT := K.out.counts
          have VC := fun W (h : Chg (fun _ => False) wr W) => (K.out.fresh h).vicC
          have JG := fun W (h : Chg (fun _ => False) wr W) => (K.out.fresh h).jugC
          have LS := fun W (h : SE w.heap.size w W a l (WJ 4).1 (WJ 4).2) => h.list (i := 2) (by decide)
          have AD := fun W (h : SE w.heap.size w W a l (WJ 4).1 (WJ 4).2) => h.addC (k := 0) (by decide)
          have DR := fun W (h : SE w.heap.size w W a l (WJ 4).1 (WJ 4).2) => h.dropN 9999 fun j hj m => by
            obtain ⟨x, hx, e⟩ := at64_of m
            have := h.si.lt j hj x hx
            omega
          have q22 : ((WJ 4).1 2).length = 4 := by rw [q2]; rfl
          rw [q0, q1, q22] at CT
          simp only [q4] at VC
          simp only [q3, jugS_no q3] at JG
          simp only [q2] at LS
          simp only [q5, addS_no q5] at AD
          generalize (WJ 4).1 = L4 at *
          generalize (WJ 4).2 = F4 at *
          replace CT := Lib.hid CT
          replace VC := Lib.hid VC
          replace JG := Lib.hid JG
          replace LS := Lib.hid LS
          replace AD := Lib.hid AD
          replace DR := Lib.hid DR
          clear q0 q1 q2 q3 q4 q5 q22 h2
          go_wp2_with fail
          refine CT.out.mono ?_
          rintro e w4 ⟨rfl, hd⟩
          have C4 := Lib.hid (hd.chg (fun _ => False))
          clear hd CT
          go_wp2_with fail
          refine (VC.out _ C4.out).mono ?_
          rintro e w5 ⟨rfl, hc⟩
          have C5 := Lib.hid (C4.out.trans hc)
          clear hc VC
          go_wp2_with fail
          refine (JG.out _ C5.out).mono ?_
          rintro e w6 ⟨rfl, h6, -⟩
          have LL := Lib.hid (LS.out _ h6)
          replace h6 := Lib.hid h6
          clear JG LS
          go_wp2_with fail
          refine LL.out.mono ?_
          rintro e w7 ⟨A, c, rfl, ho, hc⟩
          have K7 := Lib.hid (h6.out.fresh hc)
          have sA : Sl (w7.alloc (.cells (nums .i64 [192, 128, 64, 0]).toArray 3)) .i64 A (at64 [3, 2, 1, 0]) := ho.sl.chg (Chg.alloc (fun _ => False) _ _) fun _ _ => id
          have sB := sl_lit w7 .i64 [192, 128, 64, 0] 3 (0, 0)
          have Z := Lib.hid (same06_calls (c := c) (d := 4) (l := [192, 128, 64, 0]) sA sB (by decide))
          have K8 := Lib.hid (K7.out.fresh (Chg.alloc (fun _ => False) _ (.cells (nums .i64 [192, 128, 64, 0]).toArray 3)))
          clear ho hc sA sB LL h6
          go_wp2_with fail
          refine Z.out.mono ?_
          rintro e w8 ⟨rfl, hd⟩
          have A8 : Hid (Calls Try.prog 36 #[(.pointer (some ⟨l.b, 0, none⟩)), (.int .i64 0)] w8 (SEnd w.heap.size w w8 a l (L4, F4) (.int .i64 4))) := AD.out _ (K8.out.fresh (hd.chg _))
          clear hd Z AD
          go_wp2_with fail
          refine A8.out.mono ?_
          rintro e w9 ⟨rfl, h9, -⟩
          have D9 := Lib.hid (DR.out _ h9)
          clear A8 DR
          go_wp2_with fail
          refine D9.out.mono ?_
          rintro e w10 ⟨rfl, h10, -⟩
          have FF : Hid (Chg (fun _ => False) w w10) := h10.chg.mono fun b h1 h2 => by omega
          clear h10 D9
          go_wp2_with fail
          go_ret
          exact ⟨rfl, FF.out⟩
end Go.Proofs.Ytmffdlebahdihaa.Seg

/- Chapter 13's done: acts, whatever they are. -/
namespace Go.Proofs.Ytmffdlebahdihaa.Seg
open Go Go.RowKit Go.Proofs.Ytmffdlebahdihaa.Mem Go.Proofs.Ytmffdlebahdihaa.CodecPure Go.Proofs.Ytmffdlebahdihaa.ArenaPure Go.Proofs.Ytmffdlebahdihaa.Codec Go.Proofs.Ytmffdlebahdihaa.Arena Go.Proofs.Ytmffdlebahdihaa.Item Go.Proofs.Ytmffdlebahdihaa.Links
set_option linter.unusedVariables false
set_option maxRecDepth 100000
/-- segments of the call's own, behind whatever acts -/
def Any (B : Nat) (w0 w : World) (a : Ar) (l : Lh) : Prop := ∃ L F, SE B w0 w a l L F ∧ ∀ k, k < 30 → F k 11 = 0
theorem Any.fresh {B : Nat} {w0 w w' : World} {a : Ar} {l : Lh} (h : Any B w0 w a l) (hc : Chg (fun _ => False) w w') : Any B w0 w' a l := by
  obtain ⟨L, F, h1, h2⟩ := h
  exact ⟨L, F, h1.fresh hc, h2⟩
theorem addS_ref (L : Nat → List Nat) (F : Nat → Int → Int) (k x : Nat) : (addS L F k).2 x 11 = F x 11 := by
  unfold addS
  split
  · rfl
  · show updF (updF F k 9 0) k 10 1 x 11 = _
    rw [updF_ne _ _ (.inr (by decide)), updF_ne _ _ (.inr (by decide))]
theorem dropS_ref (L : Nat → List Nat) (F : Nat → Int → Int) (k x : Nat) : (dropS L F k).2 x 11 = F x 11 := by
  unfold dropS
  split
  · show updF F k 10 0 x 11 = _
    rw [updF_ne _ _ (.inr (by decide))]
  · rfl
theorem bumpS_ref (L : Nat → List Nat) (F : Nat → Int → Int) (k x : Nat) : (bumpS L F k).2 x 11 = F x 11 := by
  unfold bumpS
  split
  · show updF F k 10 _ x 11 = _
    rw [updF_ne _ _ (.inr (by decide))]
  · rfl
theorem goesF_ref (F : Nat → Int → Int) (k z x : Nat) : goesF F k z x 11 = F x 11 := by
  unfold goesF
  rw [updF_ne _ _ (.inr (by decide)), updF_ne _ _ (.inr (by decide))]
theorem jugS_ref (L : Nat → List Nat) (F : Nat → Int → Int) (x : Nat) : (jugS L F).2 x 11 = F x 11 := by
  rcases jug_cases L F with ⟨h, _⟩ | ⟨A, k, z, _, h, _⟩
  · rw [jugS_none h]
  · rw [jugS_some h]
    exact goesF_ref F k z x
theorem Any.add {B : Nat} {w0 w : World} {a : Ar} {l : Lh} {k : Nat} (h : Any B w0 w a l) (hk : k < 30) : Calls Try.prog 36 #[(.pointer (some ⟨l.b, 0, none⟩)), (.int .i64 (64 * (k : Int)))] w fun e w' => (∃ v, e = .returned (.int .i64 v)) ∧ Any B w0 w' a l := by
  obtain ⟨L, F, h1, h2⟩ := h
  exact (h1.addC hk).mono fun e w' ⟨e1, e2, _⟩ => ⟨⟨_, e1⟩, _, _, e2, fun x hx => by rw [addS_ref]; exact h2 x hx⟩
theorem Any.drop {B : Nat} {w0 w : World} {a : Ar} {l : Lh} {k : Nat} (h : Any B w0 w a l) (hk : k < 30) : Calls Try.prog 40 #[(.pointer (some ⟨l.b, 0, none⟩)), (.int .i64 (64 * (k : Int)))] w fun e w' => (∃ v, e = .returned (.int .i64 v)) ∧ Any B w0 w' a l := by
  obtain ⟨L, F, h1, h2⟩ := h
  exact (h1.dropC hk).mono fun e w' ⟨e1, e2, _⟩ => ⟨⟨_, e1⟩, _, _, e2, fun x hx => by rw [dropS_ref]; exact h2 x hx⟩
theorem Any.bump {B : Nat} {w0 w : World} {a : Ar} {l : Lh} {k : Nat} (h : Any B w0 w a l) (hk : k < 30) : Calls Try.prog 37 #[(.pointer (some ⟨l.b, 0, none⟩)), (.int .i64 (64 * (k : Int)))] w fun e w' => (∃ v, e = .returned (.int .i64 v)) ∧ Any B w0 w' a l := by
  obtain ⟨L, F, h1, h2⟩ := h
  exact (h1.bumpC hk).mono fun e w' ⟨v, e1, e2, _⟩ => ⟨⟨_, e1⟩, _, _, e2, fun x hx => by rw [bumpS_ref]; exact h2 x hx⟩
theorem Any.jug {B : Nat} {w0 w : World} {a : Ar} {l : Lh} (h : Any B w0 w a l) : Calls Try.prog 33 #[(.pointer (some ⟨l.b, 0, none⟩))] w fun e w' => (∃ v, e = .returned (.bool v)) ∧ Any B w0 w' a l := by
  obtain ⟨L, F, h1, h2⟩ := h
  exact h1.jugC.mono fun e w' ⟨e1, e2, _⟩ => ⟨⟨_, e1⟩, _, _, e2, fun x hx => by rw [jugS_ref]; exact h2 x hx⟩
theorem Any.chg {B : Nat} {w0 w : World} {a : Ar} {l : Lh} (h : Any B w0 w a l) : Chg (fun b => B ≤ b) w0 w := by
  obtain ⟨L, F, h1, h2⟩ := h
  exact h1.chg
def DEnd (w : World) (e : Ending) (w' : World) : Prop := ∃ l a, e = .returned (.tuple #[(.pointer (some ⟨l.b, 0, none⟩)), (.pointer (some ⟨a.g, 0, none⟩))]) ∧ Any w.heap.size w w' a l
set_option maxHeartbeats 4000000 in
theorem done_calls (w0 : World) (A : Option Addr) (c : Nat) (l : List (List Int)) (w : World) (hl : SRow w0 [.i64, .i64, .i64, .i64] A c l) (CW : Chg (fun _ => False) w0 w) :
    Calls Try.prog 28 #[.slice A l.length c] w (DEnd w) := by
  have hlm : l.length ≤ 9223372036854775807 := Nat.le_trans hl.cap hl.most
  replace hl := Lib.hid hl
  replace CW := Lib.hid CW
  obtain ⟨ln, hn⟩ : ∃ n, l.length = n := ⟨_, rfl⟩
  rw [hn] at hlm ⊢
  replace hn := Lib.hid hn
  have RR : Hid (∀ (lh : Lh) (a : Ar) w', Any w.heap.size w w' a lh → DEnd w (.returned (.tuple #[(.pointer (some ⟨lh.b, 0, none⟩)), (.pointer (some ⟨a.g, 0, none⟩))])) w') := fun lh a w' h => ⟨lh, a, rfl, h⟩
  go_enter Try.func28, Try.ntmps28
  go_wp2_with fail
  refine (laid_calls w).mono ?_
  rintro e w1 ⟨a, r, rfl, T⟩
  replace T := Lib.hid T
  go_wp2_with fail
  refine (SE.start T.out).mono ?_
  rintro e w2 ⟨lh, rfl, K0⟩
  have K1 : Hid (Any w.heap.size w w2 a lh) := ⟨_, _, K0, fun _ _ => rfl⟩
  clear K0 T
  go_wp2_with fail
  go_loopg [8] 120 (fun q i wr => ∃ (k : Nat), i = .int .i64 k ∧ q = 120 - k ∧ k ≤ 120 ∧ k ≤ ln ∧ Hid (Any w.heap.size w wr a lh))
  case atStart => exact ⟨0, rfl, rfl, by omega, by omega, K1.out⟩
  case round =>
    clear K1
    obtain ⟨k, rfl, hg, hk, hkn, K⟩ := hrel
    replace hg := Lib.hid hg
    by_cases hlt : k < ln ∧ k < 120
    · obtain ⟨h1, h2⟩ := hlt
      have h1' : (k : Int) < ln := by omega
      have h2' : (k : Int) < 120 := by omega
      have CC : Chg (fun b => w0.heap.size ≤ b) w0 wr := (CW.out.mono fun _ _ h => h.elim).trans (K.out.chg.mono fun b _ hb => Nat.le_trans CW.out.size hb)
      have SR := hl.out.chg CC (Nat.le_refl _)
      obtain ⟨ad, rfl, d0, d1⟩ := SR.fields k (by rw [hn.out]; exact h1) (by decide)
      have f0 := d0 .i64 rfl
      have f1 := d1 0 .i64 rfl
      simp only [List.length_cons, List.length_nil, Nat.reduceAdd, Nat.zero_add] at f0 f1
      clear d0 d1 SR CC
      generalize (l.getD k []).getD 0 0 = kind at f0
      generalize (l.getD k []).getD 1 0 = x1 at f1
      obtain ⟨kk, hkk, q1, -⟩ := small x1 30 (by decide)
      have PC : Hid (∀ W, Calls Try.prog 29 #[(.int .i64 x1)] W fun e w' => e = .returned ((.int .i64 (64 * (kk : Int)))) ∧ w' = W) := fun W => place10_calls x1 W kk hkk q1
      clear q1
      go_wp2_with fail
      refine (PC.out _).mono ?_
      rintro e w5 ⟨rfl, rfl⟩
      clear PC
      by_cases e0 : kind = 0
      · have t0 : (kind == 0) = true := by rw [e0]; rfl
        clear e0
        have Q := Lib.hid (K.out.add hkk)
        clear K
        go_wp2_with fail
        refine Q.out.mono ?_
        rintro e w6 ⟨⟨v, rfl⟩, h6⟩
        replace h6 := Lib.hid h6
        clear Q f0 f1
        go_wp2_with fail
        go_roundg (120 - (k + 1))
        case measure => have := hg.out; omega
        case rel => exact ⟨k + 1, rfl, rfl, by omega, by omega, h6.out⟩
      · have t0 : (kind == 0) = false := by rw [beq_eq_false_iff_ne]; exact e0
        clear e0
        by_cases e1 : kind = 1
        · have t1 : (kind == 1) = true := by rw [e1]; rfl
          clear e1
          have Q := Lib.hid (K.out.drop hkk)
          clear K
          go_wp2_with fail
          refine Q.out.mono ?_
          rintro e w6 ⟨⟨v, rfl⟩, h6⟩
          replace h6 := Lib.hid h6
          clear Q f0 f1
          go_wp2_with fail
          go_roundg (120 - (k + 1))
          case measure => have := hg.out; omega
          case rel => exact ⟨k + 1, rfl, rfl, by omega, by omega, h6.out⟩
        · have t1 : (kind == 1) = false := by rw [beq_eq_false_iff_ne]; exact e1
          clear e1
          by_cases e2 : kind = 2
          · have t2 : (kind == 2) = true := by rw [e2]; rfl
            clear e2
            have Q := Lib.hid (K.out.bump hkk)
            clear K
            go_wp2_with fail
            refine Q.out.mono ?_
            rintro e w6 ⟨⟨v, rfl⟩, h6⟩
            replace h6 := Lib.hid h6
            clear Q f0 f1
            go_wp2_with fail
            go_roundg (120 - (k + 1))
            case measure => have := hg.out; omega
            case rel => exact ⟨k + 1, rfl, rfl, by omega, by omega, h6.out⟩
          · have t2 : (kind == 2) = false := by rw [beq_eq_false_iff_ne]; exact e2
            clear e2
            by_cases e3 : kind = 3
            · have t3 : (kind == 3) = true := by rw [e3]; rfl
              clear e3
              have Q := Lib.hid K.out.jug
              clear K
              go_wp2_with fail
              refine Q.out.mono ?_
              rintro e w6 ⟨⟨v, rfl⟩, h6⟩
              replace h6 := Lib.hid h6
              clear Q f0 f1
              go_wp2_with fail
              go_roundg (120 - (k + 1))
              case measure => have := hg.out; omega
              case rel => exact ⟨k + 1, rfl, rfl, by omega, by omega, h6.out⟩
            · have t3 : (kind == 3) = false := by rw [beq_eq_false_iff_ne]; exact e3
              clear e3
              go_wp2_with fail
              go_roundg (120 - (k + 1))
              case measure => have := hg.out; omega
              case rel => exact ⟨k + 1, rfl, rfl, by omega, by omega, K.out⟩
    · have hend : ((ln : Int) ≤ k) ∨ ((k : Int) < ln ∧ ¬ (k : Int) < 120) := by omega
      rcases hend with h1' | ⟨h1', h2'⟩
      all_goals
        (go_wp2_with fail
         go_ret2
         exact RR.out _ _ _ K.out)
end Go.Proofs.Ytmffdlebahdihaa.Seg

