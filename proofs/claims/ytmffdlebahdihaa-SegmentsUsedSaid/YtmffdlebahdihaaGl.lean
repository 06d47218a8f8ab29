import Derived.Test.YtmffdlebahdihaaGj
/- The walk of chapter 13's SegmentsOne. -/
namespace Go.Proofs.Ytmffdlebahdihaa.Seg
open Go Go.RowKit Go.Proofs.Ytmffdlebahdihaa.Mem Go.Proofs.Ytmffdlebahdihaa.CodecPure Go.Proofs.Ytmffdlebahdihaa.ArenaPure Go.Proofs.Ytmffdlebahdihaa.Codec Go.Proofs.Ytmffdlebahdihaa.Arena Go.Proofs.Ytmffdlebahdihaa.Item Go.Proofs.Ytmffdlebahdihaa.Links
set_option linter.unusedVariables false
set_option maxRecDepth 100000
variable {B : Nat} {w0 w w' : World} {a : Ar} {L : Nat → List Nat} {F : Nat → Int → Int} {k : Nat} {l : Lh}
/-- how many of the first m numbers are in a list -/
def cin (l : List Nat) : Nat → Nat
  | 0 => 0
  | m + 1 => cin l m + (if m ∈ l then 1 else 0)
theorem cin_erase {l : List Nat} {x : Nat} (hn : l.Nodup) (hx : x ∈ l) : ∀ m, cin l m = cin (l.erase x) m + (if x < m then 1 else 0)
  | 0 => by simp [cin]
  | m + 1 => by
    have ih := cin_erase hn hx m
    show cin l m + _ = cin (l.erase x) m + _ + _
    by_cases e : m = x
    · subst e
      rw [if_pos hx, if_neg fun q => ((List.Nodup.mem_erase_iff hn).1 q).1 rfl, if_pos (Nat.lt_succ_self _)]
      rw [if_neg (Nat.lt_irrefl _)] at ih
      omega
    · have : (m ∈ l.erase x) ↔ m ∈ l := List.mem_erase_of_ne e
      simp only [this]
      by_cases h : x < m
      · rw [if_pos h] at ih
        rw [if_pos (show x < m + 1 by omega)]
        omega
      · rw [if_neg h] at ih
        rw [if_neg (show ¬ x < m + 1 by omega)]
        omega
theorem cin_nil : ∀ m, cin [] m = 0
  | 0 => rfl
  | m + 1 => by show cin [] m + _ = 0; rw [cin_nil m, if_neg (by simp)]
theorem cin_len : ∀ (n : Nat) (l : List Nat), l.length = n → l.Nodup → (∀ x ∈ l, x < 30) → cin l 30 = l.length
  | 0, l, h, _, _ => by rw [List.eq_nil_of_length_eq_zero h]; exact cin_nil 30
  | n + 1, l, h, hn, hl => by
    cases l with
    | nil => simp at h
    | cons x l =>
      have h1 := cin_erase hn (x := x) (by simp) 30
      rw [List.erase_cons_head, if_pos (hl x (by simp))] at h1
      have h2 := cin_len n l (by simpa using h) (List.nodup_cons.1 hn).2 fun y hy => hl y (by simp [hy])
      rw [h1, h2, List.length_cons]
/-- in how many queues an item is -/
def inq (L : Nat → List Nat) (k : Nat) : Nat → Nat
  | 0 => 0
  | s + 1 => inq L k s + (if k ∈ L s then 1 else 0)
def allq (L : Nat → List Nat) : Nat → Nat
  | 0 => 0
  | m + 1 => allq L m + inq L m 3
theorem allq_eq (L : Nat → List Nat) : ∀ m, allq L m = cin (L 0) m + cin (L 1) m + cin (L 2) m
  | 0 => rfl
  | m + 1 => by
    have ih := allq_eq L m
    simp only [allq, inq, cin]
    omega
theorem allq_cnt (h : SI L F) : allq L 30 = cnt L := by
  rw [allq_eq, cin_len _ (L 0) rfl (h.nd 0 (by decide)) (h.lt 0 (by decide)), cin_len _ (L 1) rfl (h.nd 1 (by decide)) (h.lt 1 (by decide)), cin_len _ (L 2) rfl (h.nd 2 (by decide)) (h.lt 2 (by decide))]
  rfl
theorem inq_le : ∀ s, inq L k s ≤ s
  | 0 => Nat.le_refl _
  | s + 1 => by
    have := inq_le s
    simp only [inq]
    split <;> omega
theorem allq_le (L : Nat → List Nat) : ∀ m, allq L m ≤ 3 * m
  | 0 => Nat.le_refl _
  | m + 1 => by
    have := allq_le L m
    have := inq_le (L := L) (k := m) 3
    show allq L m + inq L m 3 ≤ _
    omega
theorem inq_sg (h : SI L F) : inq L k 3 = if sg L k < 3 then 1 else 0 := by
  show ((0 + _) + _) + _ = _
  unfold sg
  by_cases h0 : k ∈ L 0
  · have h1 := h.dis 0 1 (by decide) (by decide) (by decide) k h0
    have h2 := h.dis 0 2 (by decide) (by decide) (by decide) k h0
    simp [h0, h1, h2]
  · by_cases h1 : k ∈ L 1
    · have h2 := h.dis 1 2 (by decide) (by decide) (by decide) k h1
      simp [h0, h1, h2]
    · by_cases h2 : k ∈ L 2
      · simp [h0, h1, h2]
      · simp [h0, h1, h2]
theorem SE.getF (q : SE B w0 w a l L F) (hk : k < 30) {f : Int} (hf : MkF f) : Calls Try.prog 31 #[(.pointer (some ⟨a.g, 0, none⟩)), (.int .i64 (64 * (k : Int))), (.int .i64 f)] w (Ans2 w (F k f) 0) := by
  obtain ⟨s, h⟩ := q.ex
  exact h.get hk hf
theorem at64_getD (m : List Nat) {j : Nat} (hj : j < m.length) : (at64 m).getD j 0 = 64 * ((m.getD j 0 : Nat) : Int) := by
  unfold at64
  rw [List.getD_eq_getElem?_getD, List.getElem?_map, List.getElem?_eq_getElem hj, List.getD_eq_getElem?_getD, List.getElem?_eq_getElem hj]
  rfl
theorem take_snoc2 (m : List Nat) {j : Nat} (hj : j < m.length) : m.take (j + 1) = m.take j ++ [m.getD j 0] := by
  rw [List.take_succ_eq_append_getElem hj, List.getD_eq_getElem?_getD, List.getElem?_eq_getElem hj]
  rfl
set_option maxHeartbeats 4000000 in
theorem one_walk (A : Option Addr) (c : Nat) (l : List (List Int)) (w : World) (hl : SRow w [.i64, .i64, .i64, .i64] A c l) :
    Calls Try.prog 7 #[.slice A l.length c] w fun e w' => e = .returned (.bool true) ∧ Below w.heap.size w w' := by
  have DC := Lib.hid (fun W (h : Chg (fun _ => False) w W) => done_calls w A c l W hl h)
  go_enter Try.func7, Try.ntmps7
  go_wp2_with fail
  refine (works13_calls w).mono ?_
  rintro e wa ⟨rfl, hc⟩
  have CW := Lib.hid hc
  have D2 := Lib.hid (DC.out _ hc)
  clear hc DC hl
  go_wp2_with fail
  refine D2.out.mono ?_
  rintro e w1 ⟨lh, a, rfl, L, F, K, -⟩
  have CBW : Hid (∀ W, Chg (fun b => wa.heap.size ≤ b) wa W → Below w.heap.size w W) := fun W hc => ((CW.out.mono fun _ _ h => h.elim).trans (hc.mono fun b _ hb => Nat.le_trans CW.out.size hb)).below (Nat.le_refl _) fun _ h => h
  have SI' := Lib.hid K.si
  have l30 : Hid (∀ i, i < 3 → (L i).length ≤ 30) := fun i hi => K.len30 hi
  have AC := Lib.hid (allq_cnt K.si)
  replace K := Lib.hid K
  clear D2
  go_wp2_with fail
  go_loopg [5, 6] 30 (fun q n i wr => ∃ (k : Nat), n = .int .i64 (allq L k) ∧ i = .int .i64 k ∧ q = 30 - k ∧ k ≤ 30 ∧ Hid (SE wa.heap.size wa wr a lh L F))
  case atStart => exact ⟨0, rfl, rfl, rfl, by omega, K.out⟩
  case round =>
    clear K
    obtain ⟨k, rfl, rfl, hg, hk, K⟩ := hrel
    replace hg := Lib.hid hg
    have al := allq_le L k
    by_cases h1 : k < 30
    · have h1' : (k : Int) < 30 := by omega
      have PC := Lib.hid (place10_calls (k : Int) wr k h1 (small30 k h1))
      obtain ⟨N, hN⟩ : ∃ N, allq L k = N := ⟨_, rfl⟩
      rw [hN] at al ⊢
      replace hN := Lib.hid hN
      go_wp2_with fail
      refine PC.out.mono ?_
      rintro e w2 ⟨rfl, rfl⟩
      clear PC
      go_wp2_with fail
      go_loopg [8, 9] 3 (fun q n i wr => ∃ (s : Nat), n = .int .i64 (inq L k s) ∧ i = .int .i64 s ∧ q = 3 - s ∧ s ≤ 3 ∧ Hid (SE wa.heap.size wa wr a lh L F))
      case atStart => exact ⟨0, rfl, rfl, rfl, by omega, K.out⟩
      case round =>
        clear K
        obtain ⟨s, rfl, rfl, hg2, hs, K⟩ := hrel
        replace hg2 := Lib.hid hg2
        by_cases h2 : s < 3
        · have h2' : (s : Int) < 3 := by omega
          have LS := Lib.hid (K.out.list h2)
          have IS : Hid (inq L k (s + 1) = inq L k s + (if k ∈ L s then 1 else 0)) := rfl
          have iq := inq_le (L := L) (k := k) s
          obtain ⟨I, hI⟩ : ∃ I, inq L k s = I := ⟨_, rfl⟩
          rw [hI] at IS iq ⊢
          obtain ⟨m, hm⟩ : ∃ m, (L s).length = m := ⟨_, rfl⟩
          have m30 := l30.out s h2
          unfold LEnd at LS
          rw [hm] at LS m30
          have ND := Lib.hid (SI'.out.nd s h2)
          have SG : Hid (k ∈ L s → F k 9 = s) := SI'.out.seg s h2 k
          have GE9 := Lib.hid (fun j (h : j < (L s).length) => at64_getD (L s) h)
          have TS := Lib.hid (fun j (h : j < (L s).length) => take_snoc2 (L s) h)
          have TL : Hid ((L s).take (L s).length = L s) := List.take_length
          have AL := Lib.hid (at64_len (L s))
          generalize L s = M at LS IS ND SG GE9 TS TL hm AL
          replace hm := Lib.hid hm
          clear hI
          go_wp2_with fail
          refine LS.out.mono ?_
          rintro e w3 ⟨A3, c3, rfl, ho, hc⟩
          have K3 := Lib.hid (K.out.fresh hc)
          have O3 := Lib.hid ho.sl
          clear ho hc LS K
          go_wp2_with fail
          go_loopg [8, 11] m (fun q n i wr => ∃ (j : Nat), n = .int .i64 ((I + (if k ∈ M.take j then 1 else 0) : Nat) : Int) ∧ i = .int .i64 j ∧ q = m - j ∧ j ≤ m ∧ Hid (SE wa.heap.size wa wr a lh L F) ∧ Hid (Sl wr .i64 A3 (at64 M)))
          case atStart => exact ⟨0, by simp, rfl, rfl, by omega, K3.out, O3.out⟩
          case round =>
            clear K3 O3
            obtain ⟨j, rfl, rfl, hg3, hj, K4, O4⟩ := hrel
            replace hg3 := Lib.hid hg3
            by_cases h3 : j < m
            · have h3' : (j : Int) < m := by omega
              have jm : j < M.length := by rw [hm.out]; exact h3
              obtain ⟨ad, rfl, cj⟩ := O4.out j (by rw [AL.out]; exact jm)
              rw [GE9.out j jm] at cj
              have TJ := Lib.hid (TS.out j jm)
              have XM : M.getD j 0 ∈ M := by rw [List.getD_eq_getElem?_getD, List.getElem?_eq_getElem jm]; exact List.getElem_mem jm
              have XN : M.getD j 0 ∉ M.take j := by
                have h5 := ND.out
                rw [← List.take_append_drop (j + 1) M, TJ.out] at h5
                have h6 := (List.nodup_append.1 h5).1
                exact fun q => (List.nodup_append.1 h6).2.2 _ q _ (by simp) rfl
              obtain ⟨x, hx⟩ : ∃ x, M.getD j 0 = x := ⟨_, rfl⟩
              rw [hx] at cj TJ XM XN
              by_cases e : x = k
              · subst e
                have GF := K4.out.getF h1 (f := 9) (.inl rfl)
                rw [SG.out XM] at GF
                replace GF := Lib.hid GF
                have NX : Hid ((I + (if x ∈ M.take (j + 1) then 1 else 0) : Nat) = I + 1) := by show _ = _; rw [TJ.out, if_pos (by simp)]
                rw [if_neg XN]
                clear hx XM XN TJ
                rw [Nat.add_zero]
                go_wp2_with fail
                refine GF.out.mono ?_
                rintro e w4 ⟨rfl, hc⟩
                have K5 := Lib.hid (K4.out.fresh hc)
                have O5 := Lib.hid (O4.out.chg hc fun _ _ => id)
                clear hc GF K4 O4 cj
                go_wp2_with fail
                go_roundg (m - (j + 1))
                case measure => have := hg3.out; omega
                case rel => exact ⟨j + 1, by rw [NX.out, Int.natCast_add]; rfl, rfl, rfl, by omega, K5.out, O5.out⟩
              · have ne1 : ¬ (64 * (x : Int) = 64 * (k : Int)) := by omega
                have ne2 : (64 * (x : Int) == 64 * (k : Int)) = false := by rw [beq_eq_false_iff_ne]; exact ne1
                have ne3 : ¬ ((x : Int) = (k : Int)) := by omega
                have NX : Hid ((I + (if k ∈ M.take (j + 1) then 1 else 0) : Nat) = I + (if k ∈ M.take j then 1 else 0)) := by
                  show _ = _
                  rw [TJ.out]
                  have : (k ∈ M.take j ++ [x]) ↔ k ∈ M.take j := by simp; exact fun q => absurd q.symm e
                  simp only [this]
                generalize (I + (if k ∈ M.take j then 1 else 0) : Nat) = I2 at NX ⊢
                clear hx XM XN TJ e
                go_wp2_with fail
                go_roundg (m - (j + 1))
                case measure => have := hg3.out; omega
                case rel => exact ⟨j + 1, by rw [NX.out], rfl, rfl, by omega, K4.out, O4.out⟩
            · have h3' : ¬ (j : Int) < m := by omega
              obtain rfl : j = m := by omega
              have e : M.take j = M := by rw [← hm.out]; exact TL.out
              rw [e, ← IS.out]
              clear e
              go_wp2_with fail
              go_roundg (3 - (s + 1))
              case measure => have := hg2.out; omega
              case rel => exact ⟨s + 1, rfl, rfl, rfl, by omega, K4.out⟩
        · have h2' : ¬ (s : Int) < 3 := by omega
          obtain rfl : s = 3 := by omega
          have GF := Lib.hid (K.out.getF h1 (f := 10) (.inr (.inl rfl)))
          obtain ⟨b0, b1⟩ := SI'.out.bit k h1
          have bo := SI'.out.odd k h1
          have t5 := (bits_tab b0 b1).2.2.2.2
          have AQ : Hid (allq L (k + 1) = N + inq L k 3) := by show allq L k + _ = _; rw [hN.out]
          have IQ := inq_sg (k := k) SI'.out
          generalize inq L k 3 = I at *
          generalize F k 10 = b at *
          clear h2
          by_cases hsg : sg L k < 3
          · rw [if_pos hsg] at IQ
            subst IQ
            rw [decide_eq_true (bo.2 hsg)] at t5
            clear bo b0 b1 hsg
            go_wp2_with fail
            refine GF.out.mono ?_
            rintro e w4 ⟨rfl, hc⟩
            have K5 := Lib.hid (K.out.fresh hc)
            clear hc GF K
            go_wp2_with fail
            go_roundg (30 - (k + 1))
            case measure => have := hg.out; omega
            case rel => exact ⟨k + 1, by rw [AQ.out, Int.natCast_add]; rfl, rfl, rfl, by omega, K5.out⟩
          · rw [if_neg hsg] at IQ
            subst IQ
            rw [decide_eq_false fun q => hsg (bo.1 q)] at t5
            clear bo b0 b1 hsg
            go_wp2_with fail
            refine GF.out.mono ?_
            rintro e w4 ⟨rfl, hc⟩
            have K5 := Lib.hid (K.out.fresh hc)
            clear hc GF K
            go_wp2_with fail
            go_roundg (30 - (k + 1))
            case measure => have := hg.out; omega
            case rel => exact ⟨k + 1, by rw [AQ.out, Nat.add_zero], rfl, rfl, by omega, K5.out⟩
    · have h1' : ¬ (k : Int) < 30 := by omega
      obtain rfl : k = 30 := by omega
      rw [AC.out]
      have e0 : cnt L = (L 0).length + (L 1).length + (L 2).length := rfl
      have CT := Lib.hid K.out.counts
      have m0 := l30.out 0 (by decide)
      have m1 := l30.out 1 (by decide)
      have m2 := l30.out 2 (by decide)
      rw [e0]
      generalize (L 0).length = n0 at *
      generalize (L 1).length = n1 at *
      generalize (L 2).length = n2 at *
      have v1 : ((n0 + n1 + n2 : Nat) : Int) = (n0 : Int) + (n1 : Int) + (n2 : Int) := by omega
      rw [v1]
      clear e0 v1 al
      go_wp2_with fail
      refine CT.out.mono ?_
      rintro e w4 ⟨rfl, hd⟩
      have FF := Lib.hid (CBW.out _ (K.out.fresh (hd.chg _)).chg)
      clear hd CT K
      go_wp2_with fail
      go_ret
      exact ⟨by simp, FF.out⟩
end Go.Proofs.Ytmffdlebahdihaa.Seg

