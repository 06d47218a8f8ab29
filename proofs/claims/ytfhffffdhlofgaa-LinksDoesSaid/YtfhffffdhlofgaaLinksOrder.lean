/- The walk of the law LinksOrder: it returns true at any acts. -/
import Derived.Test.YtfhffffdhlofgaaLinksWalk
namespace Go.Proofs.Ytfhffffdhlofgaa.Links
open Go Go.RowKit Go.Proofs.Ytfhffffdhlofgaa.Mem Go.Proofs.Ytfhffffdhlofgaa.CodecPure Go.Proofs.Ytfhffffdhlofgaa.ArenaPure Go.Proofs.Ytfhffffdhlofgaa.Codec Go.Proofs.Ytfhffffdhlofgaa.Arena Go.Proofs.Ytfhffffdhlofgaa.Item
set_option linter.unusedVariables false
set_option maxRecDepth 100000
variable {B : Nat} {w0 w w' : World} {a : Ar} {h : Qh} {s : St} {L : List Int}
theorem remL_filter {L : List Int} (hn : L.Nodup) (x : Int) : (remL L x).1.reverse = L.reverse.filter (fun y => y != x) := by
  have e : (remL L x).1 = L.filter (fun y => y != x) := by
    unfold remL
    split
    · exact hn.erase_eq_filter x
    · rename_i h
      exact (List.filter_eq_self.2 fun y hy => by rw [bne_iff_ne]; exact fun e => h (e ▸ hy)).symm
  rw [e, List.filter_reverse]
theorem pushL_cases (L : List Int) (x : Int) : (pushL L x).2 = 0 ∧ (pushL L x).1 = x :: L ∨ (pushL L x).2 ≠ 0 ∧ (pushL L x).1 = L := by
  unfold pushL
  split
  · split
    · exact .inr ⟨by simp, rfl⟩
    · exact .inl ⟨rfl, rfl⟩
  · exact .inr ⟨by simp, rfl⟩
/-- what lies beyond the queue's own blocks may turn -/
theorem QA.beyond {C : Nat} (k : QA B w0 w a h s L) (hlt : a.g < C ∧ a.ps < C ∧ (∀ b ∈ a.pb, b < C) ∧ h.q < C ∧ h.m < C ∧ B ≤ C) (hc : Chg (fun b => C ≤ b) w w') : QA B w0 w' a h s L :=
  ⟨⟨k.here.lies.chg hc (by omega) (by omega) fun b hb => by have := hlt.2.2.1 b hb; omega, k.here.chg.trans (hc.mono fun b _ hb => by omega), k.here.low⟩,
   ⟨k.q.lies.chg hc (by omega) (by omega) fun b hb => by have := hlt.2.2.1 b hb; omega, k.q.li, hc.keep k.q.head (by omega), k.q.set.chg hc (by omega), k.q.out⟩, k.low, k.mult, k.own, k.clean⟩
theorem QA.blocks (k : QA B w0 w a h s L) : a.g < w.heap.size ∧ a.ps < w.heap.size ∧ (∀ b ∈ a.pb, b < w.heap.size) ∧ h.q < w.heap.size ∧ h.m < w.heap.size ∧ B ≤ w.heap.size := by
  have lp : a.ps < w.heap.size := World.block_lt_of_cell? w _ (k.here.lies.row 0 k.here.lies.ok.low)
  have lg := blk_lt k.here.lies.head
  have := k.here.low
  exact ⟨lg, lp, k.here.pb_lt, blk_lt k.q.head, k.q.set.lt, by omega⟩
theorem QA.lenE (k : QA B w0 w a h s L) {n : Nat} (hn : L.length = n) : Calls Try.prog 18 #[(.pointer (some ⟨h.q, 0, none⟩))] w fun e w' => e = .returned (.int .i64 n) ∧ w = w' := by
  have := len_calls k.q
  rw [hn] at this
  exact this
theorem last_of {L : List Int} (hn : L.Nodup) {q : Nat} (hq : q < L.length) : tail (L.take (q + 1)) = (L.getD q 0, true) ∧ remL (L.take (q + 1)) (L.getD q 0) = (L.take q, 0) := by
  have e : L.take (q + 1) = L.take q ++ [L.getD q 0] := by
    rw [List.getD_eq_getElem?_getD, List.getElem?_eq_getElem hq]
    exact List.take_succ_eq_append_getElem hq
  have hnd : (L.take (q + 1)).Nodup := hn.sublist (List.take_sublist _ _)
  rw [e] at hnd ⊢
  have hni : L.getD q 0 ∉ L.take q := fun h => (List.nodup_append.1 hnd).2.2 _ h _ (by simp) rfl
  constructor
  · rw [tail_at, if_pos (by simp)]
    congr 1
    rw [List.length_append, List.length_singleton, Nat.add_sub_cancel, List.getD_eq_getElem?_getD, List.getElem?_append_right (Nat.le_refl _)]
    simp
  · unfold remL
    rw [if_pos (by simp), List.erase_append_right _ hni]
    simp
theorem rev_at {L : List Int} {j m : Nat} (hm : L.length = m) (hj : j < m) : L.reverse.getD j 0 = L.getD (m - j - 1) 0 := by
  rw [List.getD_eq_getElem?_getD, List.getElem?_reverse (by omega), List.getD_eq_getElem?_getD, hm]
  congr 2
  omega
theorem chunk_ok30 {p : Nat} (h : p < 30) : Chunk (64 * (p : Int)) ∧ I64 (64 * (p : Int)) := by unfold Chunk I64; omega
theorem filter_take {l : List Int} {i : Nat} (hi : i < l.length) (f : Int → Bool) : (l.take (i + 1)).filter f = (l.take i).filter f ++ (if f (l.getD i 0) then [l.getD i 0] else []) := by
  have e : l.take (i + 1) = l.take i ++ [l.getD i 0] := by
    rw [List.getD_eq_getElem?_getD, List.getElem?_eq_getElem hi]
    exact List.take_succ_eq_append_getElem hi
  rw [e, List.filter_append]
  congr 1
  by_cases hf : f (l.getD i 0) = true
  · rw [List.filter_cons, if_pos hf, if_pos hf]; rfl
  · rw [List.filter_cons, if_neg hf, if_neg hf]; rfl
set_option maxHeartbeats 400000 in
theorem order_walk (A : Option Addr) (c : Nat) (l : List (List Int)) (w : World) (hl : SRow w [.i64, .i64, .i64] A c l) :
    Calls Try.prog 3 #[.slice A l.length c] w fun e w' => e = .returned (.bool true) ∧ Below w.heap.size w w' := by
  have hlm : l.length ≤ 9223372036854775807 := Nat.le_trans hl.cap hl.most
  replace hl := Lib.hid hl
  obtain ⟨n, hn⟩ : ∃ n, l.length = n := ⟨_, rfl⟩
  rw [hn] at hlm ⊢
  replace hn := Lib.hid hn
  go_enter Try.func3, Try.ntmps3
  go_wp2_with fail
  refine (works_calls w).mono ?_
  rintro e wa ⟨rfl, hc⟩
  have CA := Lib.hid hc
  clear hc
  go_wp2_with fail
  refine (made_calls 2 wa 2 (by decide) small2.1 small2.2).mono ?_
  rintro e w1 ⟨a, r, rfl, T⟩
  replace T := Lib.hid T
  go_wp2_with fail
  refine (QA.start T.out).mono ?_
  rintro e w2 ⟨h, rfl, H0, -, -, -⟩
  have OFF : Hid (∀ x, Q2 a h x → x < w2.heap.size) := H0.q2_lt
  have BL := Lib.hid H0.blocks
  replace H0 := Lib.hid H0
  clear T
  go_wp2_with fail
  go_loopg [7, 8] 60 (fun g v i wr => ∃ (k : Nat) (s : St) (L : List Int) (A2 : Option Addr) (m c2 : Nat), i = .int .i64 k ∧ g = 60 - k ∧ k ≤ 60 ∧ k ≤ n ∧ v = .slice A2 m c2 ∧ m ≤ k ∧ w2.heap.size ≤ wr.heap.size ∧ Hid (L.length = m) ∧ Hid (QA wa.heap.size wa wr a h s L) ∧ Hid (Mem.Own wr w2.heap.size 3 .i64 (.slice A2 m c2) L.reverse))
  case atStart => exact ⟨0, _, [], _, _, _, rfl, rfl, by omega, by omega, rfl, by omega, Nat.le_refl _, rfl, H0.out, Mem.Own.nil _ _ _ _⟩
  case round =>
    obtain ⟨k, s, L, A2, m, c2, rfl, hg, hk, hkn, rfl, hmk, hsz, HL, H1, HO⟩ := hrel
    obtain ⟨wo, rfl⟩ : ∃ wo : World, wo = wr := ⟨_, rfl⟩
    replace hg := Lib.hid hg
    by_cases hlt : k < n ∧ k < 60
    · obtain ⟨h1, h2⟩ := hlt
      have h1' : (k : Int) < n := by omega
      have h2' : (k : Int) < 60 := by omega
      have CC : Chg (fun b => w.heap.size ≤ b) w wo := (CA.out.mono fun _ _ h => h.elim).trans (H1.out.here.chg.mono fun b _ hb => Nat.le_trans CA.out.size hb)
      have SR := hl.out.chg CC (Nat.le_refl _)
      obtain ⟨ad, rfl, d0, d1⟩ := SR.fields k (by rw [hn.out]; exact h1) (by decide)
      have f0 := d0 .i64 rfl
      have f1 := d1 0 .i64 rfl
      simp only [List.length_cons, List.length_nil, Nat.reduceAdd, Nat.zero_add] at f0 f1
      clear d0 d1 SR CC
      generalize (l.getD k []).getD 0 0 = kind at f0
      generalize (l.getD k []).getD 1 0 = x at f1
      obtain ⟨p, hp, p1, p2⟩ := small x 30 (by decide)
      replace p1 : (IntKind.u64.wrap x).tmod 30 = p := p1
      clear p2
      have ck := Lib.hid (chunk_ok30 hp)
      clear H0 CA hl
      by_cases e0 : kind = 1
      · have t0 : (kind == 1) = true := by rw [e0]; rfl
        clear e0
        have P := Lib.hid (H1.out.removeE (x := 64 * (p : Int)) (L' := (remL L (64 * (p : Int))).1) (err := (remL L (64 * (p : Int))).2) rfl)
        have RF := Lib.hid (remL_filter H1.out.nodup (64 * (p : Int)))
        generalize (remL L (64 * (p : Int))).1 = L' at P RF
        generalize (remL L (64 * (p : Int))).2 = err at P
        have NB : Hid (∀ ad, A2 = some ad → ¬ Q2 a h ad.block) := fun ad e hq => by
          have := (HO.out.base ad e).1
          have := OFF.out _ hq
          omega
        go_wp2_with fail
        refine P.out.mono ?_
        rintro e w5 ⟨rfl, s', hnew, hc⟩
        replace hnew := Lib.hid hnew
        have hsz5 := hc.size
        have O5 := Lib.hid (HO.out.chg hc fun g e hq => by
          cases A2 with
          | none => simp [Value.ownBlock] at e
          | some ad => exact NB.out ad rfl (by simp [Value.ownBlock] at e; rw [e]; exact hq))
        clear P hc f0 f1 p1
        have hmi : m ≤ 9223372036854775807 := by omega
        go_wp2_with fail
        go_loopg [10, 11] m (fun g v i wr => ∃ (j : Nat) (R : List Int) (A3 : Option Addr) (q c3 : Nat), i = .int .i64 j ∧ g = m - j ∧ j ≤ m ∧ v = .slice A3 q c3 ∧ q ≤ j ∧ w5.heap.size ≤ wr.heap.size ∧ Hid (R = (L.reverse.take j).filter (fun y => y != 64 * (p : Int))) ∧ Hid (R.length = q) ∧ Hid (Mem.Own wr w5.heap.size 3 .i64 (.slice A3 q c3) R) ∧ Hid (Chg (fun b => w5.heap.size ≤ b) w5 wr))
        case atStart => exact ⟨0, [], _, _, _, rfl, rfl, by omega, rfl, by omega, Nat.le_refl _, rfl, rfl, Mem.Own.nil _ _ _ _, Chg.refl _ _⟩
        case round =>
          obtain ⟨j, R, A3, q, c3, rfl, hg3, hj, rfl, hqj, hsz3, HR, HRl, O3, C3⟩ := hrel
          obtain ⟨w3, rfl⟩ : ∃ wo : World, wo = wr := ⟨_, rfl⟩
          replace hg3 := Lib.hid hg3
          by_cases h3 : j < m
          · have h3' : (j : Int) < m := by omega
            have hjl : j < L.reverse.length := by rw [List.length_reverse, HL.out]; exact h3
            obtain ⟨ad2, rfl, c2⟩ := O5.out.sl j hjl
            have c3' : w3.cell? (ad2.add j) = some (.int .i64 (L.reverse.getD j 0)) := C3.out.cell c2 (by
              have := World.block_lt_of_cell? w5 _ c2
              omega)
            have FT := Lib.hid (filter_take hjl (fun y => y != 64 * (p : Int)))
            clear c2
            generalize L.reverse.getD j 0 = y at c3' FT
            by_cases ey : y = 64 * (p : Int)
            · have t1 : (y != 64 * (p : Int)) = false := by rw [ey]; simp
              have FT2 : Hid ((L.reverse.take (j + 1)).filter (fun y => y != 64 * (p : Int)) = R) := by
                have := FT.out
                rw [if_neg (by rw [t1]; decide), List.append_nil, ← HR.out] at this
                exact this
              clear ey FT
              go_wp2_with fail
              go_roundg (m - (j + 1))
              case measure => have := hg3.out; omega
              case rel => exact ⟨j + 1, R, A3, q, c3, rfl, rfl, by omega, rfl, by omega, hsz3, FT2.out.symm, HRl.out, O3.out, C3.out⟩
            · have t1 : (y != 64 * (p : Int)) = true := by rw [bne_iff_ne]; exact ey
              have FT2 : Hid ((L.reverse.take (j + 1)).filter (fun y => y != 64 * (p : Int)) = R ++ [y]) := by
                have := FT.out
                rw [if_pos t1, ← HR.out] at this
                exact this
              clear ey FT
              go_wp2_with (at_builtin; refine wpList_app rfl _ _ 30 rfl w5.heap.size 3 .i64 8 Try.underlying30 infoInt _ R rfl (O3.out.chg (Chg.alloc (fun _ => False) w3 (.cells #[.int .i64 y] 3)) (fun _ _ => id)) (some ⟨w3.heap.size, 0, none⟩) 1 1 [y] rfl rfl (sl_lit w3 .i64 [y] 3 (0, 0)) (fun e => by cases e) ?h63 ?hby ?hba ?_; (case h63 => rw [HRl.out]; unfold maxLen; omega); (case hby => rw [HRl.out]; omega); (case hba => simp; omega); intro A' c' n' w6 hn' hown hchg; obtain rfl : n' = q + 1 := (by rw [HRl.out] at hn'; exact hn'); have O6 : Hid (Mem.Own w6 w5.heap.size 3 .i64 (.slice A' (q + 1) c') (R ++ [y])) := hown; have C6 : Hid (Chg (fun b => w5.heap.size ≤ b) w5 w6) := (C3.out.trans ((Chg.alloc _ w3 _).trans hchg)); have hsz6 : w5.heap.size ≤ w6.heap.size := C6.out.size; clear hn' hown hchg)
              go_roundg (m - (j + 1))
              case measure => have := hg3.out; omega
              case rel => exact ⟨j + 1, R ++ [y], A', q + 1, c', rfl, rfl, by omega, rfl, by omega, hsz6, FT2.out.symm, by have := HRl.out; show (R ++ [y]).length = _; rw [List.length_append, this]; rfl, O6.out, C6.out⟩
          · have h3' : ¬ (j : Int) < m := by omega
            have ej : j = m := by omega
            have FR : Hid (R = L'.reverse) := by
              rw [HR.out, RF.out, ej, List.take_of_length_le (by rw [List.length_reverse, HL.out]; exact Nat.le_refl _)]
              exact rfl
            have H6 := Lib.hid (hnew.out.beyond hnew.out.blocks C3.out)
            have O6 : Hid (Mem.Own w3 w2.heap.size 3 .i64 (.slice A3 q c3) L'.reverse) := by
              have := O3.out
              rw [FR.out] at this
              exact this.mono (by omega)
            have LL : Hid (L'.length = q) := by
              have := HRl.out
              rw [FR.out, List.length_reverse] at this
              exact this
            clear ej
            go_wp2_with fail
            go_roundg (60 - (k + 1))
            case measure => have := hg.out; omega
            case rel => exact ⟨k + 1, s', L', A3, q, c3, rfl, rfl, by omega, by omega, rfl, by omega, by omega, LL.out, H6.out, O6.out⟩
      · have t0 : (kind == 1) = false := by rw [beq_eq_false_iff_ne]; exact e0
        clear e0
        have P := Lib.hid (H1.out.pushE (x := 64 * (p : Int)) (L' := (pushL L (64 * (p : Int))).1) (err := (pushL L (64 * (p : Int))).2) rfl ck.out.1 ck.out.2)
        have z := pushL_cases L (64 * (p : Int))
        generalize (pushL L (64 * (p : Int))).1 = L' at P z
        generalize (pushL L (64 * (p : Int))).2 = err at P z
        have NB : Hid (∀ ad, A2 = some ad → ¬ Q2 a h ad.block) := fun ad e hq => by
          have := (HO.out.base ad e).1
          have := OFF.out _ hq
          omega
        rcases z with ⟨ze, zl⟩ | ⟨ze, zl⟩
        · subst ze zl
          go_wp2_with fail
          refine P.out.mono ?_
          rintro e w5 ⟨rfl, s', hnew, hc⟩
          replace hnew := Lib.hid hnew
          have hsz5 := hc.size
          have O5 := Lib.hid (HO.out.chg hc fun g e hq => by
            cases A2 with
            | none => simp [Value.ownBlock] at e
            | some ad => exact NB.out ad rfl (by simp [Value.ownBlock] at e; rw [e]; exact hq))
          clear P hc f0 f1 p1
          go_wp2_with (at_builtin; refine wpList_app rfl _ _ 30 rfl w2.heap.size 3 .i64 8 Try.underlying30 infoInt _ L.reverse rfl (O5.out.chg (Chg.alloc (fun _ => False) w5 (.cells #[.int .i64 (64 * (p : Int))] 3)) (fun _ _ => id)) (some ⟨w5.heap.size, 0, none⟩) 1 1 [64 * (p : Int)] rfl rfl (sl_lit w5 .i64 [64 * (p : Int)] 3 (0, 0)) (fun e => by cases e) ?h63 ?hby ?hba ?_; (case h63 => rw [List.length_reverse, HL.out]; unfold maxLen; omega); (case hby => rw [List.length_reverse, HL.out]; omega); (case hba => simp; omega); intro A' c' n' w6 hn' hown hchg; obtain rfl : n' = m + 1 := (by rw [List.length_reverse, HL.out] at hn'; exact hn'); have O6 : Hid (Mem.Own w6 w2.heap.size 3 .i64 (.slice A' (m + 1) c') (64 * (p : Int) :: L).reverse) := (by rw [List.reverse_cons]; exact hown); have H6 : Hid (QA wa.heap.size wa w6 a h s' (64 * (p : Int) :: L)) := (QA.beyond hnew.out BL.out ((Chg.alloc _ w5 _).trans hchg)); have hsz6 : w5.heap.size ≤ w6.heap.size := ((Chg.alloc (fun b => w2.heap.size ≤ b) w5 _).trans hchg).size; clear hn' hown hchg)
          go_roundg (60 - (k + 1))
          case measure => have := hg.out; omega
          case rel => exact ⟨k + 1, s', _, A', m + 1, c', rfl, rfl, by omega, by omega, rfl, by omega, by omega, by have := HL.out; show (_ :: L).length = _; rw [List.length_cons, this], H6.out, O6.out⟩
        · subst zl
          have ze' : (err == 0) = false := by rw [beq_eq_false_iff_ne]; exact ze
          go_wp2_with fail
          refine P.out.mono ?_
          rintro e w5 ⟨rfl, s', hnew, hc⟩
          replace hnew := Lib.hid hnew
          have hsz5 := hc.size
          have O5 := Lib.hid (HO.out.chg hc fun g e hq => by
            cases A2 with
            | none => simp [Value.ownBlock] at e
            | some ad => exact NB.out ad rfl (by simp [Value.ownBlock] at e; rw [e]; exact hq))
          clear P hc f0 f1 p1
          go_wp2_with fail
          go_roundg (60 - (k + 1))
          case measure => have := hg.out; omega
          case rel => exact ⟨k + 1, s', _, A2, m, c2, rfl, rfl, by omega, by omega, rfl, by omega, by omega, HL.out, hnew.out, O5.out⟩
    · have hend : ((n : Int) ≤ k) ∨ ((k : Int) < n ∧ ¬ (k : Int) < 60) := by omega
      have NOD := Lib.hid H1.out.nodup
      have S2 := Lib.hid HO.out.sl
      have CB : Hid (∀ W, Chg (fun b => wa.heap.size ≤ b) wa W → Below w.heap.size w W) := fun W hc => ((CA.out.mono fun _ _ h => h.elim).trans (hc.mono fun b _ hb => Nat.le_trans CA.out.size hb)).below (Nat.le_refl _) fun _ h => h
      have NB : Hid (∀ ad, A2 = some ad → ¬ Q2 a h ad.block) := fun ad e hq => by
        have := (HO.out.base ad e).1
        have := OFF.out _ hq
        omega
      have H1' : Hid (QA wa.heap.size wa wo a h s (L.take (m - 0))) := by
        rw [Nat.sub_zero, List.take_of_length_le (by rw [HL.out]; exact Nat.le_refl _)]; exact H1.out
      have hmi : m ≤ 60 := by omega
      clear hg H0 hlt H1 HO OFF BL hk hkn hmk hsz
      rcases hend with he | ⟨he, he2⟩ <;>
      (go_wp2_with fail
       go_loopg [12] m (fun g i wr => ∃ (j : Nat) (s : St), i = .int .i64 j ∧ g = m - j ∧ j ≤ m ∧ Hid (QA wa.heap.size wa wr a h s (L.take (m - j))) ∧ Hid (Sl wr .i64 A2 L.reverse))
       case atStart => exact ⟨0, s, rfl, rfl, by omega, H1'.out, S2.out⟩
       case round =>
         obtain ⟨j, s2, rfl, hg, hj, H3, HS⟩ := hrel
         obtain ⟨wo2, rfl⟩ : ∃ wo : World, wo = wr := ⟨_, rfl⟩
         replace hg := Lib.hid hg
         by_cases h3 : j < m
         · have h3' : (j : Int) < m := by omega
           obtain ⟨q, hq⟩ : ∃ q, m - j = q + 1 := ⟨m - j - 1, by omega⟩
           obtain ⟨ad2, rfl, c2⟩ := HS.out j (by rw [List.length_reverse, HL.out]; exact h3)
           rw [rev_at HL.out h3, hq, Nat.add_sub_cancel] at c2
           have LO := last_of NOD.out (q := q) (by rw [HL.out]; omega)
           rw [hq] at H3
           generalize L.getD q 0 = x at c2 LO
           have TC := Lib.hid (H3.out.tailE LO.1)
           have RC := Lib.hid (H3.out.removeE LO.2)
           replace hq := Lib.hid hq
           clear LO
           go_wp2_with fail
           refine TC.out.mono ?_
           rintro e w7 ⟨rfl, rfl⟩
           clear TC
           go_wp2_with fail
           refine RC.out.mono ?_
           rintro e w8 ⟨rfl, s3, hnew, hc⟩
           have H4 := Lib.hid hnew
           have HS2 := Lib.hid (HS.out.chg hc NB.out)
           clear hnew hc RC c2
           go_wp2_with fail
           go_roundg (m - (j + 1))
           case measure => have := hg.out; omega
           case rel => exact ⟨j + 1, s3, rfl, rfl, by omega, by rw [show m - (j + 1) = q from by have := hq.out; omega]; exact H4.out, HS2.out⟩
         · have h3' : ¬ (j : Int) < m := by omega
           have H4 : Hid (QA wa.heap.size wa wo2 a h s2 []) := by
             have := H3.out
             rw [show m - j = 0 from by omega, List.take_zero] at this
             exact this
           clear H3
           go_wp2_with fail
           refine (H4.out.tailE (t := 0) (is := false) rfl).mono ?_
           rintro e w7 ⟨rfl, rfl⟩
           go_wp2_with fail
           refine (H4.out.lenE (n := 0) rfl).mono ?_
           rintro e w7 ⟨rfl, rfl⟩
           go_wp2_with fail
           refine (H4.out.listE (n := 0) rfl (by decide)).mono ?_
           rintro e w8 ⟨A5, c5, rfl, -, hq5, -⟩
           have F := Lib.hid (CB.out w8 hq5.here.chg)
           clear hq5
           go_wp2_with fail
           go_ret
           exact ⟨rfl, F.out⟩)
end Go.Proofs.Ytfhffffdhlofgaa.Links
