import Derived.Test.YtfhffffdhlofgaaGd
import Derived.Test.YtfhffffdhlofgaaGa
import Derived.Test.YtfhffffdhlofgaaGb
import Derived.BigQuiet
import Derived.Deep.LoopGhost
import Derived.Deep.QuietTactic
import Derived.StillTailTactics
import Derived.Deep.RegionLaw
import Derived.Deep.RegionHeld3
import Derived.OpenShut
/- The walk of the law LinksOrder: it returns true at any acts. -/
namespace Go.Proofs.Ytfhffffdhlofgaa.Links
open Go Go.RowKit Go.Proofs.Ytfhffffdhlofgaa.Mem Go.Proofs.Ytfhffffdhlofgaa.CodecPure Go.Proofs.Ytfhffffdhlofgaa.ArenaPure Go.Proofs.Ytfhffffdhlofgaa.Codec Go.Proofs.Ytfhffffdhlofgaa.Arena Go.Proofs.Ytfhffffdhlofgaa.Item
set_option linter.unusedVariables false
set_option maxRecDepth 100000
variable {B : Nat} {w0 w w' : World} {a : Ar} {h : Qh} {s : St} {L : List Int}
theorem remL_filter {L : List Int} (hn : L.Nodup) (x : Int) : (remL L x).1.reverse = L.reverse.filter (fun y => y != x) := by
  have e : (remL L x).1 = L.filter (fun y => y != x) := by
    unfold remL
    split
    · exact hn.erase_eq_filter x
    · rename_i h
      exact (List.filter_eq_self.2 fun y hy => by rw [bne_iff_ne]; exact fun e => h (e ▸ hy)).symm
  rw [e, List.filter_reverse]
theorem pushL_cases (L : List Int) (x : Int) : (pushL L x).2 = 0 ∧ (pushL L x).1 = x :: L ∨ (pushL L x).2 ≠ 0 ∧ (pushL L x).1 = L := by
  unfold pushL
  split
  · split
    · exact .inr ⟨by simp, rfl⟩
    · exact .inl ⟨rfl, rfl⟩
  · exact .inr ⟨by simp, rfl⟩
/-- what lies beyond the queue's own blocks may turn -/
theorem QA.beyond {C : Nat} (k : QA B w0 w a h s L) (hlt : a.g < C ∧ a.ps < C ∧ (∀ b ∈ a.pb, b < C) ∧ h.q < C ∧ h.m < C ∧ B ≤ C) (hc : Chg (fun b => C ≤ b) w w') : QA B w0 w' a h s L :=
  ⟨⟨k.here.lies.chg hc (by omega) (by omega) fun b hb => by have := hlt.2.2.1 b hb; omega, k.here.chg.trans (hc.mono fun b _ hb => by omega), k.here.low⟩,
   ⟨k.q.lies.chg hc (by omega) (by omega) fun b hb => by have := hlt.2.2.1 b hb; omega, k.q.li, hc.keep k.q.head (by omega), k.q.set.chg hc (by omega), k.q.out⟩, k.low, k.mult, k.own, k.clean⟩
theorem QA.blocks (k : QA B w0 w a h s L) : a.g < w.heap.size ∧ a.ps < w.heap.size ∧ (∀ b ∈ a.pb, b < w.heap.size) ∧ h.q < w.heap.size ∧ h.m < w.heap.size ∧ B ≤ w.heap.size := by
  have lp : a.ps < w.heap.size := World.block_lt_of_cell? w _ (k.here.lies.row 0 k.here.lies.ok.low)
  have lg := blk_lt k.here.lies.head
  have := k.here.low
  exact ⟨lg, lp, k.here.pb_lt, blk_lt k.q.head, k.q.set.lt, by omega⟩
theorem QA.lenE (k : QA B w0 w a h s L) {n : Nat} (hn : L.length = n) : Calls Try.prog 18 #[(.pointer (some ⟨h.q, 0, none⟩))] w fun e w' => e = .returned (.int .i64 n) ∧ w = w' := by
  have := len_calls k.q
  rw [hn] at this
  exact this
theorem last_of {L : List Int} (hn : L.Nodup) {q : Nat} (hq : q < L.length) : tail (L.take (q + 1)) = (L.getD q 0, true) ∧ remL (L.take (q + 1)) (L.getD q 0) = (L.take q, 0) := by
  have e : L.take (q + 1) = L.take q ++ [L.getD q 0] := by
    rw [List.getD_eq_getElem?_getD, List.getElem?_eq_getElem hq]
    exact List.take_succ_eq_append_getElem hq
  have hnd : (L.take (q + 1)).Nodup := hn.sublist (List.take_sublist _ _)
  rw [e] at hnd ⊢
  have hni : L.getD q 0 ∉ L.take q := fun h => (List.nodup_append.1 hnd).2.2 _ h _ (by simp) rfl
  constructor
  · rw [tail_at, if_pos (by simp)]
    congr 1
    rw [List.length_append, List.length_singleton, Nat.add_sub_cancel, List.getD_eq_getElem?_getD, List.getElem?_append_right (Nat.le_refl _)]
    simp
  · unfold remL
    rw [if_pos (by simp), List.erase_append_right _ hni]
    simp
theorem rev_at {L : List Int} {j m : Nat} (hm : L.length = m) (hj : j < m) : L.reverse.getD j 0 = L.getD (m - j - 1) 0 := by
  rw [List.getD_eq_getElem?_getD, List.getElem?_reverse (by omega), List.getD_eq_getElem?_getD, hm]
  congr 2
  omega
theorem chunk_ok30 {p : Nat} (h : p < 30) : Chunk (64 * (p : Int)) ∧ I64 (64 * (p : Int)) := by unfold Chunk I64; omega
theorem filter_take {l : List Int} {i : Nat} (hi : i < l.length) (f : Int → Bool) : (l.take (i + 1)).filter f = (l.take i).filter f ++ (if f (l.getD i 0) then [l.getD i 0] else []) := by
  have e : l.take (i + 1) = l.take i ++ [l.getD i 0] := by
    rw [List.getD_eq_getElem?_getD, List.getElem?_eq_getElem hi]
    exact List.take_succ_eq_append_getElem hi
  rw [e, List.filter_append]
  congr 1
  by_cases hf : f (l.getD i 0) = true
  · rw [List.filter_cons, if_pos hf, if_pos hf]; rfl
  · rw [List.filter_cons, if_neg hf, if_neg hf]; rfl
set_option maxHeartbeats 400000 in
theorem order_walk (A : Option Addr) (c : Nat) (l : List (List Int)) (w : World) (hl : SRow w [.i64, .i64, .i64] A c l) :
    Calls Try.prog 3 #[.slice A l.length c] w fun e w' => e = .returned (.bool true) ∧ Below w.heap.size w w' := by
  have hlm : l.length ≤ 9223372036854775807 := Nat.le_trans hl.cap hl.most
  replace hl := Lib.hid hl
  obtain ⟨n, hn⟩ : ∃ n, l.length = n := ⟨_, rfl⟩
  rw [hn] at hlm ⊢
  replace hn := Lib.hid hn
  go_enter Try.func3, Try.ntmps3
  go_wp2_with fail
  refine (works_calls w).mono ?_
  rintro e wa ⟨rfl, hc⟩
  have CA := Lib.hid hc
  clear hc
  go_wp2_with fail
  refine (made_calls 2 wa 2 (by decide) small2.1 small2.2).mono ?_
  rintro e w1 ⟨a, r, rfl, T⟩
  replace T := Lib.hid T
  go_wp2_with fail
  refine (QA.start T.out).mono ?_
  rintro e w2 ⟨h, rfl, H0, -, -, -⟩
  have OFF : Hid (∀ x, Q2 a h x → x < w2.heap.size) := H0.q2_lt
  have BL := Lib.hid H0.blocks
  replace H0 := Lib.hid H0
  clear T
  go_wp2_with fail
  go_loopg [7, 8] 60 (fun g v i wr => ∃ (k : Nat) (s : St) (L : List Int) (A2 : Option Addr) (m c2 : Nat), i = .int .i64 k ∧ g = 60 - k ∧ k ≤ 60 ∧ k ≤ n ∧ v = .slice A2 m c2 ∧ m ≤ k ∧ w2.heap.size ≤ wr.heap.size ∧ Hid (L.length = m) ∧ Hid (QA wa.heap.size wa wr a h s L) ∧ Hid (Mem.Own wr w2.heap.size 3 .i64 (.slice A2 m c2) L.reverse))
  case atStart => exact ⟨0, _, [], _, _, _, rfl, rfl, by omega, by omega, rfl, by omega, Nat.le_refl _, rfl, H0.out, Mem.Own.nil _ _ _ _⟩
  case round =>
    obtain ⟨k, s, L, A2, m, c2, rfl, hg, hk, hkn, rfl, hmk, hsz, HL, H1, HO⟩ := hrel
    obtain ⟨wo, rfl⟩ : ∃ wo : World, wo = wr := ⟨_, rfl⟩
    replace hg := Lib.hid hg
    by_cases hlt : k < n ∧ k < 60
    · obtain ⟨h1, h2⟩ := hlt
      have h1' : (k : Int) < n := by omega
      have h2' : (k : Int) < 60 := by omega
      have CC : Chg (fun b => w.heap.size ≤ b) w wo := (CA.out.mono fun _ _ h => h.elim).trans (H1.out.here.chg.mono fun b _ hb => Nat.le_trans CA.out.size hb)
      have SR := hl.out.chg CC (Nat.le_refl _)
      obtain ⟨ad, rfl, d0, d1⟩ := SR.fields k (by rw [hn.out]; exact h1) (by decide)
      have f0 := d0 .i64 rfl
      have f1 := d1 0 .i64 rfl
      simp only [List.length_cons, List.length_nil, Nat.reduceAdd, Nat.zero_add] at f0 f1
      clear d0 d1 SR CC
      generalize (l.getD k []).getD 0 0 = kind at f0
      generalize (l.getD k []).getD 1 0 = x at f1
      obtain ⟨p, hp, p1, p2⟩ := small x 30 (by decide)
      replace p1 : (IntKind.u64.wrap x).tmod 30 = p := p1
      clear p2
      have ck := Lib.hid (chunk_ok30 hp)
      clear H0 CA hl
      by_cases e0 : kind = 1
      · have t0 : (kind == 1) = true := by rw [e0]; rfl
        clear e0
        have P := Lib.hid (H1.out.removeE (x := 64 * (p : Int)) (L' := (remL L (64 * (p : Int))).1) (err := (remL L (64 * (p : Int))).2) rfl)
        have RF := Lib.hid (remL_filter H1.out.nodup (64 * (p : Int)))
        generalize (remL L (64 * (p : Int))).1 = L' at P RF
        generalize (remL L (64 * (p : Int))).2 = err at P
        have NB : Hid (∀ ad, A2 = some ad → ¬ Q2 a h ad.block) := fun ad e hq => by
          have := (HO.out.base ad e).1
          have := OFF.out _ hq
          omega
        go_wp2_with fail
        refine P.out.mono ?_
        rintro e w5 ⟨rfl, s', hnew, hc⟩
        replace hnew := Lib.hid hnew
        have hsz5 := hc.size
        have O5 := Lib.hid (HO.out.chg hc fun g e hq => by
          cases A2 with
          | none => simp [Value.ownBlock] at e
          | some ad => exact NB.out ad rfl (by simp [Value.ownBlock] at e; rw [e]; exact hq))
        clear P hc f0 f1 p1
        have hmi : m ≤ 9223372036854775807 := by omega
        go_wp2_with fail
        go_loopg [10, 11] m (fun g v i wr => ∃ (j : Nat) (R : List Int) (A3 : Option Addr) (q c3 : Nat), i = .int .i64 j ∧ g = m - j ∧ j ≤ m ∧ v = .slice A3 q c3 ∧ q ≤ j ∧ w5.heap.size ≤ wr.heap.size ∧ Hid (R = (L.reverse.take j).filter (fun y => y != 64 * (p : Int))) ∧ Hid (R.length = q) ∧ Hid (Mem.Own wr w5.heap.size 3 .i64 (.slice A3 q c3) R) ∧ Hid (Chg (fun b => w5.heap.size ≤ b) w5 wr))
        case atStart => exact ⟨0, [], _, _, _, rfl, rfl, by omega, rfl, by omega, Nat.le_refl _, rfl, rfl, Mem.Own.nil _ _ _ _, Chg.refl _ _⟩
        case round =>
          obtain ⟨j, R, A3, q, c3, rfl, hg3, hj, rfl, hqj, hsz3, HR, HRl, O3, C3⟩ := hrel
          obtain ⟨w3, rfl⟩ : ∃ wo : World, wo = wr := ⟨_, rfl⟩
          replace hg3 := Lib.hid hg3
          by_cases h3 : j < m
          · have h3' : (j : Int) < m := by omega
            have hjl : j < L.reverse.length := by rw [List.length_reverse, HL.out]; exact h3
            obtain ⟨ad2, rfl, c2⟩ := O5.out.sl j hjl
            have c3' : w3.cell? (ad2.add j) = some (.int .i64 (L.reverse.getD j 0)) := C3.out.cell c2 (by
              have := World.block_lt_of_cell? w5 _ c2
              omega)
            have FT := Lib.hid (filter_take hjl (fun y => y != 64 * (p : Int)))
            clear c2
            generalize L.reverse.getD j 0 = y at c3' FT
            by_cases ey : y = 64 * (p : Int)
            · have t1 : (y != 64 * (p : Int)) = false := by rw [ey]; simp
              have FT2 : Hid ((L.reverse.take (j + 1)).filter (fun y => y != 64 * (p : Int)) = R) := by
                have := FT.out
                rw [if_neg (by rw [t1]; decide), List.append_nil, ← HR.out] at this
                exact this
              clear ey FT
              go_wp2_with fail
              go_roundg (m - (j + 1))
              case measure => have := hg3.out; omega
              case rel => exact ⟨j + 1, R, A3, q, c3, rfl, rfl, by omega, rfl, by omega, hsz3, FT2.out.symm, HRl.out, O3.out, C3.out⟩
            · have t1 : (y != 64 * (p : Int)) = true := by rw [bne_iff_ne]; exact ey
              have FT2 : Hid ((L.reverse.take (j + 1)).filter (fun y => y != 64 * (p : Int)) = R ++ [y]) := by
                have := FT.out
                rw [if_pos t1, ← HR.out] at this
                exact this
              clear ey FT
              go_wp2_with (at_builtin; refine wpList_app rfl _ _ 30 rfl w5.heap.size 3 .i64 8 Try.underlying30 infoInt _ R rfl (O3.out.chg (Chg.alloc (fun _ => False) w3 (.cells #[.int .i64 y] 3)) (fun _ _ => id)) (some ⟨w3.heap.size, 0, none⟩) 1 1 [y] rfl rfl (sl_lit w3 .i64 [y] 3 (0, 0)) (fun e => by cases e) ?h63 ?hby ?hba ?_; (case h63 => rw [HRl.out]; unfold maxLen; omega); (case hby => rw [HRl.out]; omega); (case hba => simp; omega); intro A' c' n' w6 hn' hown hchg; obtain rfl : n' = q + 1 := (by rw [HRl.out] at hn'; exact hn'); have O6 : Hid (Mem.Own w6 w5.heap.size 3 .i64 (.slice A' (q + 1) c') (R ++ [y])) := hown; have C6 : Hid (Chg (fun b => w5.heap.size ≤ b) w5 w6) := (C3.out.trans ((Chg.alloc _ w3 _).trans hchg)); have hsz6 : w5.heap.size ≤ w6.heap.size := C6.out.size; clear hn' hown hchg)
              go_roundg (m - (j + 1))
              case measure => have := hg3.out; omega
              case rel => exact ⟨j + 1, R ++ [y], A', q + 1, c', rfl, rfl, by omega, rfl, by omega, hsz6, FT2.out.symm, by have := HRl.out; show (R ++ [y]).length = _; rw [List.length_append, this]; rfl, O6.out, C6.out⟩
          · have h3' : ¬ (j : Int) < m := by omega
            have ej : j = m := by omega
            have FR : Hid (R = L'.reverse) := by
              rw [HR.out, RF.out, ej, List.take_of_length_le (by rw [List.length_reverse, HL.out]; exact Nat.le_refl _)]
              exact rfl
            have H6 := Lib.hid (hnew.out.beyond hnew.out.blocks C3.out)
            have O6 : Hid (Mem.Own w3 w2.heap.size 3 .i64 (.slice A3 q c3) L'.reverse) := by
              have := O3.out
              rw [FR.out] at this
              exact this.mono (by omega)
            have LL : Hid (L'.length = q) := by
              have := HRl.out
              rw [FR.out, List.length_reverse] at this
              exact this
            clear ej
            go_wp2_with fail
            go_roundg (60 - (k + 1))
            case measure => have := hg.out; omega
            case rel => exact ⟨k + 1, s', L', A3, q, c3, rfl, rfl, by omega, by omega, rfl, by omega, by omega, LL.out, H6.out, O6.out⟩
      · have t0 : (kind == 1) = false := by rw [beq_eq_false_iff_ne]; exact e0
        clear e0
        have P := Lib.hid (H1.out.pushE (x := 64 * (p : Int)) (L' := (pushL L (64 * (p : Int))).1) (err := (pushL L (64 * (p : Int))).2) rfl ck.out.1 ck.out.2)
        have z := pushL_cases L (64 * (p : Int))
        generalize (pushL L (64 * (p : Int))).1 = L' at P z
        generalize (pushL L (64 * (p : Int))).2 = err at P z
        have NB : Hid (∀ ad, A2 = some ad → ¬ Q2 a h ad.block) := fun ad e hq => by
          have := (HO.out.base ad e).1
          have := OFF.out _ hq
          omega
        rcases z with ⟨ze, zl⟩ | ⟨ze, zl⟩
        · subst ze zl
          go_wp2_with fail
          refine P.out.mono ?_
          rintro e w5 ⟨rfl, s', hnew, hc⟩
          replace hnew := Lib.hid hnew
          have hsz5 := hc.size
          have O5 := Lib.hid (HO.out.chg hc fun g e hq => by
            cases A2 with
            | none => simp [Value.ownBlock] at e
            | some ad => exact NB.out ad rfl (by simp [Value.ownBlock] at e; rw [e]; exact hq))
          clear P hc f0 f1 p1
          go_wp2_with (at_builtin; refine wpList_app rfl _ _ 30 rfl w2.heap.size 3 .i64 8 Try.underlying30 infoInt _ L.reverse rfl (O5.out.chg (Chg.alloc (fun _ => False) w5 (.cells #[.int .i64 (64 * (p : Int))] 3)) (fun _ _ => id)) (some ⟨w5.heap.size, 0, none⟩) 1 1 [64 * (p : Int)] rfl rfl (sl_lit w5 .i64 [64 * (p : Int)] 3 (0, 0)) (fun e => by cases e) ?h63 ?hby ?hba ?_; (case h63 => rw [List.length_reverse, HL.out]; unfold maxLen; omega); (case hby => rw [List.length_reverse, HL.out]; omega); (case hba => simp; omega); intro A' c' n' w6 hn' hown hchg; obtain rfl : n' = m + 1 := (by rw [List.length_reverse, HL.out] at hn'; exact hn'); have O6 : Hid (Mem.Own w6 w2.heap.size 3 .i64 (.slice A' (m + 1) c') (64 * (p : Int) :: L).reverse) := (by rw [List.reverse_cons]; exact hown); have H6 : Hid (QA wa.heap.size wa w6 a h s' (64 * (p : Int) :: L)) := (QA.beyond hnew.out BL.out ((Chg.alloc _ w5 _).trans hchg)); have hsz6 : w5.heap.size ≤ w6.heap.size := ((Chg.alloc (fun b => w2.heap.size ≤ b) w5 _).trans hchg).size; clear hn' hown hchg)
          go_roundg (60 - (k + 1))
          case measure => have := hg.out; omega
          case rel => exact ⟨k + 1, s', _, A', m + 1, c', rfl, rfl, by omega, by omega, rfl, by omega, by omega, by have := HL.out; show (_ :: L).length = _; rw [List.length_cons, this], H6.out, O6.out⟩
        · subst zl
          have ze' : (err == 0) = false := by rw [beq_eq_false_iff_ne]; exact ze
          go_wp2_with fail
          refine P.out.mono ?_
          rintro e w5 ⟨rfl, s', hnew, hc⟩
          replace hnew := Lib.hid hnew
          have hsz5 := hc.size
          have O5 := Lib.hid (HO.out.chg hc fun g e hq => by
            cases A2 with
            | none => simp [Value.ownBlock] at e
            | some ad => exact NB.out ad rfl (by simp [Value.ownBlock] at e; rw [e]; exact hq))
          clear P hc f0 f1 p1
          go_wp2_with fail
          go_roundg (60 - (k + 1))
          case measure => have := hg.out; omega
          case rel => exact ⟨k + 1, s', _, A2, m, c2, rfl, rfl, by omega, by omega, rfl, by omega, by omega, HL.out, hnew.out, O5.out⟩
    · have hend : ((n : Int) ≤ k) ∨ ((k : Int) < n ∧ ¬ (k : Int) < 60) := by omega
      have NOD := Lib.hid H1.out.nodup
      have S2 := Lib.hid HO.out.sl
      have CB : Hid (∀ W, Chg (fun b => wa.heap.size ≤ b) wa W → Below w.heap.size w W) := fun W hc => ((CA.out.mono fun _ _ h => h.elim).trans (hc.mono fun b _ hb => Nat.le_trans CA.out.size hb)).below (Nat.le_refl _) fun _ h => h
      have NB : Hid (∀ ad, A2 = some ad → ¬ Q2 a h ad.block) := fun ad e hq => by
        have := (HO.out.base ad e).1
        have := OFF.out _ hq
        omega
      have H1' : Hid (QA wa.heap.size wa wo a h s (L.take (m - 0))) := by
        rw [Nat.sub_zero, List.take_of_length_le (by rw [HL.out]; exact Nat.le_refl _)]; exact H1.out
      have hmi : m ≤ 60 := by omega
      clear hg H0 hlt H1 HO OFF BL hk hkn hmk hsz
      rcases hend with he | ⟨he, he2⟩ <;>
      (go_wp2_with fail
       go_loopg [12] m (fun g i wr => ∃ (j : Nat) (s : St), i = .int .i64 j ∧ g = m - j ∧ j ≤ m ∧ Hid (QA wa.heap.size wa wr a h s (L.take (m - j))) ∧ Hid (Sl wr .i64 A2 L.reverse))
       case atStart => exact ⟨0, s, rfl, rfl, by omega, H1'.out, S2.out⟩
       case round =>
         obtain ⟨j, s2, rfl, hg, hj, H3, HS⟩ := hrel
         obtain ⟨wo2, rfl⟩ : ∃ wo : World, wo = wr := ⟨_, rfl⟩
         replace hg := Lib.hid hg
         by_cases h3 : j < m
         · have h3' : (j : Int) < m := by omega
           obtain ⟨q, hq⟩ : ∃ q, m - j = q + 1 := ⟨m - j - 1, by omega⟩
           obtain ⟨ad2, rfl, c2⟩ := HS.out j (by rw [List.length_reverse, HL.out]; exact h3)
           rw [rev_at HL.out h3, hq, Nat.add_sub_cancel] at c2
           have LO := last_of NOD.out (q := q) (by rw [HL.out]; omega)
           rw [hq] at H3
           generalize L.getD q 0 = x at c2 LO
           have TC := Lib.hid (H3.out.tailE LO.1)
           have RC := Lib.hid (H3.out.removeE LO.2)
           replace hq := Lib.hid hq
           clear LO
           go_wp2_with fail
           refine TC.out.mono ?_
           rintro e w7 ⟨rfl, rfl⟩
           clear TC
           go_wp2_with fail
           refine RC.out.mono ?_
           rintro e w8 ⟨rfl, s3, hnew, hc⟩
           have H4 := Lib.hid hnew
           have HS2 := Lib.hid (HS.out.chg hc NB.out)
           clear hnew hc RC c2
           go_wp2_with fail
           go_roundg (m - (j + 1))
           case measure => have := hg.out; omega
           case rel => exact ⟨j + 1, s3, rfl, rfl, by omega, by rw [show m - (j + 1) = q from by have := hq.out; omega]; exact H4.out, HS2.out⟩
         · have h3' : ¬ (j : Int) < m := by omega
           have H4 : Hid (QA wa.heap.size wa wo2 a h s2 []) := by
             have := H3.out
             rw [show m - j = 0 from by omega, List.take_zero] at this
             exact this
           clear H3
           go_wp2_with fail
           refine (H4.out.tailE (t := 0) (is := false) rfl).mono ?_
           rintro e w7 ⟨rfl, rfl⟩
           go_wp2_with fail
           refine (H4.out.lenE (n := 0) rfl).mono ?_
           rintro e w7 ⟨rfl, rfl⟩
           go_wp2_with fail
           refine (H4.out.listE (n := 0) rfl (by decide)).mono ?_
           rintro e w8 ⟨A5, c5, rfl, -, hq5, -⟩
           have F := Lib.hid (CB.out w8 hq5.here.chg)
           clear hq5
           go_wp2_with fail
           go_ret
           exact ⟨rfl, F.out⟩)
end Go.Proofs.Ytfhffffdhlofgaa.Links

/- The walk of the law LinksThreads: it returns true at any acts. -/
namespace Go.Proofs.Ytfhffffdhlofgaa.Links
open Go Go.RowKit Go.Proofs.Ytfhffffdhlofgaa.Mem Go.Proofs.Ytfhffffdhlofgaa.CodecPure Go.Proofs.Ytfhffffdhlofgaa.ArenaPure Go.Proofs.Ytfhffffdhlofgaa.Codec Go.Proofs.Ytfhffffdhlofgaa.Arena Go.Proofs.Ytfhffffdhlofgaa.Item
set_option linter.unusedVariables false
set_option maxRecDepth 100000
variable {B : Nat} {w0 w w' : World} {a : Ar} {h : Qh} {s : St} {L : List Int}
theorem place_off {s : St} (ho : s.own = [1, 1, 1, -1]) {x : Int} (hx : x % 64 = 0) (hw : ¬ within s x 40) (d : Int) (hd : 0 ≤ d ∧ d ≤ 32) : place s (x + d) = (0, 1) := by
  unfold place
  rw [if_neg]
  intro h
  refine hw ((within_chunk ho hx).2 ?_)
  unfold within at h
  rw [ho] at h
  obtain ⟨h1, h2, h3, h4, h5⟩ := h
  have e : (x + d) / 1024 = x / 1024 := by omega
  rw [e] at h4
  simp at h3
  refine ⟨by omega, ?_⟩
  by_cases q : x / 1024 = 3
  · rw [q] at h4; simp at h4
  · omega
theorem get_off {s : St} (ho : s.own = [1, 1, 1, -1]) {x : Int} (hx : x % 64 = 0) (hw : ¬ within s x 40) {f : Int} (hf : f = 1 ∨ f = 2) : itemGet s x f = (0, 1) := by
  unfold itemGet
  rw [if_neg (by omega)]
  by_cases hr : x < 0 ∨ 1024 * (s.own.length : Int) < x
  · rw [if_pos hr]
  · rw [if_neg hr, if_pos (by omega)]
    rcases hf with rfl | rfl
    · exact place_off ho hx hw 4 (by decide)
    · exact place_off ho hx hw 8 (by decide)
theorem QA.clean_get (k : QA B w0 w a h s L) {x : Int} (hx : x % 64 = 0) (hm : x ∉ L) : (itemGet s x 1).1 ≤ 0 ∧ (itemGet s x 2).1 ≤ 0 := by
  by_cases hw : within s x 40
  · rw [itemGet1 hw, itemGet2 hw]
    exact k.clean x hx hw hm
  · rw [get_off k.own hx hw (.inl rfl), get_off k.own hx hw (.inr rfl)]
    exact ⟨by decide, by decide⟩
theorem QA.hasE (k : QA B w0 w a h s L) (x : Int) {b : Bool} (hb : decide (x ∈ L) = b) : Calls Try.prog 23 #[(.pointer (some ⟨h.q, 0, none⟩)), (.int .i64 x)] w fun e w' => e = .returned (.bool b) ∧ w = w' := by
  have := has_calls k.q x
  rw [hb] at this
  exact this
theorem QA.getE (k : QA B w0 w a h s L) {x f y e0 : Int} (hi : I64 x) (hy : itemGet s x f = (y, e0)) : Calls Try.prog 22 #[(.pointer (some ⟨a.g, 0, none⟩)), (.int .i64 x), (.int .i64 f)] w fun e w' => e = .returned (.tuple #[.int .i64 y, .int .i64 e0]) ∧ QA B w0 w' a h s L ∧ Chg (fun _ => False) w w' :=
  (get_calls k.q.lies x f hi).mono fun e w1 ⟨h1, h2⟩ => by
    rw [hy] at h1
    exact ⟨h1, k.fresh h2, h2⟩
theorem fields_at (k : QA B w0 w a h s L) {i m : Nat} (hm : L.length = m) (hi : i < m) :
    itemGet s (L.getD i 0) 1 = (if 0 < i then L.getD (i - 1) 0 else -1, 0) ∧ itemGet s (L.getD i 0) 2 = (if i + 1 < m then L.getD (i + 1) 0 else -1, 0) ∧ I64 (L.getD i 0) ∧ decide (L.getD i 0 ∈ L) = true := by
  have hi' : i < L.length := by omega
  have hmem := mem_at hi'
  have e : L = L.take i ++ L.getD i 0 :: L.drop (i + 1) := by
    have := (List.take_append_drop i L).symm
    rw [List.drop_eq_getElem_cons hi'] at this
    rw [List.getD_eq_getElem?_getD, List.getElem?_eq_getElem hi']
    exact this
  have fl := (by have := k.q.li; rw [e] at this; exact this : LI s (L.take i ++ L.getD i 0 :: L.drop (i + 1))).fields
  have hw := k.q.li.hdr _ hmem
  rw [itemGet1 hw, itemGet2 hw, fl.1, fl.2]
  refine ⟨?_, ?_, pl_i64 (k.q.li.pl hmem).1, decide_eq_true hmem⟩
  · congr 1
    rw [List.getLastD_eq_getLast?, List.getLast?_eq_getElem?, List.length_take, List.getElem?_take, List.getD_eq_getElem?_getD]
    by_cases h0 : 0 < i
    · rw [if_pos h0, if_pos (by omega), show min i L.length - 1 = i - 1 from by omega, List.getElem?_eq_getElem (by omega)]; rfl
    · rw [if_neg h0, if_neg (by omega)]; rfl
  · congr 1
    rw [List.headD_eq_head?_getD, List.head?_drop, List.getD_eq_getElem?_getD]
    by_cases h0 : i + 1 < m
    · rw [if_pos h0, List.getElem?_eq_getElem (by omega)]; rfl
    · rw [if_neg h0, List.getElem?_eq_none (by omega)]; rfl
theorem remL_not {L : List Int} (hn : L.Nodup) (x : Int) : x ∉ (remL L x).1 := by
  unfold remL
  split
  · exact fun h => (hn.mem_erase_iff.1 h).1 rfl
  · assumption
set_option maxHeartbeats 400000 in
theorem threads_walk (A : Option Addr) (c : Nat) (l : List (List Int)) (w : World) (hl : SRow w [.i64, .i64, .i64] A c l) :
    Calls Try.prog 5 #[.slice A l.length c] w fun e w' => e = .returned (.bool true) ∧ Below w.heap.size w w' := by
  have hlm : l.length ≤ 9223372036854775807 := Nat.le_trans hl.cap hl.most
  replace hl := Lib.hid hl
  obtain ⟨n, hn⟩ : ∃ n, l.length = n := ⟨_, rfl⟩
  rw [hn] at hlm ⊢
  replace hn := Lib.hid hn
  go_enter Try.func5, Try.ntmps5
  go_wp2_with fail
  refine (works_calls w).mono ?_
  rintro e wa ⟨rfl, hc⟩
  have CA := Lib.hid hc
  clear hc
  go_wp2_with fail
  refine (made_calls 2 wa 2 (by decide) small2.1 small2.2).mono ?_
  rintro e w1 ⟨a, r, rfl, T⟩
  replace T := Lib.hid T
  go_wp2_with fail
  refine (QA.start T.out).mono ?_
  rintro e w2 ⟨h, rfl, H0, -, -, -⟩
  replace H0 := Lib.hid H0
  clear T
  go_wp2_with fail
  go_loopg [7] 60 (fun g i wr => ∃ (k : Nat) (s : St) (L : List Int), i = .int .i64 k ∧ g = 60 - k ∧ k ≤ 60 ∧ k ≤ n ∧ L.length ≤ k ∧ Hid (QA wa.heap.size wa wr a h s L))
  case atStart => exact ⟨0, _, [], rfl, rfl, by omega, by omega, by simp, H0.out⟩
  case round =>
    obtain ⟨k, s, L, rfl, hg, hk, hkn, hL, H1⟩ := hrel
    obtain ⟨wo, rfl⟩ : ∃ wo : World, wo = wr := ⟨_, rfl⟩
    replace hg := Lib.hid hg
    replace hL := Lib.hid hL
    by_cases hlt : k < n ∧ k < 60
    · obtain ⟨h1, h2⟩ := hlt
      have h1' : (k : Int) < n := by omega
      have h2' : (k : Int) < 60 := by omega
      have CC : Chg (fun b => w.heap.size ≤ b) w wo := (CA.out.mono fun _ _ h => h.elim).trans (H1.out.here.chg.mono fun b _ hb => Nat.le_trans CA.out.size hb)
      have SR := hl.out.chg CC (Nat.le_refl _)
      obtain ⟨ad, rfl, d0, d1⟩ := SR.fields k (by rw [hn.out]; exact h1) (by decide)
      have f0 := d0 .i64 rfl
      have f1 := d1 0 .i64 rfl
      simp only [List.length_cons, List.length_nil, Nat.reduceAdd, Nat.zero_add] at f0 f1
      clear d0 d1 SR CC
      generalize (l.getD k []).getD 0 0 = kind at f0
      generalize (l.getD k []).getD 1 0 = x at f1
      obtain ⟨p, hp, p1, p2⟩ := small x 40 (by decide)
      replace p1 : (IntKind.u64.wrap x).tmod 40 = p := p1
      clear p2
      have ck := Lib.hid (chunk_ok hp)
      clear H0 CA hl
      have x64 : (64 * (p : Int)) % 64 = 0 := by omega
      replace x64 := Lib.hid x64
      by_cases e0 : kind = 0
      · have t0 : (kind == 0) = true := by rw [e0]; rfl
        clear e0
        have P := Lib.hid (H1.out.pushE (x := 64 * (p : Int)) (L' := (pushL L (64 * (p : Int))).1) (err := (pushL L (64 * (p : Int))).2) rfl ck.out.1 ck.out.2)
        have z := pushL_len L (64 * (p : Int))
        generalize (pushL L (64 * (p : Int))).1 = L' at P z
        replace z := Lib.hid z
        generalize (pushL L (64 * (p : Int))).2 = err at P
        go_wp2_with fail
        refine P.out.mono ?_
        rintro e w5 ⟨rfl, s', hnew, -⟩
        replace hnew := Lib.hid hnew
        clear P
        go_wp2_with fail
        go_roundg (60 - (k + 1))
        case measure => have := hg.out; omega
        case rel => exact ⟨k + 1, s', L', rfl, rfl, by omega, by omega, by have := hL.out; have := z.out; omega, hnew.out⟩
      · have t0 : (kind == 0) = false := by rw [beq_eq_false_iff_ne]; exact e0
        clear e0
        by_cases e1 : kind = 1
        · have t1 : (kind == 1) = true := by rw [e1]; rfl
          clear e1
          have P := Lib.hid (H1.out.removeE (x := 64 * (p : Int)) (L' := (remL L (64 * (p : Int))).1) (err := (remL L (64 * (p : Int))).2) rfl)
          have z := remL_len L (64 * (p : Int))
          have NI := Lib.hid (remL_not H1.out.nodup (64 * (p : Int)))
          generalize (remL L (64 * (p : Int))).1 = L' at P z NI
          replace z := Lib.hid z
          generalize (remL L (64 * (p : Int))).2 = err at P
          go_wp2_with fail
          refine P.out.mono ?_
          rintro e w5 ⟨rfl, s', hnew, -⟩
          obtain ⟨f1', e1', hy1⟩ : ∃ f e, itemGet s' (64 * (p : Int)) 1 = (f, e) := ⟨_, _, rfl⟩
          obtain ⟨f2', e2', hy2⟩ : ∃ f e, itemGet s' (64 * (p : Int)) 2 = (f, e) := ⟨_, _, rfl⟩
          have CG := hnew.clean_get x64.out NI.out
          rw [hy1, hy2] at CG
          obtain ⟨g1, g2⟩ := CG
          replace g1 : f1' ≤ 0 := g1
          replace g2 : f2' ≤ 0 := g2
          have G2 := Lib.hid (hnew.getE ck.out.2 hy2)
          have G1 := Lib.hid (fun W (hq : QA wa.heap.size wa W a h s' L') => hq.getE ck.out.2 hy1)
          have HH := Lib.hid (fun W (hq : QA wa.heap.size wa W a h s' L') => hq.hasE (64 * (p : Int)) (decide_eq_false NI.out))
          clear P hy1 hy2 hnew
          go_wp2_with fail
          refine G2.out.mono ?_
          rintro e w6 ⟨rfl, hnew, -⟩
          replace hnew := Lib.hid hnew
          clear G2
          go_wp2_with fail
          refine (G1.out w6 hnew.out).mono ?_
          rintro e w7 ⟨rfl, hnew7, -⟩
          replace hnew7 := Lib.hid hnew7
          clear G1
          go_wp2_with fail
          refine (HH.out w7 hnew7.out).mono ?_
          rintro e w8 ⟨rfl, rfl⟩
          clear HH
          go_wp2_with fail
          all_goals
            go_roundg (60 - (k + 1))
            case measure => have := hg.out; omega
            case rel => exact ⟨k + 1, s', L', rfl, rfl, by omega, by omega, by have := hL.out; have := z.out; omega, hnew7.out⟩
        · have t1 : (kind == 1) = false := by rw [beq_eq_false_iff_ne]; exact e1
          clear e1
          go_wp2_with fail
          go_roundg (60 - (k + 1))
          case measure => have := hg.out; omega
          case rel => exact ⟨k + 1, s, L, rfl, rfl, by omega, by omega, by have := hL.out; omega, H1.out⟩
    · have hend : ((n : Int) ≤ k) ∨ ((k : Int) < n ∧ ¬ (k : Int) < 60) := by omega
      clear hg H0 hlt
      obtain ⟨m, hm⟩ : ∃ m, L.length = m := ⟨_, rfl⟩
      have hm60 : m ≤ 60 := by have := hL.out; omega
      clear hL hk hkn
      have LC := Lib.hid (H1.out.listE hm (by omega))
      replace hm := Lib.hid hm
      have CB : Hid (∀ W, Chg (fun b => wa.heap.size ≤ b) wa W → Below w.heap.size w W) := fun W hc => ((CA.out.mono fun _ _ h => h.elim).trans (hc.mono fun b _ hb => Nat.le_trans CA.out.size hb)).below (Nat.le_refl _) fun _ h => h
      rcases hend with he | ⟨he, he2⟩ <;>
      (go_wp2_with fail
       refine LC.out.mono ?_
       rintro e w5 ⟨A2, c2, rfl, O5, H2, -⟩
       have H2' := Lib.hid H2
       have S5 := Lib.hid O5.sl
       clear H2 O5 LC
       go_wp2_with fail
       refine (H2'.out.lenE hm.out).mono ?_
       rintro e w6 ⟨rfl, rfl⟩
       go_wp2_with fail
       go_loopg [14] m (fun g i wr => ∃ j : Nat, i = .int .i64 j ∧ g = m - j ∧ j ≤ m ∧ Hid (QA wa.heap.size wa wr a h s L) ∧ Hid (Sl wr .i64 A2 L))
       case atStart => exact ⟨0, rfl, rfl, by omega, H2'.out, S5.out⟩
       case round =>
         obtain ⟨j, rfl, hg, hj, H3, HS⟩ := hrel
         obtain ⟨wo2, rfl⟩ : ∃ wo : World, wo = wr := ⟨_, rfl⟩
         replace hg := Lib.hid hg
         by_cases h3 : j < m
         · have h3' : (j : Int) < m := by omega
           obtain ⟨g1, g2, g3, g4⟩ := fields_at H3.out hm.out h3
           obtain ⟨ad2, rfl, c0⟩ := HS.out j (by rw [hm.out]; exact h3)
           obtain ⟨r2, hr⟩ : ∃ r : Nat, j + 1 = r := ⟨_, rfl⟩
           have hr' : (j : Int) + 1 = r2 := by omega
           by_cases q1 : 0 < j
           · have q1' : (0 : Int) < j := by omega
             obtain ⟨q, hq⟩ : ∃ q : Nat, j - 1 = q := ⟨_, rfl⟩
             have hq' : (j : Int) - 1 = q := by omega
             obtain ⟨ad3, e3, cp⟩ := HS.out q (by rw [hm.out]; omega)
             cases e3
             rw [if_pos q1, hq] at g1
             generalize L.getD q 0 = pv at cp g1
             by_cases q2 : r2 < m
             · have q2' : (r2 : Int) < m := by omega
               obtain ⟨ad3, e3, cn⟩ := HS.out r2 (by rw [hm.out]; omega)
               cases e3
               rw [hr, if_pos q2] at g2
               generalize L.getD r2 0 = nx at cn g2
               (have G1 := Lib.hid (H3.out.getE (f := 1) g3 g1)
                have G2 := Lib.hid (fun W (hq : QA wa.heap.size wa W a h s L) => hq.getE (f := 2) g3 g2)
                have HH := Lib.hid (fun W (hq : QA wa.heap.size wa W a h s L) => hq.hasE (L.getD j 0) g4)
                have g3' := Lib.hid g3
                clear g1 g2 g3 g4
                generalize L.getD j 0 = y at c0 G1 G2 HH g3'
                go_wp2_with fail
                refine G1.out.mono ?_
                rintro e w7 ⟨rfl, h7, hc7⟩
                have H7 := Lib.hid h7
                have HS7 := Lib.hid (HS.out.chg hc7 fun _ _ => id)
                have c7 := hc7.cell c0 id
                clear h7 hc7 G1 c0
                go_wp2_with fail
                refine (G2.out w7 H7.out).mono ?_
                rintro e w8 ⟨rfl, h8, hc8⟩
                have H8 := Lib.hid h8
                have HS8 := Lib.hid (HS7.out.chg hc8 fun _ _ => id)
                have c8 := hc8.cell c7 id
                clear h8 hc8 G2 c7
                go_wp2_with fail
                refine (HH.out w8 H8.out).mono ?_
                rintro e w9 ⟨rfl, rfl⟩
                clear HH
                go_wp2_with fail
                go_roundg (m - (j + 1))
                case measure => have := hg.out; omega
                case rel => exact ⟨j + 1, by go_num, rfl, by omega, H8.out, HS8.out⟩)
             · have q2' : ¬ (r2 : Int) < m := by omega
               rw [hr, if_neg q2] at g2
               (have G1 := Lib.hid (H3.out.getE (f := 1) g3 g1)
                have G2 := Lib.hid (fun W (hq : QA wa.heap.size wa W a h s L) => hq.getE (f := 2) g3 g2)
                have HH := Lib.hid (fun W (hq : QA wa.heap.size wa W a h s L) => hq.hasE (L.getD j 0) g4)
                have g3' := Lib.hid g3
                clear g1 g2 g3 g4
                generalize L.getD j 0 = y at c0 G1 G2 HH g3'
                go_wp2_with fail
                refine G1.out.mono ?_
                rintro e w7 ⟨rfl, h7, hc7⟩
                have H7 := Lib.hid h7
                have HS7 := Lib.hid (HS.out.chg hc7 fun _ _ => id)
                have c7 := hc7.cell c0 id
                clear h7 hc7 G1 c0
                go_wp2_with fail
                refine (G2.out w7 H7.out).mono ?_
                rintro e w8 ⟨rfl, h8, hc8⟩
                have H8 := Lib.hid h8
                have HS8 := Lib.hid (HS7.out.chg hc8 fun _ _ => id)
                have c8 := hc8.cell c7 id
                clear h8 hc8 G2 c7
                go_wp2_with fail
                refine (HH.out w8 H8.out).mono ?_
                rintro e w9 ⟨rfl, rfl⟩
                clear HH
                go_wp2_with fail
                go_roundg (m - (j + 1))
                case measure => have := hg.out; omega
                case rel => exact ⟨j + 1, by go_num, rfl, by omega, H8.out, HS8.out⟩)
           · have q1' : ¬ (0 : Int) < j := by omega
             rw [if_neg q1] at g1
             by_cases q2 : r2 < m
             · have q2' : (r2 : Int) < m := by omega
               obtain ⟨ad3, e3, cn⟩ := HS.out r2 (by rw [hm.out]; omega)
               cases e3
               rw [hr, if_pos q2] at g2
               generalize L.getD r2 0 = nx at cn g2
               (have G1 := Lib.hid (H3.out.getE (f := 1) g3 g1)
                have G2 := Lib.hid (fun W (hq : QA wa.heap.size wa W a h s L) => hq.getE (f := 2) g3 g2)
                have HH := Lib.hid (fun W (hq : QA wa.heap.size wa W a h s L) => hq.hasE (L.getD j 0) g4)
                have g3' := Lib.hid g3
                clear g1 g2 g3 g4
                generalize L.getD j 0 = y at c0 G1 G2 HH g3'
                go_wp2_with fail
                refine G1.out.mono ?_
                rintro e w7 ⟨rfl, h7, hc7⟩
                have H7 := Lib.hid h7
                have HS7 := Lib.hid (HS.out.chg hc7 fun _ _ => id)
                have c7 := hc7.cell c0 id
                clear h7 hc7 G1 c0
                go_wp2_with fail
                refine (G2.out w7 H7.out).mono ?_
                rintro e w8 ⟨rfl, h8, hc8⟩
                have H8 := Lib.hid h8
                have HS8 := Lib.hid (HS7.out.chg hc8 fun _ _ => id)
                have c8 := hc8.cell c7 id
                clear h8 hc8 G2 c7
                go_wp2_with fail
                refine (HH.out w8 H8.out).mono ?_
                rintro e w9 ⟨rfl, rfl⟩
                clear HH
                go_wp2_with fail
                go_roundg (m - (j + 1))
                case measure => have := hg.out; omega
                case rel => exact ⟨j + 1, by go_num, rfl, by omega, H8.out, HS8.out⟩)
             · have q2' : ¬ (r2 : Int) < m := by omega
               rw [hr, if_neg q2] at g2
               (have G1 := Lib.hid (H3.out.getE (f := 1) g3 g1)
                have G2 := Lib.hid (fun W (hq : QA wa.heap.size wa W a h s L) => hq.getE (f := 2) g3 g2)
                have HH := Lib.hid (fun W (hq : QA wa.heap.size wa W a h s L) => hq.hasE (L.getD j 0) g4)
                have g3' := Lib.hid g3
                clear g1 g2 g3 g4
                generalize L.getD j 0 = y at c0 G1 G2 HH g3'
                go_wp2_with fail
                refine G1.out.mono ?_
                rintro e w7 ⟨rfl, h7, hc7⟩
                have H7 := Lib.hid h7
                have HS7 := Lib.hid (HS.out.chg hc7 fun _ _ => id)
                have c7 := hc7.cell c0 id
                clear h7 hc7 G1 c0
                go_wp2_with fail
                refine (G2.out w7 H7.out).mono ?_
                rintro e w8 ⟨rfl, h8, hc8⟩
                have H8 := Lib.hid h8
                have HS8 := Lib.hid (HS7.out.chg hc8 fun _ _ => id)
                have c8 := hc8.cell c7 id
                clear h8 hc8 G2 c7
                go_wp2_with fail
                refine (HH.out w8 H8.out).mono ?_
                rintro e w9 ⟨rfl, rfl⟩
                clear HH
                go_wp2_with fail
                go_roundg (m - (j + 1))
                case measure => have := hg.out; omega
                case rel => exact ⟨j + 1, by go_num, rfl, by omega, H8.out, HS8.out⟩)
         · have h3' : ¬ (j : Int) < m := by omega
           have F := Lib.hid (CB.out wo2 H3.out.here.chg)
           go_wp2_with fail
           go_ret
           exact ⟨rfl, F.out⟩)
end Go.Proofs.Ytfhffffdhlofgaa.Links

/- Pieces of a row of the call's own: s[:n] and s[n:]. No program in sight. -/
namespace Go.Proofs.Ytfhffffdhlofgaa.Mem
open Go Go.RowKit
set_option linter.unusedVariables false
theorem Sl.part {w : World} {k : IntKind} {A : Option Addr} {l : List Int} (h : Sl w k A l) (i n : Nat) (hn : i + n ≤ l.length) : Sl w k (A.map (·.add i)) ((l.drop i).take n) := by
  intro j hj
  have hj' : j < n := by rw [List.length_take, List.length_drop] at hj; omega
  obtain ⟨ad, rfl, hc⟩ := h (i + j) (by omega)
  refine ⟨ad.add i, rfl, ?_⟩
  rw [add_add, hc]
  congr 2
  rw [List.getD_eq_getElem?_getD, List.getD_eq_getElem?_getD, List.getElem?_take, if_pos hj', List.getElem?_drop]
theorem Own.nilc {w : World} {base : Nat} {e : TypeId} {k : IntKind} {A : Option Addr} {m c : Nat} {l : List Int} (h : Own w base e k (.slice A m c) l) : A = none → c = 0 := by
  rcases h.2 with ⟨e1, h0⟩ | ⟨g, cap, cur, e1, _, _, h1, _⟩
  · injection e1 with e2 e3 e4
    exact fun _ => e4
  · injection e1 with e2 e3 e4
    subst e2
    exact fun q => by cases q
/-- s[:n] -/
theorem slice_to {P : Program} {t : TypeId} (ht : P.underlying t = some (.slice (P.elem t))) (hz : ∀ W, (Go.sizeOf (P.elem t)).run P W = .ok 1 W) {w : World} {base : Nat} {e : TypeId} {k : IntKind} {A : Option Addr} {m c : Nat} {l : List Int}
    (h : Own w base e k (.slice A m c) l) (n : Nat) (hn : n ≤ l.length) : ∃ A' c', (∀ W, (Instr.sliceAt t (.slice A m c) none (some (.int .i64 n)) none).run P W = .ok (.slice A' n c') W) ∧ Sl w k A' (l.take n) ∧ (A' = none → c' = 0) := by
  have hs := h.sl
  have hcap : l.length ≤ c ∧ (A = none → c = 0) := by
    rcases h.2 with ⟨e1, h0⟩ | ⟨g, cap, cur, e1, _, _, h1, _⟩
    · injection e1 with e2 e3 e4
      subst e4
      exact ⟨by omega, fun _ => rfl⟩
    · injection e1 with e2 e3 e4
      subst e2 e4
      exact ⟨h1, fun q => by cases q⟩
  refine ⟨if c = 0 then A else A.map (·.add 0), c, fun W => ?_, ?_, fun q => ?_⟩
  · rw [run_sliceAt_slice W t _ _ _ _ ht, run_slice_h W t A m c ht .i64 n (by omega) (by omega), hz]
    show Result.ok (sliced A 0 ((n : Int)).toNat c 1) W = _
    have e1 : ((n : Int)).toNat = n := by omega
    rw [e1]
    unfold sliced
    simp
  · split
    · have : l.take n = [] := by
        have : n = 0 := by omega
        rw [this]; rfl
      rw [this]
      exact Sl.nil _ _ _
    · have := hs.part 0 n (by omega)
      rw [List.drop_zero] at this
      exact this
  · split at q
    · assumption
    · cases A with
      | none => exact hcap.2 rfl
      | some ad => cases q
/-- s[n:] -/
theorem slice_from {P : Program} {t : TypeId} (ht : P.underlying t = some (.slice (P.elem t))) (hz : ∀ W, (Go.sizeOf (P.elem t)).run P W = .ok 1 W) {w : World} {base : Nat} {e : TypeId} {k : IntKind} {A : Option Addr} {m c : Nat} {l : List Int}
    (h : Own w base e k (.slice A m c) l) (n q : Nat) (hq : n + q = l.length) : ∃ A' c', (∀ W, (Instr.sliceAt t (.slice A m c) (some (.int .i64 n)) none none).run P W = .ok (.slice A' q c') W) ∧ Sl w k A' (l.drop n) ∧ (A' = none → c' = 0) := by
  have hs := h.sl
  have hcap : m = l.length ∧ l.length ≤ c ∧ (A = none → c = 0) := by
    rcases h.2 with ⟨e1, h0⟩ | ⟨g, cap, cur, e1, _, _, h1, _⟩
    · injection e1 with e2 e3 e4
      subst e3 e4
      exact ⟨by omega, by omega, fun _ => rfl⟩
    · injection e1 with e2 e3 e4
      subst e2 e4
      exact ⟨e3, h1, fun q => by cases q⟩
  refine ⟨if c = n then A else A.map (·.add n), c - n, fun W => ?_, ?_, fun q => ?_⟩
  · rw [run_sliceAt_slice W t _ _ _ _ ht, run_slice_l W t A m c ht .i64 n (by omega) (by omega), hz]
    show Result.ok (sliced A ((n : Int)).toNat m c 1) W = _
    have e1 : ((n : Int)).toNat = n := by omega
    rw [e1]
    unfold sliced
    rw [Nat.mul_one, show m - n = q from by omega]
  · split
    · have : l.drop n = [] := List.drop_eq_nil_of_le (by omega)
      rw [this]
      exact Sl.nil _ _ _
    · have := hs.part n q (by omega)
      rw [List.take_of_length_le (by rw [List.length_drop]; omega)] at this
      exact this
  · split at q
    · omega
    · cases A with
      | none => have := hcap.2.2 rfl; omega
      | some ad => cases q
end Go.Proofs.Ytfhffffdhlofgaa.Mem

/- The walk of the law LinksInserts: it returns true at any number and any places. -/
namespace Go.Proofs.Ytfhffffdhlofgaa.Links
open Go Go.RowKit Go.Proofs.Ytfhffffdhlofgaa.Mem Go.Proofs.Ytfhffffdhlofgaa.CodecPure Go.Proofs.Ytfhffffdhlofgaa.ArenaPure Go.Proofs.Ytfhffffdhlofgaa.Codec Go.Proofs.Ytfhffffdhlofgaa.Arena Go.Proofs.Ytfhffffdhlofgaa.Item
set_option linter.unusedVariables false
set_option maxRecDepth 100000
variable {B : Nat} {w0 w w' : World} {a : Ar} {h : Qh} {s : St} {L : List Int}
/-- the queue's items are the chunks below i -/
structure Full (L : List Int) (i : Nat) : Prop where
  len : L.length = i
  below : ∀ y ∈ L, y < 64 * (i : Int)
theorem Full.push {L : List Int} {i : Nat} (h : Full L i) (hi : i < 48) : pushL L (64 * (i : Int)) = (64 * (i : Int) :: L, 0) ∧ Full (64 * (i : Int) :: L) (i + 1) := by
  have hm : 64 * (i : Int) ∉ L := fun q => by have := h.below _ q; omega
  refine ⟨?_, by rw [List.length_cons, h.len], fun y hy => ?_⟩
  · unfold pushL
    rw [if_pos (by omega), if_neg hm]
  · rcases List.mem_cons.1 hy with rfl | hy
    · omega
    · have := h.below _ hy; omega
theorem idx_eq {L A C : List Int} {x : Int} (h : L = A ++ x :: C) (hx : x ∉ A) : L.idxOf x = A.length := by
  subst h; exact idx_mid hx
theorem ins_at {L : List Int} (hn : L.Nodup) {k : Nat} (hk : k < L.length) (x : Int) : ins (L.getD k 0) x L = L.take (k + 1) ++ [x] ++ L.drop (k + 1) := by
  have e : L = L.take k ++ L.getD k 0 :: L.drop (k + 1) := by
    have := (List.take_append_drop k L).symm
    rw [List.drop_eq_getElem_cons hk] at this
    rw [List.getD_eq_getElem?_getD, List.getElem?_eq_getElem hk]
    exact this
  have e2 : L.take (k + 1) = L.take k ++ [L.getD k 0] := by
    rw [List.getD_eq_getElem?_getD, List.getElem?_eq_getElem hk]
    exact List.take_succ_eq_append_getElem hk
  obtain ⟨A, C, h1, h2, h3, -⟩ := split_at (L.getD k 0) L (mem_at hk)
  have eA : A = L.take k ∧ C = L.drop (k + 1) := by
    have hx : L.getD k 0 ∉ L.take k := fun hm => by
      have hnd := hn
      rw [e] at hnd
      exact (List.nodup_append.1 hnd).2.2 _ hm _ (by simp) rfl
    have l1 := idx_eq h1 h2
    have l2 := idx_eq e hx
    have := List.append_inj (h1.symm.trans e) (by omega)
    exact ⟨this.1, by injection this.2⟩
  rw [h3, e2, eA.1, eA.2]
  simp
theorem own_off {W : World} {base : Nat} {e : TypeId} {A : Option Addr} {n c : Nat} {l : List Int} (ho : Mem.Own W base e .i64 (.slice A n c) l) (hoff : ∀ x, Q2 a h x → x < base) : ∀ g, (Value.slice A n c).ownBlock = some g → ¬ Q2 a h g := fun g eg hq => by
  cases A with
  | none => simp [Value.ownBlock] at eg
  | some ad =>
    simp [Value.ownBlock] at eg
    have := (ho.base ad rfl).1
    have := hoff _ hq
    omega
theorem _root_.Go.Proofs.Ytfhffffdhlofgaa.Mem.Sl.take {w : World} {k : IntKind} {A : Option Addr} {l : List Int} (h : Sl w k A l) (n : Nat) : Sl w k A (l.take n) := fun j hj => by
  have hj' : j < n ∧ j < l.length := by rw [List.length_take] at hj; omega
  obtain ⟨ad, e, hc⟩ := h j hj'.2
  refine ⟨ad, e, ?_⟩
  rw [hc]
  congr 2
  rw [List.getD_eq_getElem?_getD, List.getD_eq_getElem?_getD, List.getElem?_take, if_pos hj'.1]
theorem own_cap {w : World} {base n c : Nat} {e : TypeId} {k : IntKind} {A : Option Addr} {l : List Int} (h : Mem.Own w base e k (.slice A n c) l) : n ≤ c ∧ c ≤ maxLen := by
  rcases h.2 with ⟨e1, h0⟩ | ⟨g, cap, cur, e1, _, _, h1, h2, _⟩
  · injection e1 with e2 e3 e4
    subst e3 e4
    exact ⟨Nat.le_refl _, Nat.zero_le _⟩
  · injection e1 with e2 e3 e4
    subst e3 e4
    exact ⟨h1, h2⟩
theorem elem_int (W : World) : (Go.sizeOf (Try.prog.elem 30)).run Try.prog W = .ok 1 W := by kernel_rfl
set_option maxHeartbeats 400000 in
theorem inserts_walk (n0 : Int) (A : Option Addr) (c : Nat) (l : List Int) (w : World) (wf0 : (Lit.int .i64 n0).wf = true) (hl : RowOf w .i64 A c l 8) :
    Calls Try.prog 4 #[(.int .i64 n0), .slice A l.length c] w fun e w' => e = .returned (.bool true) ∧ Below w.heap.size w w' := by
  have hlm : l.length ≤ 9223372036854775807 := Nat.le_trans hl.cap hl.most
  replace hl := Lib.hid hl
  clear wf0
  obtain ⟨ln, hn⟩ : ∃ n, l.length = n := ⟨_, rfl⟩
  rw [hn] at hlm ⊢
  replace hn := Lib.hid hn
  obtain ⟨p, hp, p1, p2⟩ := small n0 10 (by decide)
  replace p1 : (IntKind.u64.wrap n0).tmod 10 = p := p1
  clear p2
  obtain ⟨n, hnp⟩ : ∃ n, 1 + p = n := ⟨_, rfl⟩
  have hnp' : (1 : Int) + p = n := by omega
  have hn10 : n ≤ 10 := by omega
  have hn1 : 1 ≤ n := by omega
  go_enter Try.func4, Try.ntmps4
  go_wp2_with fail
  refine (works_calls w).mono ?_
  rintro e wa ⟨rfl, hc⟩
  have CA := Lib.hid hc
  clear hc
  go_wp2_with fail
  refine (made_calls 2 wa 2 (by decide) small2.1 small2.2).mono ?_
  rintro e w1 ⟨a, r, rfl, T⟩
  replace T := Lib.hid T
  go_wp2_with fail
  refine (QA.start T.out).mono ?_
  rintro e w2 ⟨h, rfl, H0, -, -, -⟩
  have OFF : Hid (∀ x, Q2 a h x → x < w2.heap.size) := H0.q2_lt
  have BL := Lib.hid H0.blocks
  replace H0 := Lib.hid H0
  clear T
  go_wp2_with fail
  clear p1 hnp' hnp hp
  go_loopg [9, 10] n (fun g v i wr => ∃ (k : Nat) (s : St) (L : List Int) (A2 : Option Addr) (c2 : Nat), i = .int .i64 k ∧ g = n - k ∧ k ≤ n ∧ v = .slice A2 k c2 ∧ w2.heap.size ≤ wr.heap.size ∧ Hid (Full L k) ∧ Hid (QA wa.heap.size wa wr a h s L) ∧ Hid (Mem.Own wr w2.heap.size 3 .i64 (.slice A2 k c2) L))
  case atStart => exact ⟨0, _, [], _, _, rfl, rfl, by omega, rfl, Nat.le_refl _, ⟨rfl, fun y hy => by simp at hy⟩, H0.out, Mem.Own.nil _ _ _ _⟩
  case round =>
    obtain ⟨k, s, L, A2, c2, rfl, hg, hk, rfl, hsz, HF, H1, HO⟩ := hrel
    obtain ⟨wo, rfl⟩ : ∃ wo : World, wo = wr := ⟨_, rfl⟩
    replace hg := Lib.hid hg
    by_cases h1 : k < n
    · have h1' : (k : Int) < n := by omega
      have FP := HF.out.push (by omega)
      have ck : Chunk (64 * (k : Int)) ∧ I64 (64 * (k : Int)) := chunk_ok (by omega)
      have P := Lib.hid (H1.out.pushE FP.1 ck.1 ck.2)
      have HF2 := Lib.hid FP.2
      clear FP ck
      go_wp2_with fail
      refine P.out.mono ?_
      rintro e w5 ⟨rfl, s', hnew, hc⟩
      replace hnew := Lib.hid hnew
      have hsz5 := hc.size
      have O5 := Lib.hid (HO.out.chg hc (own_off HO.out OFF.out))
      clear P hc
      go_wp2_with (at_builtin; go_loud (refine wpList_app rfl _ _ 30 rfl w5.heap.size 3 .i64 8 Try.underlying30 infoInt _ [64 * (k : Int)] rfl (Mem.Own.lit w5 3 .i64 [64 * (k : Int)] (show 1 ≤ maxLen by decide)) A2 _ c2 L rfl HF.out.len (O5.out.sl.chg (Chg.alloc (fun _ => False) w5 (.cells #[.int .i64 (64 * (k : Int))] 3)) (fun _ _ => id)) O5.out.nilc ?h63 ?hby ?hba ?_; (case h63 => have := HF.out.len; unfold maxLen; simp; omega); (case hby => have := HF.out.len; simp; omega); (case hba => simp); intro A' c' n' w6 hn' hown hchg; obtain rfl : n' = k + 1 := (by rw [hn']; simp; omega); have H6 : Hid (QA wa.heap.size wa w6 a h s' (64 * (k : Int) :: L)) := (QA.beyond hnew.out hnew.out.blocks ((Chg.alloc _ w5 _).trans hchg)); have hsz6 : w5.heap.size ≤ w6.heap.size := ((Chg.alloc (fun b => w5.heap.size ≤ b) w5 _).trans hchg).size; have O6 : Hid (Mem.Own w6 w2.heap.size 3 .i64 (.slice A' (k + 1) c') (64 * (k : Int) :: L)) := (Mem.Own.mono hown (by omega)); clear hn' hown hchg))
      go_roundg (n - (k + 1))
      case measure => have := hg.out; omega
      case rel => exact ⟨k + 1, s', _, A', c', rfl, rfl, by omega, rfl, by omega, HF2.out, H6.out, O6.out⟩
    · have ek : n = k := by omega
      subst ek
      have h1' : ¬ (n : Int) < n := by omega
      clear H0 hg hk h1
      go_wp2_with fail
      go_loopg [9, 11] 20 (fun g v i wr => ∃ (j m : Nat) (s : St) (L : List Int) (A2 : Option Addr) (c2 : Nat), i = .int .i64 j ∧ g = 20 - j ∧ j ≤ 20 ∧ j ≤ ln ∧ m = n + j ∧ v = .slice A2 m c2 ∧ w2.heap.size ≤ wr.heap.size ∧ Hid (Full L m) ∧ Hid (QA wa.heap.size wa wr a h s L) ∧ Hid (Mem.Own wr w2.heap.size 3 .i64 (.slice A2 m c2) L))
      case atStart => exact ⟨0, n, s, L, A2, c2, rfl, rfl, by omega, by omega, rfl, rfl, hsz, HF.out, H1.out, HO.out⟩
      case round =>
        clear HF H1 HO hsz
        obtain ⟨j, m, s, L, A2, c2, rfl, hg, hj, hjl, hm, rfl, hsz, HF, H1, HO⟩ := hrel
        obtain ⟨wo, rfl⟩ : ∃ wo : World, wo = wr := ⟨_, rfl⟩
        replace hg := Lib.hid hg
        have m0 : 1 ≤ m := by omega
        have m30 : m ≤ 30 := by omega
        replace hm := Lib.hid hm
        by_cases hlt : j < ln ∧ j < 20
        · obtain ⟨h1, h2⟩ := hlt
          have h1' : (j : Int) < ln := by omega
          have h2' : (j : Int) < 20 := by omega
          have CC : Chg (fun b => w.heap.size ≤ b) w wo := (CA.out.mono fun _ _ h => h.elim).trans (H1.out.here.chg.mono fun b _ hb => Nat.le_trans CA.out.size hb)
          obtain ⟨ad, rfl, e0⟩ := (hl.out.later CC (Nat.le_refl _)).sl j (by rw [hn.out]; exact h1)
          clear CC
          generalize l.getD j 0 = x at e0
          obtain ⟨p, hp, p1, p2⟩ := small x m (by omega)
          replace p1 : (IntKind.u64.wrap x).tmod m = p := p1
          have wm : IntKind.u64.wrap (m : Int) = m := by rw [u64_wrap]; omega
          have mz : ((m : Int) == 0) = false := by rw [beq_eq_false_iff_ne]; omega
          have hpl : p < L.length := by rw [HF.out.len]; exact hp
          obtain ⟨ad2, rfl, e2⟩ := HO.out.sl p hpl
          have HY := Lib.hid (mem_at hpl)
          have IA := Lib.hid (ins_at H1.out.nodup hpl (64 * ((n : Int) + j)))
          have hpm : (p : Int) < m := by omega
          clear p2
          obtain ⟨q, hq⟩ : ∃ q, p + 1 + q = m := ⟨m - (p + 1), by omega⟩
          replace hq := Lib.hid hq
          generalize L.getD p 0 = y at e2 HY IA
          have II : insL L y (64 * ((n : Int) + j)) = (ins y (64 * ((n : Int) + j)) L, 0) := by
            unfold insL
            have := hm.out
            rw [if_pos HY.out, if_pos (by omega), if_neg (fun q => by have := HF.out.below _ q; omega)]
          have P := Lib.hid (H1.out.insertE II (by unfold Chunk; omega) (by have := (H1.out.q.li.pl HY.out); unfold I64; have := this.1; unfold Pl at this; omega) (by unfold I64; omega))
          have FI : Hid (Full (ins y (64 * ((n : Int) + j)) L) (m + 1)) := by
            have := hm.out
            rw [IA.out]
            refine ⟨?_, fun z hz => ?_⟩
            · have := HF.out.len
              rw [List.length_append, List.length_append, List.length_take, List.length_drop, List.length_singleton]
              omega
            · rw [List.append_assoc, List.mem_append, List.mem_append, List.mem_singleton] at hz
              rcases hz with hz | hz | hz
              · have := HF.out.below z (List.mem_of_mem_take hz); omega
              · omega
              · have := HF.out.below z (List.mem_of_mem_drop hz); omega
          clear II
          go_wp2_with fail
          refine P.out.mono ?_
          rintro e w5 ⟨rfl, s', hnew, hc⟩
          replace hnew := Lib.hid hnew
          have hsz5 := hc.size
          have O5 := HO.out.chg hc (own_off HO.out OFF.out)
          have sl1 := O5.sl.take (p + 1)
          obtain ⟨S2, d2, run2, sl2, nil2⟩ := slice_from Try.underlying30 elem_int O5 (p + 1) q (by rw [HF.out.len]; exact hq.out)
          replace run2 : ∀ W, (Instr.sliceAt 30 (.slice (some ad2) m c2) (some (.int .i64 ((p : Int) + 1))) none none).run Try.prog W = .ok (.slice S2 q d2) W := fun W => run2 W
          replace sl1 := Lib.hid sl1
          replace sl2 := Lib.hid sl2
          replace nil2 := Lib.hid nil2
          have t1 : (L.take (p + 1)).length = p + 1 := by rw [List.length_take]; omega
          have t2 : (L.drop (p + 1)).length = q := by rw [List.length_drop, HF.out.len]; have := hq.out; omega
          replace t1 := Lib.hid t1
          replace t2 := Lib.hid t2
          have oc := own_cap O5
          unfold maxLen at oc
          obtain ⟨oc1, oc2⟩ := oc
          replace O5 := Lib.hid O5
          have hq30 : p + 1 + q ≤ 30 := by rw [hq.out]; exact m30
          clear P hc
          have a20 := True.intro
          go_wp2_with (first
            | (at_builtin; refine wpList_app rfl _ _ 30 rfl w5.heap.size 3 .i64 8 Try.underlying30 infoInt _ [] rfl (Mem.Own.lit w5 3 .i64 [] (show 0 ≤ maxLen by decide)) (some ad2) _ c2 (L.take (p + 1)) rfl t1.out (sl1.out.chg (Chg.alloc (fun _ => False) w5 (.cells #[] 3)) (fun _ _ => id)) (fun e => by cases e) (by unfold maxLen; simp; omega) (by simp; omega) (by simp) ?_
               intro A6 c6 n6 w6 hn6 hown6 hchg6
               obtain rfl : n6 = p + 1 := by rw [hn6]; simp
               have O6 : Hid (Mem.Own w6 w5.heap.size 3 .i64 (.slice A6 (p + 1) c6) (L.take (p + 1))) := hown6
               have K6 : Hid (Chg (fun b => w5.heap.size ≤ b) w5 w6) := (Chg.alloc _ w5 _).trans hchg6
               clear hn6 hown6 hchg6)
            | (at_builtin; refine wpList_app rfl _ _ 30 rfl w5.heap.size 3 .i64 8 Try.underlying30 infoInt _ (L.take (p + 1)) rfl (O6.out.chg (Chg.alloc (fun _ => False) w6 (.cells #[.int .i64 (64 * ((n : Int) + j))] 3)) (fun _ _ => id)) (some ⟨w6.heap.size, 0, none⟩) 1 1 [64 * ((n : Int) + j)] rfl rfl (sl_lit w6 .i64 [64 * ((n : Int) + j)] 3 (0, 0)) (fun e => by cases e) (by rw [t1.out]; unfold maxLen; omega) (by rw [t1.out]; omega) (by have := K6.out.size; simp; omega) ?_
               intro A7 c7 n7 w7 hn7 hown7 hchg7
               obtain rfl : n7 = p + 2 := by rw [hn7, t1.out]
               have O7 : Hid (Mem.Own w7 w5.heap.size 3 .i64 (.slice A7 (p + 2) c7) (L.take (p + 1) ++ [64 * ((n : Int) + j)])) := hown7
               have K7 : Hid (Chg (fun b => w5.heap.size ≤ b) w5 w7) := K6.out.trans ((Chg.alloc _ w6 _).trans hchg7)
               clear hn7 hown7 hchg7)
            | (at_builtin; refine wpList_app rfl _ _ 30 rfl w5.heap.size 3 .i64 8 Try.underlying30 infoInt _ _ rfl O7.out S2 _ d2 (L.drop (p + 1)) rfl t2.out (sl2.out.later K7.out (Nat.le_refl _)) nil2.out (by rw [List.length_append, t1.out]; unfold maxLen; simp; omega) (by rw [List.length_append, t1.out]; simp; omega) (by exact K7.out.size) ?_
               intro A8 c8 n8 w8 hn8 hown8 hchg8
               obtain rfl : n8 = m + 1 := by rw [hn8, List.length_append, t1.out, List.length_singleton]; have := hq.out; omega
               have O8 : Hid (Mem.Own w8 w5.heap.size 3 .i64 (.slice A8 (m + 1) c8) (ins y (64 * ((n : Int) + j)) L)) := by rw [IA.out]; exact hown8
               have K8 : Hid (Chg (fun b => w5.heap.size ≤ b) w5 w8) := K7.out.trans hchg8
               clear hn8 hown8 hchg8))
          go_roundg (20 - (j + 1))
          case measure => have := hg.out; omega
          case rel =>
            have := hm.out
            have := K8.out.size
            exact ⟨j + 1, m + 1, s', _, A8, c8, rfl, rfl, by omega, by omega, by omega, rfl, by omega, FI.out, hnew.out.beyond hnew.out.blocks K8.out, O8.out.mono (by omega)⟩
        · have hend : ((ln : Int) ≤ j) ∨ ((j : Int) < ln ∧ ¬ (j : Int) < 20) := by omega
          clear hg hlt
          obtain ⟨q, rfl⟩ : ∃ q, m = q + 1 := ⟨m - 1, by omega⟩
          have HL : Hid (L.length = q + 1) := HF.out.len
          have S0 := Lib.hid HO.out.sl
          have LC := Lib.hid (H1.out.listE HL.out (by omega))
          have te := tail_at L
          rw [HL.out, if_pos (by omega), Nat.add_sub_cancel] at te
          obtain ⟨y, hy⟩ : ∃ y, L.getD q 0 = y := ⟨_, rfl⟩
          rw [hy] at te
          replace hy := Lib.hid hy
          have TC := Lib.hid (H1.out.tailE te)
          have CB : Hid (∀ W, Chg (fun b => wa.heap.size ≤ b) wa W → Below w.heap.size w W) := fun W hc => ((CA.out.mono fun _ _ h => h.elim).trans (hc.mono fun b _ hb => Nat.le_trans CA.out.size hb)).below (Nat.le_refl _) fun _ h => h
          clear te HF H1 HO hm m0
          rcases hend with he | ⟨he, he2⟩ <;>
          (go_wp2_with fail
           refine TC.out.mono ?_
           rintro e w5 ⟨rfl, rfl⟩
           go_wp2_with fail
           refine LC.out.mono ?_
           rintro e w5 ⟨A3, c3, rfl, O3, H3, hc3⟩
           have SW := Lib.hid (S0.out.chg hc3 fun _ _ => id)
           replace H3 := Lib.hid H3
           have C5 := same06_calls (c := c3) (d := c2) O3.sl SW.out (by rw [HL.out]; omega)
           rw [HL.out] at C5
           replace C5 := Lib.hid C5
           clear O3 hc3 LC TC
           go_wp2_with fail
           refine C5.out.mono ?_
           rintro e w6 ⟨rfl, hd⟩
           have H4 := Lib.hid (H3.out.fresh (hd.chg _))
           obtain ⟨ad2, rfl, e2⟩ := (SW.out.chg (hd.chg (fun _ => False)) fun _ _ => id) q (by rw [HL.out]; omega)
           clear hd C5
           rw [hy.out] at e2
           go_wp2_with fail
           refine (H4.out.lenE HL.out).mono ?_
           rintro e w7 ⟨rfl, rfl⟩
           have e1 : (((q + 1 : Nat)) : Int) - 1 = q := by omega
           have F := Lib.hid (CB.out _ H4.out.here.chg)
           go_wp2_with fail
           go_ret
           exact ⟨rfl, F.out⟩)
end Go.Proofs.Ytfhffffdhlofgaa.Links

/- Chapter 09's reference in plain words: all items' fields laid anew come to what an item put in, or taken out, leaves. No program in sight. -/
namespace Go.Proofs.Ytfhffffdhlofgaa.Links
open Go Go.RowKit Go.Proofs.Ytfhffffdhlofgaa.Mem Go.Proofs.Ytfhffffdhlofgaa.CodecPure Go.Proofs.Ytfhffffdhlofgaa.ArenaPure Go.Proofs.Ytfhffffdhlofgaa.Codec Go.Proofs.Ytfhffffdhlofgaa.Arena Go.Proofs.Ytfhffffdhlofgaa.Item
set_option linter.unusedVariables false
set_option maxRecDepth 100000
def prevAt (M : List Int) (k : Nat) : Int := if 0 < k then M.getD (k - 1) 0 else -1
def nextAt (M : List Int) (k : Nat) : Int := if k + 1 < M.length then M.getD (k + 1) 0 else -1
def turn1 (s : St) (M : List Int) (k : Nat) : St := (itemSet s (M.getD k 0) 1 (prevAt M k)).1
def turn2 (s : St) (M : List Int) (k : Nat) : St := (itemSet (turn1 s M k) (M.getD k 0) 2 (nextAt M k)).1
def relayK (s : St) (M : List Int) : Nat → St
  | 0 => s
  | k + 1 => turn2 (relayK s M k) M k
def relay (s : St) (M : List Int) : St := relayK s M M.length
theorem seg_iff (s : St) (n : Int) : ∀ (L : List Int) (p : Int), Lseg s p L n ↔ ∀ i, i < L.length → place s (L.getD i 0 + 4) = (if 0 < i then L.getD (i - 1) 0 else p, 0) ∧ place s (L.getD i 0 + 8) = (if i + 1 < L.length then L.getD (i + 1) 0 else n, 0) := by
  intro L
  induction L with
  | nil => intro p; exact ⟨fun _ i hi => by simp at hi, fun _ => trivial⟩
  | cons x xs ih =>
    intro p
    have hd : xs.headD n = if 0 + 1 < (x :: xs).length then (x :: xs).getD (0 + 1) 0 else n := by
      cases xs with
      | nil => rfl
      | cons y ys => rw [if_pos (by simp)]; rfl
    have key : ∀ i, (if 0 < i then xs.getD (i - 1) 0 else x) = (x :: xs).getD i 0 := fun i => by
      cases i with
      | zero => rfl
      | succ i => rw [if_pos (Nat.succ_pos _)]; rfl
    constructor
    · rintro ⟨h1, h2, h3⟩ i hi
      cases i with
      | zero => exact ⟨h1, by rw [← hd]; exact h2⟩
      | succ i =>
        have hi' : i < xs.length := by simpa using hi
        obtain ⟨a1, a2⟩ := (ih x).1 h3 i hi'
        refine ⟨?_, ?_⟩
        · rw [if_pos (Nat.succ_pos _)]
          rw [key i] at a1
          exact a1
        · have e : (i + 1 + 1 < (x :: xs).length) = (i + 1 < xs.length) := by simp
          simp only [e]
          exact a2
    · intro h
      refine ⟨(h 0 (by simp)).1, by rw [hd]; exact (h 0 (by simp)).2, (ih x).2 fun i hi => ?_⟩
      obtain ⟨a1, a2⟩ := h (i + 1) (by simpa using hi)
      rw [if_pos (Nat.succ_pos _)] at a1
      have e : (i + 1 + 1 < (x :: xs).length) = (i + 1 < xs.length) := by simp
      simp only [e] at a2
      rw [key i]
      exact ⟨a1, a2⟩
theorem pl_none : Pl (-1) := ⟨by decide, by decide⟩
theorem at_mem {M : List Int} {i : Nat} (hi : i < M.length) : M.getD i 0 ∈ M := by rw [List.getD_eq_getElem?_getD, List.getElem?_eq_getElem hi]; exact List.getElem_mem hi
theorem apart_at {M : List Int} (h : M.Pairwise ArenaPure.Apart) {i j : Nat} (hij : i < j) (hj : j < M.length) : ArenaPure.Apart (M.getD i 0) (M.getD j 0) := by
  have := List.pairwise_iff_getElem.1 h i j (by omega) hj hij
  rw [List.getD_eq_getElem?_getD, List.getD_eq_getElem?_getD, List.getElem?_eq_getElem hj, List.getElem?_eq_getElem (show i < M.length by omega)]
  exact this
theorem relay_k {s : St} {M : List Int} (hs : Ok s) (hh : ∀ x ∈ M, within s x 40) (ha : M.Pairwise ArenaPure.Apart) : ∀ k, k ≤ M.length →
    Lay s (relayK s M k) (Flds M) ∧ ∀ i, i < k → place (relayK s M k) (M.getD i 0 + 4) = (prevAt M i, 0) ∧ place (relayK s M k) (M.getD i 0 + 8) = (nextAt M i, 0) := by
  have plp : ∀ k, k < M.length → Pl (prevAt M k) := fun k hk => by
    unfold prevAt
    split
    · exact (hdr_pl hs (hh _ (at_mem (by omega)))).1
    · exact pl_none
  have pln : ∀ k, k < M.length → Pl (nextAt M k) := fun k hk => by
    unfold nextAt
    split
    · exact (hdr_pl hs (hh _ (at_mem (by omega)))).1
    · exact pl_none
  intro k
  induction k with
  | zero => exact fun _ => ⟨Lay.refl hs _, fun i hi => by omega⟩
  | succ k ih =>
    intro hk
    obtain ⟨hl, hp⟩ := ih (by omega)
    have hm := at_mem (show k < M.length by omega)
    have hx := hl.hdr (hh _ hm)
    have x0 := (hdr_pl hs (hh _ hm)).2
    have e : relayK s M (k + 1) = sp (sp (relayK s M k) (M.getD k 0 + 4) (prevAt M k)) (M.getD k 0 + 8) (nextAt M k) := by
      show turn2 (relayK s M k) M k = _
      unfold turn2 turn1
      rw [itemSet1 hx, itemSet2 ((within_own (sp_own _ _ _) _ _).2 hx)]
    rw [e]
    obtain ⟨_, k1, q1⟩ := sp_spec hl.ok (hdr4 hx) (plp k (by omega))
    have hx1 := k1.hdr hx
    obtain ⟨_, k2, q2⟩ := sp_spec k1.ok (hdr8 hx1) (pln k (by omega))
    refine ⟨hl.trans ((k1.mono fun i hi => ⟨_, hm, by unfold Fld; omega⟩).trans (k2.mono fun i hi => ⟨_, hm, by unfold Fld; omega⟩)), fun i hi => ?_⟩
    by_cases ei : i = k
    · subst ei
      exact ⟨by rw [k2.place _ (by omega) fun j h1 h2 => by omega]; exact q1, q2⟩
    · have hik : i < k := by omega
      have ap := apart_at ha hik (show k < M.length by omega)
      have i0 := (hdr_pl hs (hh _ (at_mem (show i < M.length by omega)))).2
      unfold ArenaPure.Apart at ap
      refine ⟨?_, ?_⟩
      · rw [k2.place _ (by omega) fun j h1 h2 => by omega, k1.place _ (by omega) fun j h1 h2 => by omega]; exact (hp i hik).1
      · rw [k2.place _ (by omega) fun j h1 h2 => by omega, k1.place _ (by omega) fun j h1 h2 => by omega]; exact (hp i hik).2
theorem relay_li {s : St} {M : List Int} (hs : Ok s) (hh : ∀ x ∈ M, within s x 40) (ha : M.Pairwise ArenaPure.Apart) : LI (relay s M) M ∧ Lay s (relay s M) (Flds M) := by
  obtain ⟨h1, h2⟩ := relay_k hs hh ha M.length (Nat.le_refl _)
  exact ⟨⟨h1.ok, fun x hx => h1.hdr (hh x hx), ha, (seg_iff _ _ _ _).2 h2⟩, h1⟩
/-- the same bytes in the fields of all items -/
theorem li_bytes {t1 t2 : St} {M : List Int} (ho : t1.own = t2.own) (l1 : LI t1 M) (l2 : LI t2 M) (i : Nat) (hi : Flds M i) : t1.B[i]? = t2.B[i]? := by
  obtain ⟨x, hx, f1, f2⟩ := hi
  obtain ⟨j, hj, ej⟩ := List.getElem_of_mem hx
  have g : M.getD j 0 = x := by rw [List.getD_eq_getElem?_getD, List.getElem?_eq_getElem hj]; exact ej
  have p1 := (seg_iff _ _ _ _).1 l1.seg j hj
  have p2 := (seg_iff _ _ _ _).1 l2.seg j hj
  rw [g] at p1 p2
  by_cases h8 : (i : Int) < x + 8
  · exact same_bytes l1.ok l2.ok ho (hdr4 (l1.hdr x hx)) p1.1 p2.1 i ⟨f1, by omega⟩
  · exact same_bytes l1.ok l2.ok ho (hdr8 (l1.hdr x hx)) p1.2 p2.2 i ⟨by omega, by omega⟩
theorem li_unique {s t1 t2 : St} {M : List Int} (k1 : Lay s t1 (Flds M)) (k2 : Lay s t2 (Flds M)) (l1 : LI t1 M) (l2 : LI t2 M) : t1 = t2 := by
  have ho := k1.own.trans k2.own.symm
  refine st_ext ho fun i => ?_
  by_cases h : Flds M i
  · exact li_bytes ho l1 l2 i h
  · exact (k1.out i h).trans (k2.out i h).symm
theorem relay_put {s : St} {A C : List Int} {x : Int} (h : LI s (A ++ C)) (hat : within s x 40) (hap : ∀ y ∈ A ++ C, ArenaPure.Apart y x) : relay s (A ++ x :: C) = putS s (A.getLastD (-1)) x (C.headD (-1)) := by
  obtain ⟨p1, p2⟩ := put_seg h hat hap
  obtain ⟨r1, r2⟩ := relay_li h.ok (fun y hy => (within_own p2.own y 40).1 (p1.hdr y hy)) p1.apart
  exact li_unique r2 p2 r1 p1
/-- an item's two fields lead nowhere -/
def unlink (s : St) (x : Int) : St := (itemSet (itemSet s x 1 (-1)).1 x 2 (-1)).1
theorem relay_del {s : St} {A C : List Int} {x : Int} (h : LI s (A ++ x :: C)) : relay (unlink s x) (A ++ C) = delS s (A.getLastD (-1)) x (C.headD (-1)) := by
  obtain ⟨p1, p2, p3, p4⟩ := del_seg h
  have hx := h.hdr x (by simp)
  have x0 := (hdr_pl h.ok hx).2
  have e : unlink s x = sp (sp s (x + 4) (-1)) (x + 8) (-1) := by
    unfold unlink
    rw [itemSet1 hx, itemSet2 ((within_own (sp_own _ _ _) _ _).2 hx)]
  obtain ⟨_, k1, q1⟩ := sp_spec h.ok (hdr4 hx) pl_none
  have hx1 := k1.hdr hx
  obtain ⟨_, k2, q2⟩ := sp_spec k1.ok (hdr8 hx1) pl_none
  rw [e]
  have ku : Lay s (sp (sp s (x + 4) (-1)) (x + 8) (-1)) (Fld x) := (k1.mono fun i hi => by unfold Fld; omega).trans (k2.mono fun i hi => by unfold Fld; omega)
  have hin : ∀ y ∈ A ++ C, within s y 40 := fun y hy => h.hdr y (by rcases List.mem_append.1 hy with hy | hy <;> simp [hy])
  have hap : ∀ y ∈ A ++ C, ArenaPure.Apart y x := fun y hy => by
    obtain ⟨pA, pC0, pAC0⟩ := List.pairwise_append.1 h.apart
    rcases List.mem_append.1 hy with hy | hy
    · exact pAC0 y hy x (by simp)
    · exact ((List.pairwise_cons.1 pC0).1 y hy).symm
  obtain ⟨r1, r2⟩ := relay_li ku.ok (fun y hy => ku.hdr (hin y hy)) p1.apart
  generalize sp (sp s (x + 4) (-1)) (x + 8) (-1) = u at *
  have ho : (relay u (A ++ C)).own = (delS s (A.getLastD (-1)) x (C.headD (-1))).own := (r2.own.trans ku.own).trans p2.own.symm
  have c4 : place (relay u (A ++ C)) (x + 4) = (-1, 0) := by
    rw [r2.place (x + 4) (by omega) fun i h1 h2 hf => by obtain ⟨y, hy, f1, f2⟩ := hf; have := hap y hy; unfold ArenaPure.Apart at this; omega]
    rw [k2.place (x + 4) (by omega) fun i h1 h2 => by omega]; exact q1
  have c8 : place (relay u (A ++ C)) (x + 8) = (-1, 0) := by
    rw [r2.place (x + 8) (by omega) fun i h1 h2 hf => by obtain ⟨y, hy, f1, f2⟩ := hf; have := hap y hy; unfold ArenaPure.Apart at this; omega]
    exact q2
  refine st_ext ho fun i => ?_
  by_cases hf : Flds (A ++ C) i
  · exact li_bytes ho r1 p1 i hf
  · by_cases hx2 : Fld x i
    · have hw : within (relay u (A ++ C)) x 40 := r2.hdr (ku.hdr hx)
      obtain ⟨f1, f2⟩ := hx2
      by_cases h8 : (i : Int) < x + 8
      · exact same_bytes r1.ok p1.ok ho (hdr4 hw) c4 p3 i ⟨f1, by omega⟩
      · exact same_bytes r1.ok p1.ok ho (hdr8 hw) c8 p4 i ⟨by omega, by omega⟩
    · rw [r2.out i hf, ku.out i hx2, p2.out i fun ⟨y, hy, hq⟩ => by
        rcases List.mem_append.1 hy with hy | hy
        · exact hf ⟨y, by simp [hy], hq⟩
        · rcases List.mem_cons.1 hy with rfl | hy
          · exact hx2 hq
          · exact hf ⟨y, by simp [hy], hq⟩]
end Go.Proofs.Ytfhffffdhlofgaa.Links

/- Chapter 09's reference queue in memory, and what its functions do. -/
namespace Go.Proofs.Ytfhffffdhlofgaa.Links
open Go Go.RowKit Go.Proofs.Ytfhffffdhlofgaa.Mem Go.Proofs.Ytfhffffdhlofgaa.CodecPure Go.Proofs.Ytfhffffdhlofgaa.ArenaPure Go.Proofs.Ytfhffffdhlofgaa.Codec Go.Proofs.Ytfhffffdhlofgaa.Arena Go.Proofs.Ytfhffffdhlofgaa.Item
set_option linter.unusedVariables false
set_option maxRecDepth 100000
/-- the reference's queue: its header p, the reference's arena r, its list's row in blocks from C on -/
structure RQ (C : Nat) (w : World) (r : Ra) (p : Nat) (s : St) (L : List Int) : Prop where
  ref : RLies w r s
  v : ∃ A c, w.heap[p]? = some (.cells #[(.pointer (some ⟨r.g, 0, none⟩)), .slice A L.length c] 50 (0, 0)) ∧ Mem.Own w C 3 .i64 (.slice A L.length c) L
  lo : r.g < C ∧ r.o < C ∧ r.b < C ∧ p < C ∧ C ≤ w.heap.size
  sep : p ≠ r.g ∧ p ≠ r.o ∧ p ≠ r.b
  i64 : ∀ x ∈ L, I64 x
  most : L.length ≤ 1000000
variable {C p : Nat} {w w' : World} {r : Ra} {s : St} {L : List Int}
theorem own_chg {W W' : World} {base : Nat} {e : TypeId} {k : IntKind} {A : Option Addr} {n c : Nat} {l : List Int} {S : Nat → Prop} (ho : Mem.Own W base e k (.slice A n c) l) (hc : Chg S W W') (hoff : ∀ x, S x → x < base) : Mem.Own W' base e k (.slice A n c) l := ho.chg hc fun g eg hq => by
  cases A with
  | none => simp [Value.ownBlock] at eg
  | some ad =>
    simp [Value.ownBlock] at eg
    have := (ho.base ad rfl).1
    have := hoff _ hq
    omega
theorem RQ.chg {S : Nat → Prop} (k : RQ C w r p s L) (hc : Chg S w w') (hS : ∀ x, S x → x < C ∧ x ≠ r.g ∧ x ≠ r.o ∧ x ≠ r.b ∧ x ≠ p) : RQ C w' r p s L := by
  obtain ⟨A, c, h1, h2⟩ := k.v
  exact ⟨k.ref.chg hc (fun h => (hS _ h).2.1 rfl) (fun h => (hS _ h).2.2.1 rfl) (fun h => (hS _ h).2.2.2.1 rfl), ⟨A, c, hc.keep h1 fun h => (hS _ h).2.2.2.2 rfl, own_chg h2 hc fun x hx => (hS x hx).1⟩, ⟨k.lo.1, k.lo.2.1, k.lo.2.2.1, k.lo.2.2.2.1, Nat.le_trans k.lo.2.2.2.2 hc.size⟩, k.sep, k.i64, k.most⟩
theorem RQ.fresh (k : RQ C w r p s L) (hc : Chg (fun _ => False) w w') : RQ C w' r p s L := k.chg hc fun _ h => h.elim
/-- the reference's arena has turned alone -/
theorem RQ.arena {s' : St} (k : RQ C w r p s L) (hl : RLies w' r s') (hc : Chg r.has w w') : RQ C w' r p s' L := by
  obtain ⟨A, c, h1, h2⟩ := k.v
  have hp : ¬ r.has p := fun h => h.elim k.sep.2.1 k.sep.2.2
  exact ⟨hl, ⟨A, c, hc.keep h1 hp, own_chg h2 hc fun x hx => by
    rcases hx with rfl | rfl
    · exact k.lo.2.1
    · exact k.lo.2.2.1⟩, ⟨k.lo.1, k.lo.2.1, k.lo.2.2.1, k.lo.2.2.2.1, Nat.le_trans k.lo.2.2.2.2 hc.size⟩, k.sep, k.i64, k.most⟩
theorem RQ.open (k : RQ C w r p s L) : ∃ A c, w.cell? ⟨p, 0, none⟩ = some (.pointer (some ⟨r.g, 0, none⟩)) ∧ w.cell? ⟨p, 1, none⟩ = some (.slice A L.length c) ∧ w.heap[p]? = some (.cells #[(.pointer (some ⟨r.g, 0, none⟩)), .slice A L.length c] 50 (0, 0)) ∧ Mem.Own w C 3 .i64 (.slice A L.length c) L := by
  obtain ⟨A, c, h1, h2⟩ := k.v
  exact ⟨A, c, by rw [blk_cell h1]; rfl, by rw [blk_cell h1]; rfl, h1, h2⟩
def placeL (L : List Int) (x : Int) : Int := if x ∈ L then (L.idxOf x : Int) else -1
theorem idx_first : ∀ (L : List Int) (x : Int) (k : Nat), k < L.length → L.getD k 0 = x → (∀ j, j < k → L.getD j 0 ≠ x) → x ∈ L ∧ L.idxOf x = k := by
  intro L x
  induction L with
  | nil => intro k hk; simp at hk
  | cons y ys ih =>
    intro k hk h1 h2
    cases k with
    | zero =>
      have : y = x := h1
      subst this
      exact ⟨by simp, by simp⟩
    | succ k =>
      have hy : y ≠ x := h2 0 (Nat.succ_pos _)
      obtain ⟨a1, a2⟩ := ih k (by simpa using hk) h1 fun j hj => h2 (j + 1) (by omega)
      refine ⟨List.mem_cons_of_mem _ a1, ?_⟩
      rw [List.idxOf_cons, a2]
      have : (y == x) = false := by rw [beq_eq_false_iff_ne]; exact hy
      rw [this]; rfl
theorem not_there (L : List Int) (x : Int) (h : ∀ j, j < L.length → L.getD j 0 ≠ x) : x ∉ L := fun hx => by
  obtain ⟨j, hj, ej⟩ := List.getElem_of_mem hx
  exact h j hj (by rw [List.getD_eq_getElem?_getD, List.getElem?_eq_getElem hj]; exact ej)
theorem rplace_calls (k : RQ C w r p s L) (x : Int) : Calls Try.prog 63 #[(.pointer (some ⟨p, 0, none⟩)), (.int .i64 x)] w fun e w' => e = .returned (.int .i64 (placeL L x)) ∧ Chg (fun _ => False) w w' := by
  obtain ⟨A, c, c0, c1, -, ho⟩ := k.open
  have hs := Lib.hid ho.sl
  have hm := k.most
  obtain ⟨n, hn⟩ : ∃ n, L.length = n := ⟨_, rfl⟩
  rw [hn] at c1 hm
  have F : Hid (∀ e w', (∃ j, j < n ∧ L.getD j 0 = x ∧ (∀ i, i < j → L.getD i 0 ≠ x) ∧ e = Ending.returned ((.int .i64 j))) → Chg (fun _ => False) w w' → e = .returned (.int .i64 (placeL L x)) ∧ Chg (fun _ => False) w w') := fun e w' ⟨j, h1, h2, h3, h4⟩ hw => by
    obtain ⟨a1, a2⟩ := idx_first L x j (by omega) h2 h3
    unfold placeL
    rw [if_pos a1, a2]
    exact ⟨h4, hw⟩
  have G : Hid (∀ e w', (∀ i, i < n → L.getD i 0 ≠ x) → e = Ending.returned ((.int .i64 (-1))) → Chg (fun _ => False) w w' → e = .returned (.int .i64 (placeL L x)) ∧ Chg (fun _ => False) w w') := fun e w' h1 h2 hw => by
    unfold placeL
    rw [if_neg (not_there L x (by rw [hn]; exact h1))]
    exact ⟨h2, hw⟩
  replace hn := Lib.hid hn
  replace c0 := Lib.hid c0
  replace c1 := Lib.hid c1
  clear ho k
  go_enter Try.func63, Try.ntmps63
  have c1' := c1.out
  go_wp2_with fail
  go_loopg [5] n (fun g i wr => ∃ k : Nat, i = .int .i64 k ∧ g = n - k ∧ k ≤ n ∧ Hid (Dr w wr) ∧ Hid (∀ i, i < k → L.getD i 0 ≠ x))
  case atStart => exact ⟨0, rfl, rfl, by omega, Dr.refl w, fun i hi => by omega⟩
  case round =>
    clear c1'
    obtain ⟨k, rfl, hg, hk, HD, HN⟩ := hrel
    obtain ⟨wo, rfl⟩ : ∃ wo : World, wo = wr := ⟨_, rfl⟩
    replace hg := Lib.hid hg
    have hc := HD.out.chg (fun _ => False)
    have c1' := hc.cell c1.out id
    replace hc := Lib.hid hc
    by_cases h1 : k < n
    · have h1' : (k : Int) < n := by omega
      obtain ⟨ad, rfl, e0⟩ := (hs.out.chg hc.out fun _ _ => id) k (by rw [hn.out]; exact h1)
      by_cases e : L.getD k 0 = x
      · have E := Lib.hid e
        rw [e] at e0
        clear e
        go_wp2_with fail
        go_ret
        exact F.out _ _ ⟨k, h1, E.out, HN.out, rfl⟩ hc.out
      · have E := Lib.hid e
        have t : (L.getD k 0 == x) = false := by rw [beq_eq_false_iff_ne]; exact e
        clear e
        have HN2 : Hid (∀ i, i < k + 1 → L.getD i 0 ≠ x) := fun i hi => by
          by_cases e : i = k
          · rw [e]; exact E.out
          · exact HN.out i (by omega)
        generalize L.getD k 0 = y at e0 t E
        go_wp2_with fail
        go_roundg (n - (k + 1))
        case measure => have := hg.out; omega
        case rel => exact ⟨k + 1, rfl, rfl, by omega, HD.out, HN2.out⟩
    · have h1' : ¬ (k : Int) < n := by omega
      go_wp2_with fail
      go_ret
      exact G.out _ _ (fun i hi => HN.out i (by omega)) rfl hc.out
theorem placeL_neg (L : List Int) (x : Int) : (0 ≤ placeL L x ↔ x ∈ L) ∧ placeL L x < 1000000000000 + L.length ∧ -1 ≤ placeL L x := by
  unfold placeL
  split
  · rename_i h
    have := List.idxOf_lt_length_iff.2 h
    exact ⟨⟨fun _ => h, fun _ => by omega⟩, by omega, by omega⟩
  · rename_i h
    exact ⟨⟨fun q => by omega, fun q => absurd q h⟩, by omega, by omega⟩
theorem rhas_calls (k : RQ C w r p s L) (x : Int) : Calls Try.prog 32 #[(.pointer (some ⟨p, 0, none⟩)), (.int .i64 x)] w fun e w' => e = .returned (.bool (decide (x ∈ L))) ∧ Chg (fun _ => False) w w' := by
  have P := Lib.hid (rplace_calls k x)
  have e := (placeL_neg L x).1
  have hd : decide (x ∈ L) = decide (0 ≤ placeL L x) := by rw [decide_eq_decide]; exact e.symm
  rw [hd]
  generalize placeL L x = y at P ⊢
  clear e hd k
  go_enter Try.func32, Try.ntmps32
  go_wp2_with fail
  refine P.out.mono ?_
  rintro e w1 ⟨rfl, hc⟩
  replace hc := Lib.hid hc
  go_wp2_with fail
  go_ret
  exact ⟨rfl, hc.out⟩
theorem rmay_calls (k : RQ C w r p s L) (x : Int) (hx : I64 x) : Calls Try.prog 61 #[(.pointer (some ⟨p, 0, none⟩)), (.int .i64 x)] w fun e w' => e = .returned (.int .i64 (if within s x 40 then if x ∈ L then 4 else 0 else 1)) ∧ Chg (fun _ => False) w w' := by
  obtain ⟨A, c, c0, c1, -, ho⟩ := k.open
  have P := refread_calls k.ref x 40 hx
  have K := Lib.hid k
  unfold readA at P
  clear ho k c1
  by_cases hw : within s x 40
  · rw [if_pos hw] at P
    rw [if_pos hw]
    replace P := Lib.hid P
    generalize got s x 40 = gl at P
    clear hw hx
    by_cases hm : x ∈ L
    · rw [if_pos hm]
      have HB := Lib.hid (decide_eq_true hm)
      clear hm
      go_enter Try.func61, Try.ntmps61
      go_wp2_with fail
      refine P.out.mono ?_
      rintro e w1 ⟨A1, c1, rfl, -, hc⟩
      have H := Lib.hid (rhas_calls (K.out.fresh hc) x)
      rw [HB.out] at H
      replace hc := Lib.hid hc
      clear P c0
      go_wp2_with fail
      refine H.out.mono ?_
      rintro e w2 ⟨rfl, hc2⟩
      replace hc2 := Lib.hid hc2
      clear H
      go_wp2_with fail
      go_ret
      exact ⟨rfl, hc.out.trans hc2.out⟩
    · rw [if_neg hm]
      have HB := Lib.hid (decide_eq_false hm)
      clear hm
      go_enter Try.func61, Try.ntmps61
      go_wp2_with fail
      refine P.out.mono ?_
      rintro e w1 ⟨A1, c1, rfl, -, hc⟩
      have H := Lib.hid (rhas_calls (K.out.fresh hc) x)
      rw [HB.out] at H
      replace hc := Lib.hid hc
      clear P c0
      go_wp2_with fail
      refine H.out.mono ?_
      rintro e w2 ⟨rfl, hc2⟩
      replace hc2 := Lib.hid hc2
      clear H
      go_wp2_with fail
      go_ret
      exact ⟨rfl, hc.out.trans hc2.out⟩
  · rw [if_neg hw] at P
    rw [if_neg hw]
    replace P := Lib.hid P
    clear hw hx
    go_enter Try.func61, Try.ntmps61
    go_wp2_with fail
    refine P.out.mono ?_
    rintro e w1 ⟨A1, c1, rfl, -, hc⟩
    replace hc := Lib.hid hc
    clear P c0
    go_wp2_with fail
    go_ret
    exact ⟨rfl, hc.out⟩
theorem relay_range {M : List Int} (h : ∀ x ∈ M, I64 x) (k : Nat) : I64 (prevAt M k) ∧ I64 (nextAt M k) := by
  have i1 : I64 (-1) := ⟨by decide, by decide⟩
  unfold prevAt nextAt
  constructor
  · split
    · rw [List.getD_eq_getElem?_getD]
      cases e : M[k - 1]? with
      | none => exact ⟨by decide, by decide⟩
      | some y => exact h y (List.mem_of_getElem? e)
    · exact i1
  · split
    · exact h _ (at_mem (by omega))
    · exact i1
set_option maxHeartbeats 2000000 in
theorem rlay_calls (k : RQ C w r p s L) : Calls Try.prog 65 #[(.pointer (some ⟨p, 0, none⟩))] w fun e w' => e = .returned (.tuple #[]) ∧ RQ C w' r p (relay s L) L ∧ Chg r.has w w' := by
  have hi := Lib.hid k.i64
  have hm := k.most
  have K := Lib.hid k
  obtain ⟨n, hn⟩ : ∃ n, L.length = n := ⟨_, rfl⟩
  rw [hn] at hm
  unfold relay
  rw [hn]
  replace hn := Lib.hid hn
  obtain ⟨A, c, c0, c1, -, ho⟩ := k.open
  rw [hn.out] at c1
  have hp : ¬ r.has p := fun h => h.elim k.sep.2.1 k.sep.2.2
  have CF : Hid (∀ W, Chg r.has w W → W.cell? ⟨p, 0, none⟩ = some (.pointer (some ⟨r.g, 0, none⟩)) ∧ W.cell? ⟨p, 1, none⟩ = some (.slice A n c) ∧ Sl W .i64 A L) := fun W hc => ⟨hc.cell c0 hp, hc.cell c1 hp, (own_chg ho hc fun x hx => by
    rcases hx with rfl | rfl
    · exact k.lo.2.1
    · exact k.lo.2.2.1).sl⟩
  clear k ho hp
  go_enter Try.func65, Try.ntmps65
  go_wp2_with fail
  go_loopg [2] n (fun g i wr => ∃ k : Nat, i = .int .i64 k ∧ g = n - k ∧ k ≤ n ∧ Hid (RQ C wr r p (relayK s L k) L) ∧ Hid (Chg r.has w wr))
  case atStart => exact ⟨0, rfl, rfl, by omega, K.out, Chg.refl _ _⟩
  case round =>
    clear c0 c1
    obtain ⟨k, rfl, hg, hk, K1, HC⟩ := hrel
    obtain ⟨wo, rfl⟩ : ∃ wo : World, wo = wr := ⟨_, rfl⟩
    replace hg := Lib.hid hg
    obtain ⟨d0, d1, ds⟩ := CF.out wo HC.out
    by_cases h1 : k < n
    · have h1' : (k : Int) < n := by omega
      obtain ⟨ad, rfl, e0⟩ := ds k (by rw [hn.out]; exact h1)
      obtain ⟨r2, hr⟩ : ∃ r2, k + 1 = r2 := ⟨_, rfl⟩
      have hr' : (k : Int) + 1 = r2 := by omega
      have PV : (0 < (k : Int) ∧ ∃ (j : Nat) (pv : Int), (k : Int) - 1 = j ∧ (j : Int) < n ∧ Hid (prevAt L k = pv) ∧ wo.cell? (ad.add j) = some (.int .i64 pv)) ∨ (¬ 0 < (k : Int) ∧ Hid (prevAt L k = -1)) := by
        by_cases q : 0 < k
        · obtain ⟨ad2, e, hc⟩ := ds (k - 1) (by rw [hn.out]; omega)
          cases e
          exact .inl ⟨by omega, k - 1, L.getD (k - 1) 0, by omega, by omega, if_pos q, hc⟩
        · exact .inr ⟨by omega, if_neg q⟩
      have NV : ((r2 : Int) < n ∧ ∃ (nv : Int), Hid (nextAt L k = nv) ∧ wo.cell? (ad.add r2) = some (.int .i64 nv)) ∨ (¬ (r2 : Int) < n ∧ Hid (nextAt L k = -1)) := by
        by_cases q : r2 < n
        · obtain ⟨ad2, e, hc⟩ := ds r2 (by rw [hn.out]; omega)
          cases e
          exact .inl ⟨by omega, L.getD r2 0, by unfold nextAt; rw [hr]; exact if_pos (by rw [hn.out]; exact q), hc⟩
        · exact .inr ⟨by omega, by unfold nextAt; rw [hr]; exact if_neg (by rw [hn.out]; exact q)⟩
      have RG := Lib.hid (relay_range hi.out k)
      have IY := Lib.hid (hi.out _ (at_mem (show k < L.length by rw [hn.out]; exact h1)))
      have E2 : Hid (relayK s L r2 = turn2 (relayK s L k) L k) := by rw [← hr]; rfl
      have S1 : Hid (∀ W, RLies W r (relayK s L k) → Calls Try.prog 64 #[(.pointer (some ⟨r.g, 0, none⟩)), (.int .i64 (L.getD k 0)), (.int .i64 1), (.int .i64 (prevAt L k))] W (RNow W r (turn1 (relayK s L k) L k) (itemSet (relayK s L k) (L.getD k 0) 1 (prevAt L k)).2)) := fun W hl => refset_calls hl _ 1 _ IY.out RG.out.1
      have S2 : Hid (∀ W, RLies W r (turn1 (relayK s L k) L k) → Calls Try.prog 64 #[(.pointer (some ⟨r.g, 0, none⟩)), (.int .i64 (L.getD k 0)), (.int .i64 2), (.int .i64 (nextAt L k))] W (RNow W r (turn2 (relayK s L k) L k) (itemSet (turn1 (relayK s L k) L k) (L.getD k 0) 2 (nextAt L k)).2)) := fun W hl => refset_calls hl _ 2 _ IY.out RG.out.2
      replace hr := Lib.hid hr
      clear ds
      generalize (itemSet (relayK s L k) (L.getD k 0) 1 (prevAt L k)).2 = er1 at S1
      generalize (itemSet (turn1 (relayK s L k) L k) (L.getD k 0) 2 (nextAt L k)).2 = er2 at S2
      replace E2 := E2.out
      obtain ⟨s2, e2⟩ : ∃ s2, turn2 (relayK s L k) L k = s2 := ⟨_, rfl⟩
      rw [e2] at S2 E2
      replace E2 := Lib.hid E2
      clear e2
      generalize turn1 (relayK s L k) L k = s1 at S1 S2
      generalize relayK s L k = sk at S1 K1
      have Y : Hid (∃ y, L.getD k 0 = y) := ⟨_, rfl⟩
      obtain ⟨y, hy⟩ := Y.out
      rw [hy] at e0 S1 S2
      replace hy := Lib.hid hy
      rcases PV with ⟨q1, j, pv, hj, hjn, PV, cp⟩ | ⟨q1, PV⟩ <;> rcases NV with ⟨q2, nv, NV, cn⟩ | ⟨q2, NV⟩ <;>
      (rw [PV.out] at S1
       rw [NV.out] at S2
       go_wp2_with fail
       go_still_tail 12, (by kernel_rfl)
       change wpList _ _ _ _ _ wo.drew
       have R1 : Hid (RQ C wo.drew r p sk L) := K1.out.fresh (Chg.drew _ _)
       have C1 : Hid (Chg r.has w wo.drew) := HC.out.trans (Chg.drew _ _)
       have SS := Lib.hid (S1.out _ R1.out.ref)
       clear d0 d1 e0
       generalize wo.drew = w2 at R1 C1 SS ⊢
       go_wp2_with fail
       refine SS.out.mono ?_
       rintro e w3 ⟨rfl, hl3, hc3⟩
       have R3 := Lib.hid (R1.out.arena hl3 hc3)
       have C3 := Lib.hid (C1.out.trans hc3)
       clear hl3 hc3 SS R1 C1
       obtain ⟨d0, d1, ds⟩ := CF.out w3 C3.out
       obtain ⟨ad3, ea, e0⟩ := ds k (by rw [hn.out]; exact h1)
       cases ea
       rw [hy.out] at e0
       clear ds
       go_wp2_with fail
       go_still_tail 12, (by kernel_rfl)
       change wpList _ _ _ _ _ w3.drew
       have R4 : Hid (RQ C w3.drew r p s1 L) := R3.out.fresh (Chg.drew _ _)
       have C4 : Hid (Chg r.has w w3.drew) := C3.out.trans (Chg.drew _ _)
       have SS := Lib.hid (S2.out _ R4.out.ref)
       clear d0 d1 e0
       generalize w3.drew = w4 at R4 C4 SS ⊢
       go_wp2_with fail
       refine SS.out.mono ?_
       rintro e w5 ⟨rfl, hl5, hc5⟩
       have R5 := Lib.hid (R4.out.arena hl5 hc5)
       have C5 := Lib.hid (C4.out.trans hc5)
       clear hl5 hc5 SS R4 C4
       go_wp2_with fail
       go_roundg (n - r2)
       case measure => have := hg.out; have := hr.out; omega
       case rel => exact ⟨r2, rfl, rfl, by have := hr.out; omega, by rw [E2.out]; exact R5.out, C5.out⟩)
    · have h1' : ¬ (k : Int) < n := by omega
      obtain rfl : k = n := by omega
      go_wp2_with fail
      go_end0
      exact ⟨rfl, K1.out, HC.out⟩
end Go.Proofs.Ytfhffffdhlofgaa.Links

/- Chapter 09's reference queue: put, Push, Insert, Remove, Tail, Before. -/
namespace Go.Proofs.Ytfhffffdhlofgaa.Links
open Go Go.RowKit Go.Proofs.Ytfhffffdhlofgaa.Mem Go.Proofs.Ytfhffffdhlofgaa.CodecPure Go.Proofs.Ytfhffffdhlofgaa.ArenaPure Go.Proofs.Ytfhffffdhlofgaa.Codec Go.Proofs.Ytfhffffdhlofgaa.Arena Go.Proofs.Ytfhffffdhlofgaa.Item
set_option linter.unusedVariables false
set_option maxRecDepth 100000
variable {C p : Nat} {w w' : World} {r : Ra} {s s' : St} {L L' : List Int}
/-- another list is stored -/
theorem RQ.store {W : World} {A : Option Addr} {n c : Nat} (k : RQ C w r p s L) (hc : Chg (fun b => w.heap.size ≤ b) w W) (ho : Mem.Own W C 3 .i64 (.slice A n c) L') (hn : n = L'.length) (hi : ∀ x ∈ L', I64 x) (hm : L'.length ≤ 1000000) :
    RQ C (W.setCell ⟨p, 1, none⟩ (.slice A n c)) r p s L' ∧ Chg (fun x => x = p) w (W.setCell ⟨p, 1, none⟩ (.slice A n c)) := by
  subst hn
  obtain ⟨A0, c0, h1, h2⟩ := k.v
  have lt : p < w.heap.size := Nat.lt_of_lt_of_le k.lo.2.2.2.1 k.lo.2.2.2.2
  have hb := hc.keep h1 (by omega)
  have CC : Chg (fun x => x = p) W (W.setCell ⟨p, 1, none⟩ (.slice A L'.length c)) := Chg.setCell _ _ _ rfl
  have C0 : Chg (fun x => x = p) w (W.setCell ⟨p, 1, none⟩ (.slice A L'.length c)) := (hc.mono fun b hb h => by omega).trans CC
  refine ⟨⟨k.ref.chg C0 (fun e => k.sep.1 e.symm) (fun e => k.sep.2.1 e.symm) (fun e => k.sep.2.2 e.symm), ⟨A, c, ?_, own_chg ho CC fun x hx => by rw [hx]; exact k.lo.2.2.2.1⟩, ⟨k.lo.1, k.lo.2.1, k.lo.2.2.1, k.lo.2.2.2.1, Nat.le_trans k.lo.2.2.2.2 C0.size⟩, k.sep, hi, hm⟩, C0⟩
  rw [setCell_row hb, setRow_heap W _ _ _ _ (0, 0) hb]; rfl
theorem mem_put {L : List Int} {x y : Int} {i : Nat} (h : y ∈ L.take i ++ [x] ++ L.drop i) : y = x ∨ y ∈ L := by
  rw [List.append_assoc, List.mem_append, List.mem_append, List.mem_singleton] at h
  rcases h with h | h | h
  · exact .inr (List.mem_of_mem_take h)
  · exact .inl h
  · exact .inr (List.mem_of_mem_drop h)
set_option maxHeartbeats 1000000 in
theorem rput_calls (k : RQ C w r p s L) (i : Nat) (hi : i ≤ L.length) (x : Int) (hx : I64 x) (hm : L.length < 1000000) : Calls Try.prog 62 #[(.pointer (some ⟨p, 0, none⟩)), (.int .i64 i), (.int .i64 x)] w fun e w' => e = .returned (.tuple #[]) ∧ RQ C w' r p (relay s (L.take i ++ [x] ++ L.drop i)) (L.take i ++ [x] ++ L.drop i) ∧ Chg (fun y => r.has y ∨ y = p) w w' := by
  obtain ⟨A, c, c0, c1, hb, ho⟩ := k.open
  obtain ⟨n, hn⟩ : ∃ n, L.length = n := ⟨_, rfl⟩
  obtain ⟨q, hq⟩ : ∃ q, i + q = n := ⟨n - i, by omega⟩
  obtain ⟨S1, d1, run1, sl1, nil1⟩ := slice_to Try.underlying30 elem_int ho i hi
  obtain ⟨S2, d2, run2, sl2, nil2⟩ := slice_from Try.underlying30 elem_int ho i q (by omega)
  rw [hn] at c1 run1 run2 hb hm hi
  have lt : p < w.heap.size := Nat.lt_of_lt_of_le k.lo.2.2.2.1 k.lo.2.2.2.2
  have ST := Lib.hid (fun (W : World) (A' : Option Addr) (n' c' : Nat) => k.store (W := W) (A := A') (n := n') (c := c') (L' := L.take i ++ [x] ++ L.drop i))
  have t1 : (L.take i).length = i := by rw [List.length_take]; omega
  have t2 : (L.drop i).length = q := by rw [List.length_drop]; omega
  have tl : (L.take i ++ [x] ++ L.drop i).length = n + 1 := by rw [List.length_append, List.length_append, t1, t2, List.length_singleton]; omega
  have IX : Hid (∀ y ∈ L.take i ++ [x] ++ L.drop i, I64 y) := fun y hy => by
    rcases mem_put hy with rfl | hy
    · exact hx
    · exact k.i64 y hy
  replace sl1 := Lib.hid sl1
  replace sl2 := Lib.hid sl2
  replace nil1 := Lib.hid nil1
  replace nil2 := Lib.hid nil2
  replace t1 := Lib.hid t1
  replace t2 := Lib.hid t2
  replace tl := Lib.hid tl
  replace hn := Lib.hid hn
  replace hq := Lib.hid hq
  replace hb := Lib.hid hb
  have hqm : i + q ≤ 1000000 := by rw [hq.out]; omega
  clear ho hx
  replace c0 := Lib.hid c0
  have lC := Lib.hid k.lo.2.2.2.2
  clear k
  go_enter Try.func62, Try.ntmps62
  go_wp2_with (first
    | (at_builtin; refine wpList_app rfl _ _ 30 rfl w.heap.size 3 .i64 8 Try.underlying30 infoInt _ [] rfl (Mem.Own.lit w 3 .i64 [] (show 0 ≤ maxLen by decide)) S1 _ d1 (L.take i) rfl t1.out (sl1.out.chg (Chg.alloc (fun _ => False) w (.cells #[] 3)) (fun _ _ => id)) nil1.out (by unfold maxLen; simp; omega) (by simp; omega) (by simp) ?_
       intro A6 c6 n6 w6 hn6 hown6 hchg6
       obtain rfl : i = n6 := (by rw [hn6]; simp)
       have O6 : Hid (Mem.Own w6 w.heap.size 3 .i64 (.slice A6 i c6) (L.take i)) := hown6
       have K6 : Hid (Chg (fun b => w.heap.size ≤ b) w w6) := (Chg.alloc _ w _).trans hchg6
       clear hn6 hown6 hchg6)
    | (at_builtin; refine wpList_app rfl _ _ 30 rfl w.heap.size 3 .i64 8 Try.underlying30 infoInt _ (L.take i) rfl (O6.out.chg (Chg.alloc (fun _ => False) w6 (.cells #[.int .i64 x] 3)) (fun _ _ => id)) (some ⟨w6.heap.size, 0, none⟩) 1 1 [x] rfl rfl (sl_lit w6 .i64 [x] 3 (0, 0)) (fun e => by cases e) (by rw [t1.out]; unfold maxLen; omega) (by rw [t1.out]; omega) (by have := K6.out.size; simp; omega) ?_
       intro A7 c7 n7 w7 hn7 hown7 hchg7
       obtain rfl : n7 = i + 1 := (by rw [hn7, t1.out])
       have O7 : Hid (Mem.Own w7 w.heap.size 3 .i64 (.slice A7 (i + 1) c7) (L.take i ++ [x])) := hown7
       have K7 : Hid (Chg (fun b => w.heap.size ≤ b) w w7) := K6.out.trans ((Chg.alloc _ w6 _).trans hchg7)
       have g1 : w7.cell? ⟨p, 1, none⟩ = some (.slice A n c) := K7.out.cell c1 (show ¬ w.heap.size ≤ p by omega)
       clear hn7 hown7 hchg7)
    | (at_builtin; refine wpList_app rfl _ _ 30 rfl w.heap.size 3 .i64 8 Try.underlying30 infoInt _ _ rfl O7.out S2 _ d2 (L.drop i) rfl t2.out (sl2.out.later K7.out (Nat.le_refl _)) nil2.out (by rw [List.length_append, t1.out]; unfold maxLen; simp; omega) (by rw [List.length_append, t1.out]; simp; omega) (by exact K7.out.size) ?_
       intro A8 c8 n8 w8 hn8 hown8 hchg8
       obtain rfl : n8 = n + 1 := (by rw [hn8, List.length_append, t1.out, List.length_singleton]; have := hq.out; omega)
       have O8 : Hid (Mem.Own w8 w.heap.size 3 .i64 (.slice A8 (n + 1) c8) (L.take i ++ [x] ++ L.drop i)) := hown8
       have K8 : Hid (Chg (fun b => w.heap.size ≤ b) w w8) := K7.out.trans hchg8
       have hb8 := K8.out.keep hb.out (show ¬ w.heap.size ≤ p by omega)
       have g2 : w8.cell? ⟨p, 1, none⟩ = some (.slice A n c) := by rw [blk_cell hb8]; rfl
       have g3 := blk_frozen hb8 1
       clear hn8 hown8 hchg8 hb8))
  obtain ⟨k9, C9⟩ := ST.out w8 A8 (n + 1) c8 K8.out (O8.out.mono lC.out) tl.out.symm IX.out (by rw [tl.out]; omega)
  have LC := Lib.hid (rlay_calls k9)
  replace C9 := Lib.hid C9
  clear k9 g1 g2 g3 run1 run2
  refine LC.out.mono ?_
  rintro e w9 ⟨rfl, k10, hc10⟩
  have F : Hid (RQ C w9 r p (relay s (L.take i ++ [x] ++ L.drop i)) (L.take i ++ [x] ++ L.drop i) ∧ Chg (fun y => r.has y ∨ y = p) w w9) := ⟨k10, (C9.out.mono fun _ _ h => .inr h).trans (hc10.mono fun _ _ h => .inl h)⟩
  clear k10 hc10 LC
  go_wp2_with fail
  go_end0
  exact ⟨rfl, F.out⟩
/-- an act's answer, and how it leaves the queue -/
def RQok (C : Nat) (w : World) (r : Ra) (p : Nat) (q : St × List Int × Int) (e : Ending) (w' : World) : Prop :=
  e = .returned (.int .i64 q.2.2) ∧ RQ C w' r p q.1 q.2.1 ∧ Chg (fun y => r.has y ∨ y = p) w w'
def rpushed (s : St) (L : List Int) (x : Int) : St × List Int × Int :=
  if within s x 40 then if x ∈ L then (s, L, 4) else (relay s (x :: L), x :: L, 0) else (s, L, 1)
def rinserted (s : St) (L : List Int) (b x : Int) : St × List Int × Int :=
  if b ∈ L then if within s x 40 then if x ∈ L then (s, L, 4) else (relay s (ins b x L), ins b x L, 0) else (s, L, 1) else (s, L, 3)
def rremoved (s : St) (L : List Int) (x : Int) : St × List Int × Int :=
  if x ∈ L then (relay (unlink s x) (L.erase x), L.erase x, 0) else (s, L, 3)
theorem rpushed_eq (h : LI s L) {x : Int} (hap : within s x 40 → x ∉ L → ∀ y ∈ L, ArenaPure.Apart y x) : rpushed s L x = pushed s L x := by
  unfold rpushed pushed
  by_cases hw : within s x 40
  · rw [if_pos hw, if_pos hw]
    by_cases hm : x ∈ L
    · rw [if_pos hm, if_pos hm]
    · rw [if_neg hm, if_neg hm]
      have := relay_put (A := []) (C := L) h hw (hap hw hm)
      rw [show ([] : List Int) ++ x :: L = x :: L from rfl] at this
      rw [this]; rfl
  · rw [if_neg hw, if_neg hw]
theorem rinserted_eq (h : LI s L) {b x : Int} (hap : within s x 40 → x ∉ L → ∀ y ∈ L, ArenaPure.Apart y x) : rinserted s L b x = inserted s L b x := by
  unfold rinserted inserted insTail
  by_cases hb : b ∈ L
  · rw [if_pos hb, if_pos hb]
    by_cases hw : within s x 40
    · rw [if_pos hw, if_pos hw]
      by_cases hm : x ∈ L
      · rw [if_pos hm, if_pos hm]
      · rw [if_neg hm, if_neg hm]
        obtain ⟨A, D, hL, hA, h4, h5, h6, h7⟩ := split_at b L hb
        have e0 : L = (A ++ [b]) ++ D := by rw [hL]; simp
        have h' := h
        rw [e0] at h'
        have := relay_put h' hw (by rw [← e0]; exact hap hw hm)
        have el : (A ++ [b]).getLastD (-1) = b := by simp
        rw [el, ← h5] at this
        have e1 : ins b x L = A ++ [b] ++ x :: D := by rw [h4]; simp
        rw [e1, this]
    · rw [if_neg hw, if_neg hw]
  · rw [if_neg hb, if_neg hb]
theorem rremoved_eq (h : LI s L) (x : Int) : rremoved s L x = removed s L x := by
  unfold rremoved removed
  by_cases hm : x ∈ L
  · rw [if_pos hm, if_pos hm]
    obtain ⟨A, D, hL, hA, h4, h5, h6, h7⟩ := split_at x L hm
    have h' := h
    rw [hL] at h'
    have := relay_del h'
    rw [← h5, ← h6] at this
    rw [h7, this]
  · rw [if_neg hm, if_neg hm]
theorem ins_idx {b : Int} (hb : b ∈ L) (x : Int) : ins b x L = L.take (L.idxOf b + 1) ++ [x] ++ L.drop (L.idxOf b + 1) := by
  obtain ⟨A, D, hL, hA, h4, -⟩ := split_at b L hb
  have e : L.idxOf b = A.length := idx_eq hL hA
  rw [h4, e, hL]
  have e0 : A ++ b :: D = (A ++ [b]) ++ D := by simp
  rw [e0, List.take_left' (by simp), List.drop_left' (by simp)]
  simp
theorem erase_idx {x : Int} (hx : x ∈ L) : L.erase x = L.take (L.idxOf x) ++ L.drop (L.idxOf x + 1) := by
  obtain ⟨A, D, hL, hA, h4, h5, h6, h7⟩ := split_at x L hx
  have e : L.idxOf x = A.length := idx_eq hL hA
  have e0 : A ++ x :: D = (A ++ [x]) ++ D := by simp
  rw [h7, e, hL, List.take_left' rfl, e0, List.drop_left' (by simp)]
theorem rpush_calls (k : RQ C w r p s L) (x : Int) (hx : I64 x) (hm : L.length < 1000000) : Calls Try.prog 27 #[(.pointer (some ⟨p, 0, none⟩)), (.int .i64 x)] w (RQok C w r p (rpushed s L x)) := by
  have M := rmay_calls k x hx
  have K := Lib.hid k
  have PC : Hid (∀ W, RQ C W r p s L → Calls Try.prog 62 #[(.pointer (some ⟨p, 0, none⟩)), (.int .i64 0), (.int .i64 x)] W fun e w' => e = .returned (.tuple #[]) ∧ RQ C w' r p (relay s (x :: L)) (x :: L) ∧ Chg (fun y => r.has y ∨ y = p) W w') := fun W k => rput_calls k 0 (Nat.zero_le _) x hx hm
  unfold rpushed
  clear k hx hm
  by_cases hw : within s x 40
  · rw [if_pos hw] at M ⊢
    by_cases hn : x ∈ L
    · rw [if_pos hn] at M ⊢
      replace M := Lib.hid M
      clear hw hn
      go_enter Try.func27, Try.ntmps27
      go_wp2_with fail
      refine M.out.mono ?_
      rintro e w1 ⟨rfl, hc⟩
      have F : Hid (RQok C w r p (s, L, 4) (.returned (.int .i64 4)) w1) := ⟨rfl, K.out.fresh hc, hc.mono fun _ _ h => h.elim⟩
      clear hc
      go_wp2_with fail
      go_ret
      exact F.out
    · rw [if_neg hn] at M ⊢
      replace M := Lib.hid M
      clear hw hn
      go_enter Try.func27, Try.ntmps27
      go_wp2_with fail
      refine M.out.mono ?_
      rintro e w1 ⟨rfl, hc⟩
      have P1 := Lib.hid (PC.out w1 (K.out.fresh hc))
      replace hc := Lib.hid hc
      go_wp2_with fail
      refine P1.out.mono ?_
      rintro e w2 ⟨rfl, k2, hc2⟩
      have F : Hid (RQok C w r p (relay s (x :: L), x :: L, 0) (.returned (.int .i64 0)) w2) := ⟨rfl, k2, (hc.out.mono fun _ _ h => h.elim).trans hc2⟩
      clear k2 hc2
      go_wp2_with fail
      go_ret
      exact F.out
  · rw [if_neg hw] at M ⊢
    replace M := Lib.hid M
    clear hw
    go_enter Try.func27, Try.ntmps27
    go_wp2_with fail
    refine M.out.mono ?_
    rintro e w1 ⟨rfl, hc⟩
    have F : Hid (RQok C w r p (s, L, 1) (.returned (.int .i64 1)) w1) := ⟨rfl, K.out.fresh hc, hc.mono fun _ _ h => h.elim⟩
    clear hc
    go_wp2_with fail
    go_ret
    exact F.out
theorem rinsert_calls (k : RQ C w r p s L) (b x : Int) (hx : I64 x) (hm : L.length < 1000000) : Calls Try.prog 29 #[(.pointer (some ⟨p, 0, none⟩)), (.int .i64 b), (.int .i64 x)] w (RQok C w r p (rinserted s L b x)) := by
  have PL := rplace_calls k b
  have M := Lib.hid (fun W (k : RQ C W r p s L) => rmay_calls k x hx)
  have K := Lib.hid k
  unfold rinserted
  unfold placeL at PL
  by_cases hb : b ∈ L
  · rw [if_pos hb] at PL ⊢
    have lt := List.idxOf_lt_length_iff.2 hb
    have PC : Hid (∀ W, RQ C W r p s L → Calls Try.prog 62 #[(.pointer (some ⟨p, 0, none⟩)), (.int .i64 ((L.idxOf b : Int) + 1)), (.int .i64 x)] W fun e w' => e = .returned (.tuple #[]) ∧ RQ C w' r p (relay s (ins b x L)) (ins b x L) ∧ Chg (fun y => r.has y ∨ y = p) W w') := fun W k => by
      rw [ins_idx hb]
      exact rput_calls k (L.idxOf b + 1) (by omega) x hx hm
    replace PL := Lib.hid PL
    have jb : L.idxOf b < 1000000 := by omega
    generalize L.idxOf b = j at PL PC jb
    clear k hx hm hb lt
    by_cases hw : within s x 40
    · rw [if_pos hw]
      by_cases hn : x ∈ L
      · rw [if_pos hn]
        have M1 : Hid (∀ W, RQ C W r p s L → Calls Try.prog 61 #[(.pointer (some ⟨p, 0, none⟩)), (.int .i64 x)] W fun e w' => e = .returned (.int .i64 4) ∧ Chg (fun _ => False) W w') := fun W k => by have := M.out W k; rw [if_pos hw, if_pos hn] at this; exact this
        clear hw hn M
        go_enter Try.func29, Try.ntmps29
        go_wp2_with fail
        refine PL.out.mono ?_
        rintro e w1 ⟨rfl, hc⟩
        have K1 := Lib.hid (K.out.fresh hc)
        replace hc := Lib.hid hc
        go_wp2_with fail
        refine (M1.out w1 K1.out).mono ?_
        rintro e w2 ⟨rfl, hc2⟩
        have F : Hid (RQok C w r p (s, L, 4) (.returned (.int .i64 4)) w2) := ⟨rfl, K1.out.fresh hc2, (hc.out.trans hc2).mono fun _ _ h => h.elim⟩
        clear hc2
        go_wp2_with fail
        go_ret
        exact F.out
      · rw [if_neg hn]
        have M1 : Hid (∀ W, RQ C W r p s L → Calls Try.prog 61 #[(.pointer (some ⟨p, 0, none⟩)), (.int .i64 x)] W fun e w' => e = .returned (.int .i64 0) ∧ Chg (fun _ => False) W w') := fun W k => by have := M.out W k; rw [if_pos hw, if_neg hn] at this; exact this
        clear hw hn M
        go_enter Try.func29, Try.ntmps29
        go_wp2_with fail
        refine PL.out.mono ?_
        rintro e w1 ⟨rfl, hc⟩
        have K1 := Lib.hid (K.out.fresh hc)
        replace hc := Lib.hid hc
        go_wp2_with fail
        refine (M1.out w1 K1.out).mono ?_
        rintro e w2 ⟨rfl, hc2⟩
        have P1 := Lib.hid (PC.out w2 (K1.out.fresh hc2))
        replace hc2 := Lib.hid (hc.out.trans hc2)
        go_wp2_with fail
        refine P1.out.mono ?_
        rintro e w3 ⟨rfl, k3, hc3⟩
        have F : Hid (RQok C w r p (relay s (ins b x L), ins b x L, 0) (.returned (.int .i64 0)) w3) := ⟨rfl, k3, (hc2.out.mono fun _ _ h => h.elim).trans hc3⟩
        clear k3 hc3
        go_wp2_with fail
        go_ret
        exact F.out
    · rw [if_neg hw]
      have M1 : Hid (∀ W, RQ C W r p s L → Calls Try.prog 61 #[(.pointer (some ⟨p, 0, none⟩)), (.int .i64 x)] W fun e w' => e = .returned (.int .i64 1) ∧ Chg (fun _ => False) W w') := fun W k => by have := M.out W k; rw [if_neg hw] at this; exact this
      clear hw M
      go_enter Try.func29, Try.ntmps29
      go_wp2_with fail
      refine PL.out.mono ?_
      rintro e w1 ⟨rfl, hc⟩
      have K1 := Lib.hid (K.out.fresh hc)
      replace hc := Lib.hid hc
      go_wp2_with fail
      refine (M1.out w1 K1.out).mono ?_
      rintro e w2 ⟨rfl, hc2⟩
      have F : Hid (RQok C w r p (s, L, 1) (.returned (.int .i64 1)) w2) := ⟨rfl, K1.out.fresh hc2, (hc.out.trans hc2).mono fun _ _ h => h.elim⟩
      clear hc2
      go_wp2_with fail
      go_ret
      exact F.out
  · rw [if_neg hb] at PL ⊢
    replace PL := Lib.hid PL
    clear k hx hm hb
    go_enter Try.func29, Try.ntmps29
    go_wp2_with fail
    refine PL.out.mono ?_
    rintro e w1 ⟨rfl, hc⟩
    have F : Hid (RQok C w r p (s, L, 3) (.returned (.int .i64 3)) w1) := ⟨rfl, K.out.fresh hc, hc.mono fun _ _ h => h.elim⟩
    clear hc
    go_wp2_with fail
    go_ret
    exact F.out
theorem rtail_calls (k : RQ C w r p s L) : Calls Try.prog 30 #[(.pointer (some ⟨p, 0, none⟩))] w fun e w' => e = .returned (.tuple #[.int .i64 (tail L).1, .bool (tail L).2]) ∧ Chg (fun _ => False) w w' := by
  obtain ⟨A, c, c0, c1, -, ho⟩ := k.open
  have hs := ho.sl
  have hm := k.most
  rw [tail_at]
  clear k ho c0
  obtain ⟨n, hn⟩ : ∃ n, L.length = n := ⟨_, rfl⟩
  rw [hn] at c1 hm ⊢
  by_cases h0 : 0 < n
  · rw [if_pos h0]
    obtain ⟨q, hq⟩ : ∃ q, n = q + 1 := ⟨n - 1, by omega⟩
    obtain ⟨ad, rfl, e0⟩ := hs q (by omega)
    rw [show n - 1 = q from by omega]
    generalize L.getD q 0 = y at e0 ⊢
    have e1 : (n : Int) - 1 = q := by omega
    have e2 : ((n : Int) == 0) = false := by rw [beq_eq_false_iff_ne]; omega
    have e3 : (q : Int) < n := by omega
    replace hq := Lib.hid hq
    clear hs hn h0
    go_enter Try.func30, Try.ntmps30
    go_wp2_with fail
    go_quiet (fail)
    go_wp2_with fail
    go_ret2
    exact ⟨rfl, Chg.drewN _ _ _⟩
  · rw [if_neg h0]
    obtain rfl : n = 0 := by omega
    clear hs hn h0
    go_enter Try.func30, Try.ntmps30
    go_wp2_with fail
    go_ret2
    exact ⟨rfl, Chg.refl _ _⟩
end Go.Proofs.Ytfhffffdhlofgaa.Links

/- Chapter 09's reference queue: Remove, Before. -/
namespace Go.Proofs.Ytfhffffdhlofgaa.Links
open Go Go.RowKit Go.Proofs.Ytfhffffdhlofgaa.Mem Go.Proofs.Ytfhffffdhlofgaa.CodecPure Go.Proofs.Ytfhffffdhlofgaa.ArenaPure Go.Proofs.Ytfhffffdhlofgaa.Codec Go.Proofs.Ytfhffffdhlofgaa.Arena Go.Proofs.Ytfhffffdhlofgaa.Item
set_option linter.unusedVariables false
set_option maxRecDepth 100000
variable {C p : Nat} {w w' : World} {r : Ra} {s s' : St} {L L' : List Int}
theorem rbefore_calls (k : RQ C w r p s L) (hnd : L.Nodup) (x : Int) : Calls Try.prog 31 #[(.pointer (some ⟨p, 0, none⟩)), (.int .i64 x)] w fun e w' => e = .returned (.tuple #[.int .i64 (before L x).1, .bool (before L x).2]) ∧ Chg (fun _ => False) w w' := by
  have PL := rplace_calls k x
  have K := Lib.hid k
  have OP : Hid (∀ W, RQ C W r p s L → ∃ A c, W.cell? ⟨p, 1, none⟩ = some (.slice A L.length c) ∧ Sl W .i64 A L) := fun W k => by
    obtain ⟨A, c, -, h1, -, h2⟩ := k.open
    exact ⟨A, c, h1, h2.sl⟩
  unfold placeL at PL
  by_cases hb : x ∈ L
  · rw [if_pos hb] at PL
    have lt := List.idxOf_lt_length_iff.2 hb
    have BA := before_at hnd lt
    have ex : L.getD (L.idxOf x) 0 = x := by rw [List.getD_eq_getElem?_getD, List.getElem?_eq_getElem lt]; exact List.getElem_idxOf lt
    rw [ex] at BA
    rw [BA]
    have hm := k.most
    have hj : L.idxOf x < 1000000 := by omega
    generalize L.idxOf x = j at PL lt hj ⊢
    clear ex BA hb k hnd
    replace lt := Lib.hid lt
    by_cases h0 : 0 < j
    · rw [if_pos h0]
      obtain ⟨q, hq⟩ : ∃ q, j = q + 1 := ⟨j - 1, by omega⟩
      have e1 : (j : Int) - 1 = q := by omega
      have h0' : ¬ (j : Int) < 1 := by omega
      rw [show j - 1 = q from by omega]
      obtain ⟨y, hy⟩ : ∃ y, L.getD q 0 = y := ⟨_, rfl⟩
      rw [hy]
      replace hy := Lib.hid hy
      replace PL := Lib.hid PL
      replace hq := Lib.hid hq
      go_enter Try.func31, Try.ntmps31
      go_wp2_with fail
      refine PL.out.mono ?_
      rintro e w1 ⟨rfl, hc⟩
      obtain ⟨A, c, d1, ds⟩ := OP.out w1 (K.out.fresh hc)
      obtain ⟨ad, rfl, e0⟩ := ds q (by have := lt.out; have := hq.out; omega)
      have ql : (q : Int) < L.length := by have := lt.out; have := hq.out; omega
      replace hc := Lib.hid hc
      rw [hy.out] at e0
      generalize L.length = n at d1 ql hm
      clear ds PL
      go_wp2_with fail
      go_ret2
      exact ⟨rfl, hc.out⟩
    · rw [if_neg h0]
      have h0' : (j : Int) < 1 := by omega
      replace PL := Lib.hid PL
      go_enter Try.func31, Try.ntmps31
      go_wp2_with fail
      refine PL.out.mono ?_
      rintro e w1 ⟨rfl, hc⟩
      replace hc := Lib.hid hc
      go_wp2_with fail
      go_ret2
      exact ⟨rfl, hc.out⟩
  · rw [if_neg hb] at PL
    have BA : before L x = (0, false) := by unfold before; rw [if_neg fun h => hb h.1]
    rw [BA]
    replace PL := Lib.hid PL
    clear k hnd hb BA
    go_enter Try.func31, Try.ntmps31
    go_wp2_with fail
    refine PL.out.mono ?_
    rintro e w1 ⟨rfl, hc⟩
    replace hc := Lib.hid hc
    go_wp2_with fail
    go_ret2
    exact ⟨rfl, hc.out⟩
set_option maxHeartbeats 1000000 in
theorem rremove_calls (k : RQ C w r p s L) (x : Int) (hi : I64 x) : Calls Try.prog 28 #[(.pointer (some ⟨p, 0, none⟩)), (.int .i64 x)] w (RQok C w r p (rremoved s L x)) := by
  have PL := rplace_calls k x
  have K := Lib.hid k
  unfold rremoved
  unfold placeL at PL
  by_cases hb : x ∈ L
  · rw [if_pos hb] at PL ⊢
    have lt := List.idxOf_lt_length_iff.2 hb
    have EE := erase_idx hb
    generalize L.idxOf x = j at PL lt EE
    rw [EE]
    have OP : Hid (∀ W, RQ C W r p s L → ∃ A c, W.cell? ⟨p, 1, none⟩ = some (.slice A L.length c) ∧ W.heap[p]? = some (.cells #[(.pointer (some ⟨r.g, 0, none⟩)), .slice A L.length c] 50 (0, 0)) ∧ Mem.Own W C 3 .i64 (.slice A L.length c) L ∧ p < W.heap.size ∧ C ≤ W.heap.size) := fun W k => by
      obtain ⟨A, c, -, h1, h2, h3⟩ := k.open
      exact ⟨A, c, h1, h2, h3, Nat.lt_of_lt_of_le k.lo.2.2.2.1 k.lo.2.2.2.2, k.lo.2.2.2.2⟩
    obtain ⟨q, hq⟩ : ∃ q, j + 1 + q = L.length := ⟨L.length - (j + 1), by omega⟩
    have hm := k.most
    have IX : Hid (∀ y ∈ L.take j ++ L.drop (j + 1), I64 y) := fun y hy => by
      rcases List.mem_append.1 hy with hy | hy
      · exact k.i64 y (List.mem_of_mem_take hy)
      · exact k.i64 y (List.mem_of_mem_drop hy)
    have t1 : (L.take j).length = j := by rw [List.length_take]; omega
    have t2 : (L.drop (j + 1)).length = q := by rw [List.length_drop]; omega
    obtain ⟨n, hn⟩ : ∃ n, L.length = n := ⟨_, rfl⟩
    rw [hn] at hq hm OP
    replace lt := Lib.hid lt
    replace t1 := Lib.hid t1
    replace t2 := Lib.hid t2
    replace PL := Lib.hid PL
    replace EE := Lib.hid EE
    replace hn := Lib.hid hn
    have hqm : j + 1 + q ≤ 1000000 := by omega
    replace hq := Lib.hid hq
    clear k hb
    have jq := hq.out
    have j1 : (j : Int) ≤ n := by omega
    clear jq
    go_enter Try.func28, Try.ntmps28
    go_wp2_with fail
    refine PL.out.mono ?_
    rintro e w1 ⟨rfl, hc⟩
    have K1 := Lib.hid (K.out.fresh hc)
    replace hc := Lib.hid hc
    obtain ⟨A, c, c1, hb, ho, lt1, lC⟩ := OP.out w1 K1.out
    obtain ⟨S1, d1, run1, sl1, nil1⟩ := slice_to Try.underlying30 elem_int ho j (by have := lt.out; omega)
    obtain ⟨S2, d2, run2, sl2, nil2⟩ := slice_from Try.underlying30 elem_int ho (j + 1) q (by rw [hn.out]; exact hq.out)
    obtain ⟨j2, hj2⟩ : ∃ j2, j + 1 = j2 := ⟨_, rfl⟩
    rw [hj2] at run2
    have wj : IntKind.i64.wrap ((j : Int) + 1) = j2 := by rw [IntWalk.i64_in _ (by omega)]; omega
    replace hj2 := Lib.hid hj2
    have ST := Lib.hid (fun (W : World) (A' : Option Addr) (n' c' : Nat) => K1.out.store (W := W) (A := A') (n := n') (c := c') (L' := L.take j ++ L.drop (j + 1)))
    replace sl1 := Lib.hid sl1
    replace sl2 := Lib.hid sl2
    replace nil1 := Lib.hid nil1
    replace nil2 := Lib.hid nil2
    replace hb := Lib.hid hb
    clear ho PL
    have W0 : Hid (Chg (fun b => w1.heap.size ≤ b) w1 (w1.alloc (.cells #[] 3)).drew) := (Chg.alloc _ _ _).trans (Chg.drew _ _)
    have O0 : Hid (Mem.Own (w1.alloc (.cells #[] 3)).drew w1.heap.size 3 .i64 (.slice (some ⟨w1.heap.size, 0, none⟩) 0 0) []) := (Mem.Own.lit w1 3 .i64 [] (show 0 ≤ maxLen by decide)).chg (Chg.drew (fun _ => False) _) fun _ _ => id
    have Z0 : Hid (w1.heap.size ≤ (w1.alloc (.cells #[] 3)).drew.heap.size) := W0.out.size
    go_wp2_with fail
    go_region_law
      (first
        | (refine step_app (by rfl) _ _ 30 (by rfl) w1.heap.size 3 .i64 8 Try.underlying30 infoInt (.slice (some ⟨w1.heap.size, 0, none⟩) 0 0) [] (by rfl) O0.out S1 _ d1 (L.take j) (by rfl) t1.out (sl1.out.later W0.out (Nat.le_refl _)) nil1.out (by unfold maxLen; simp; omega) (by simp; omega) Z0.out ?_; intro A6 c6 n6 w6 hn6 hown6 hchg6; obtain rfl : j = n6 := (by rw [hn6]; simp); have O6 : Hid (Mem.Own w6 w1.heap.size 3 .i64 (.slice A6 j c6) (L.take j)) := hown6; have K6 : Hid (Chg (fun b => w1.heap.size ≤ b) w1 w6) := (W0.out.trans hchg6); have g1 : w6.cell? ⟨p, 1, none⟩ = some (.slice A n c) := (K6.out.cell c1 (show ¬ w1.heap.size ≤ p by omega)); clear hn6 hown6 hchg6; skip)
        | (refine step_app (by rfl) _ _ 30 (by rfl) w1.heap.size 3 .i64 8 Try.underlying30 infoInt (.slice A6 j c6) (L.take j) (by rfl) O6.out S2 _ d2 (L.drop (j + 1)) (by rfl) t2.out (sl2.out.later K6.out (Nat.le_refl _)) nil2.out (by rw [t1.out]; unfold maxLen; omega) (by rw [t1.out]; omega) (by exact K6.out.size) ?_; intro A8 c8 n8 w8 hn8 hown8 hchg8; have hn8' : Hid (n8 = j + q) := (by rw [hn8, t1.out]; exact rfl); have O8 : Hid (Mem.Own w8 w1.heap.size 3 .i64 (.slice A8 n8 c8) (L.take j ++ L.drop (j + 1))) := hown8; have K8 : Hid (Chg (fun b => w1.heap.size ≤ b) w1 w8) := (K6.out.trans hchg8); have hb8 := (K8.out.keep hb.out (show ¬ w1.heap.size ≤ p by omega)); have g2 : w8.cell? ⟨p, 1, none⟩ = some (.slice A n c) := (by rw [blk_cell hb8]; rfl); have g3 := blk_frozen hb8 1; clear hn8 hown8 hchg8 hb8; skip))
    all_goals
      have tl : (L.take j ++ L.drop (j + 1)).length = j + q := by rw [List.length_append, t1.out, t2.out]
      obtain ⟨k9, C9⟩ := ST.out w8 A8 n8 c8 K8.out (O8.out.mono lC) (by rw [tl]; exact hn8'.out) IX.out (by rw [tl]; omega)
      have GC : Hid (∀ W s', RQ C W r p s' (L.take j ++ L.drop (j + 1)) → W.cell? ⟨p, 0, none⟩ = some (.pointer (some ⟨r.g, 0, none⟩))) := fun W s' k => k.open.choose_spec.choose_spec.1
      clear g1 g2 g3 tl run1 run2 c1
      have C9' : Hid (Chg (fun y => r.has y ∨ y = p) w (w8.setCell ⟨p, 1, none⟩ (.slice A8 n8 c8))) := (hc.out.mono fun _ _ h => h.elim).trans (C9.mono fun _ _ h => .inr h)
      have K9 := Lib.hid k9
      clear k9 C9
      generalize w8.setCell ⟨p, 1, none⟩ (.slice A8 n8 c8) = w9 at K9 C9' ⊢
      have d0 := GC.out w9 s K9.out
      have SA := Lib.hid (refset_calls K9.out.ref x 1 (-1) hi (by decide))
      go_wp2_with fail
      refine SA.out.mono ?_
      rintro e w10 ⟨rfl, l10, c10⟩
      have K10 := Lib.hid (K9.out.arena l10 c10)
      have C10 : Hid (Chg (fun y => r.has y ∨ y = p) w w10) := C9'.out.trans (c10.mono fun _ _ h => .inl h)
      have SB := Lib.hid (refset_calls l10 x 2 (-1) hi (by decide))
      clear l10 c10 SA d0
      have d0 := GC.out w10 _ K10.out
      generalize (itemSet s x 1 (-1)).2 = er1
      go_wp2_with fail
      refine SB.out.mono ?_
      rintro e w11 ⟨rfl, l11, c11⟩
      have K11 := Lib.hid (K10.out.arena l11 c11)
      have C11 : Hid (Chg (fun y => r.has y ∨ y = p) w w11) := C10.out.trans (c11.mono fun _ _ h => .inl h)
      clear l11 c11 SB d0
      generalize (itemSet (itemSet s x 1 (-1)).1 x 2 (-1)).2 = er2
      go_wp2_with fail
      refine (rlay_calls K11.out).mono ?_
      rintro e w12 ⟨rfl, k12, c12⟩
      have F : Hid (RQok C w r p (relay (unlink s x) (L.take j ++ L.drop (j + 1)), L.take j ++ L.drop (j + 1), 0) (.returned (.int .i64 0)) w12) := ⟨rfl, k12, C11.out.trans (c12.mono fun _ _ h => .inl h)⟩
      clear k12 c12
      go_wp2_with fail
      go_ret
      exact F.out
  · rw [if_neg hb] at PL ⊢
    replace PL := Lib.hid PL
    clear k hb
    go_enter Try.func28, Try.ntmps28
    go_wp2_with fail
    refine PL.out.mono ?_
    rintro e w1 ⟨rfl, hc⟩
    have F : Hid (RQok C w r p (s, L, 3) (.returned (.int .i64 3)) w1) := ⟨rfl, K.out.fresh hc, hc.mono fun _ _ h => h.elim⟩
    clear hc
    go_wp2_with fail
    go_ret
    exact F.out
end Go.Proofs.Ytfhffffdhlofgaa.Links

/- The walk of the law LinksDoes: it returns true at any acts. -/
namespace Go.Proofs.Ytfhffffdhlofgaa.Links
open Go Go.RowKit Go.Proofs.Ytfhffffdhlofgaa.Mem Go.Proofs.Ytfhffffdhlofgaa.CodecPure Go.Proofs.Ytfhffffdhlofgaa.ArenaPure Go.Proofs.Ytfhffffdhlofgaa.Codec Go.Proofs.Ytfhffffdhlofgaa.Arena Go.Proofs.Ytfhffffdhlofgaa.Item
set_option linter.unusedVariables false
set_option maxRecDepth 100000
variable {B C p : Nat} {w0 w w' : World} {a : Ar} {r : Ra} {h : Qh} {s s' s2 : St} {L L' L2 : List Int}
/-- the program's queue and the reference's, apart from one another -/
structure QR (B : Nat) (w0 w : World) (a : Ar) (r : Ra) (h : Qh) (p C : Nat) (s : St) (L : List Int) (s' : St) (L' : List Int) : Prop where
  q : QA B w0 w a h s L
  rq : RQ C w r p s' L'
  sepq : ∀ x, Q2 a h x → x < C ∧ x ≠ r.g ∧ x ≠ r.o ∧ x ≠ r.b ∧ x ≠ p
  sepr : ∀ y, (y = r.g ∨ r.has y ∨ y = p) → B ≤ y ∧ y ≠ a.g ∧ y ≠ a.ps ∧ y ∉ a.pb ∧ y ≠ h.q ∧ y ≠ h.m
theorem QA.other {S : Nat → Prop} (k : QA B w0 w a h s L) (hc : Chg S w w') (hS : ∀ y, S y → B ≤ y ∧ y ≠ a.g ∧ y ≠ a.ps ∧ y ∉ a.pb ∧ y ≠ h.q ∧ y ≠ h.m) : QA B w0 w' a h s L := by
  have hl : Lies w' a s := k.here.lies.chg hc (fun e => (hS _ e).2.1 rfl) (fun e => (hS _ e).2.2.1 rfl) fun b hb e => (hS _ e).2.2.2.1 hb
  exact ⟨⟨hl, k.here.chg.trans (hc.mono fun b _ hb => (hS b hb).1), k.here.low⟩,
   ⟨hl, k.q.li, hc.keep k.q.head fun e => (hS _ e).2.2.2.2.1 rfl, k.q.set.chg hc fun e => (hS _ e).2.2.2.2.2 rfl, k.q.out⟩, k.low, k.mult, k.own, k.clean⟩
theorem QR.opQ (k : QR B w0 w a r h p C s L s' L') (hq : QA B w0 w' a h s2 L2) (hc : Chg (Q2 a h) w w') : QR B w0 w' a r h p C s2 L2 s' L' :=
  ⟨hq, k.rq.chg hc k.sepq, k.sepq, k.sepr⟩
theorem QR.opR (k : QR B w0 w a r h p C s L s' L') (hq : RQ C w' r p s2 L2) (hc : Chg (fun y => r.has y ∨ y = p) w w') : QR B w0 w' a r h p C s L s2 L2 :=
  ⟨k.q.other hc fun y hy => k.sepr y (.inr hy), hq, k.sepq, k.sepr⟩
theorem QR.fresh (k : QR B w0 w a r h p C s L s' L') (hc : Chg (fun _ => False) w w') : QR B w0 w' a r h p C s L s' L' :=
  ⟨k.q.fresh hc, k.rq.fresh hc, k.sepq, k.sepr⟩
theorem QR.two (k : QR B w0 w a r h p C s L s L) : Two B w0 w a r s s :=
  ⟨k.q.here, k.rq.ref, ⟨(k.sepr _ (.inl rfl)).1, (k.sepr _ (.inr (.inl (.inl rfl)))).1, (k.sepr _ (.inr (.inl (.inr rfl)))).1⟩, fun x hx => by
    have := k.sepr x (by
      rcases hx with e | e | e
      · exact .inl e
      · exact .inr (.inl (.inl e))
      · exact .inr (.inl (.inr e)))
    exact ⟨this.2.1, this.2.2.1, this.2.2.2.1⟩⟩
/-- both queues, without items -/
theorem QR.start {w1 w2 : World} (T : Two B w0 w1 a r s s) (k : QA B w0 w2 a h s []) (hc : Chg (fun _ => False) w1 w2) (h1 : w1.heap.size ≤ h.q) (h2 : w1.heap.size ≤ h.m) :
    QR B w0 (w2.alloc (.cells #[(.pointer (some ⟨r.g, 0, none⟩)), .slice none 0 0] 50)) a r h w2.heap.size (w2.heap.size + 1) s [] s [] := by
  have rg := blk_lt T.ref.head
  have ro := T.ref.o_lt
  have rb := T.ref.b_lt
  have sz := hc.size
  have bl := k.blocks
  have hl := T.ref.chg (hc.trans (Chg.alloc (fun _ => False) w2 (.cells #[(.pointer (some ⟨r.g, 0, none⟩)), .slice none 0 0] 50))) id id id
  have hb := heap_alloc_at w2 (.cells #[(.pointer (some ⟨r.g, 0, none⟩)), .slice none 0 0] 50)
  have ap := T.apart
  have lo := T.low
  refine ⟨k.fresh (Chg.alloc _ _ _), ⟨hl, ⟨none, 0, hb, Mem.Own.nil _ _ _ _⟩, ⟨by omega, by omega, by omega, by omega, by simp⟩, ⟨by omega, by omega, by omega⟩, fun x hx => by simp at hx, by simp⟩, fun x hx => ?_, fun y hy => ?_⟩
  · have lt := k.q2_lt x hx
    refine ⟨by omega, fun e => ?_, fun e => ?_, fun e => ?_, by omega⟩
    · rcases hx with hx | hx | hx
      · exact (ap r.g (.inl rfl)).2.2 (e ▸ hx)
      · omega
      · omega
    · rcases hx with hx | hx | hx
      · exact (ap r.o (.inr (.inl rfl))).2.2 (e ▸ hx)
      · omega
      · omega
    · rcases hx with hx | hx | hx
      · exact (ap r.b (.inr (.inr rfl))).2.2 (e ▸ hx)
      · omega
      · omega
  · rcases hy with e | (e | e) | e
    · have := ap y (.inl e); subst e; exact ⟨lo.1, this.1, this.2.1, this.2.2, by omega, by omega⟩
    · have := ap y (.inr (.inl e)); subst e; exact ⟨lo.2.1, this.1, this.2.1, this.2.2, by omega, by omega⟩
    · have := ap y (.inr (.inr e)); subst e; exact ⟨lo.2.2, this.1, this.2.1, this.2.2, by omega, by omega⟩
    · subst e
      exact ⟨by omega, by omega, by omega, fun hm => by have := bl.2.2.1 _ hm; omega, by omega, by omega⟩
/-- a chunk's place out of a number -/
def chunkOf (n : Int) : Int := if n < 0 ∨ 1000 ≤ n then n else 64 * n
theorem chunk_calls (n : Int) (w : World) : Calls Try.prog 26 #[(.int .i64 n)] w fun e w' => e = .returned (.int .i64 (chunkOf n)) ∧ w = w' := by
  unfold chunkOf
  by_cases h : n < 0 ∨ 1000 ≤ n
  · rw [if_pos h]
    rcases h with h | h
    · go_enter Try.func26, Try.ntmps26
      go_wp2
      go_ret
      exact ⟨rfl, rfl⟩
    · have h' : ¬ n < 0 := by omega
      go_enter Try.func26, Try.ntmps26
      go_wp2
      go_ret
      exact ⟨rfl, rfl⟩
  · rw [if_neg h]
    have h1 : ¬ n < 0 := by omega
    have h2 : n < 1000 := by omega
    clear h
    go_enter Try.func26, Try.ntmps26
    go_wp2
    go_ret
    exact ⟨rfl, rfl⟩
theorem chunk_same (n : Int) (w : World) : Calls Try.prog 26 #[(.int .i64 n)] w fun e w' => e = .returned (.int .i64 (chunkOf n)) ∧ w' = w := (chunk_calls n w).mono fun _ _ ⟨h1, h2⟩ => ⟨h1, h2.symm⟩
/-- not in between -/
def FarOk (n : Int) : Prop := ¬ (1000 ≤ n ∧ n < 1048576)
theorem FarOk.chunk {n : Int} (h : FarOk n) (hi : I64 n) : Chunk (chunkOf n) ∧ I64 (chunkOf n) := by
  unfold FarOk at h
  unfold chunkOf I64 Chunk at *
  split <;> omega
def FarEnd (w : World) (n : Nat) (l : List (List Int)) (e : Ending) (w' : World) : Prop := ∃ b : Bool, e = .returned (.bool b) ∧ (b = false → ∀ i, i < n → FarOk ((l.getD i []).getD 1 0) ∧ FarOk ((l.getD i []).getD 2 0)) ∧ Chg (fun _ => False) w w'
theorem FarEnd.yes {n : Nat} {l : List (List Int)} {e : Ending} (he : e = .returned (.bool true)) (hc : Chg (fun _ => False) w w') : FarEnd w n l e w' := ⟨true, he, (fun h => by cases h), hc⟩
theorem FarEnd.no {n : Nat} {l : List (List Int)} {e : Ending} (h : ∀ i, i < n → FarOk ((l.getD i []).getD 1 0) ∧ FarOk ((l.getD i []).getD 2 0)) (he : e = .returned (.bool false)) (hc : Chg (fun _ => False) w w') : FarEnd w n l e w' := ⟨false, he, (fun _ => h), hc⟩
set_option maxHeartbeats 1000000 in
theorem far_calls (A : Option Addr) (c : Nat) (l : List (List Int)) (w : World) (hl : SRow w [.i64, .i64, .i64] A c l) :
    Calls Try.prog 25 #[.slice A l.length c] w (FarEnd w l.length l) := by
  have hlm : l.length ≤ 9223372036854775807 := Nat.le_trans hl.cap hl.most
  replace hl := Lib.hid hl
  obtain ⟨n, hn⟩ : ∃ n, l.length = n := ⟨_, rfl⟩
  rw [hn] at hlm ⊢
  replace hn := Lib.hid hn
  go_enter Try.func25, Try.ntmps25
  go_wp2_with fail
  go_loopg [3] n (fun g i wr => ∃ k : Nat, i = .int .i64 k ∧ g = n - k ∧ k ≤ n ∧ Hid (Dr w wr) ∧ Hid (∀ i, i < k → FarOk ((l.getD i []).getD 1 0) ∧ FarOk ((l.getD i []).getD 2 0)))
  case atStart => exact ⟨0, rfl, rfl, by omega, Dr.refl w, fun i hi => by omega⟩
  case round =>
    obtain ⟨k, rfl, hg, hk, HD, HN⟩ := hrel
    obtain ⟨wo, rfl⟩ : ∃ wo : World, wo = wr := ⟨_, rfl⟩
    replace hg := Lib.hid hg
    have C0 := Lib.hid (HD.out.chg (fun _ => False))
    by_cases h1 : k < n
    · have h1' : (k : Int) < n := by omega
      have SR := hl.out.chg (C0.out.mono (T := fun b => w.heap.size ≤ b) fun _ _ h => h.elim) (Nat.le_refl _)
      obtain ⟨ad, rfl, d0, d1⟩ := SR.fields k (by rw [hn.out]; exact h1) (by decide)
      have f1 := d1 0 .i64 rfl
      have f2 := d1 1 .i64 rfl
      simp only [List.length_cons, List.length_nil, Nat.reduceAdd, Nat.zero_add] at f1 f2
      clear d0 d1 SR
      obtain ⟨x, hx⟩ : ∃ x, (l.getD k []).getD 1 0 = x := ⟨_, rfl⟩
      obtain ⟨y, hy⟩ : ∃ y, (l.getD k []).getD 2 0 = y := ⟨_, rfl⟩
      rw [hx] at f1
      rw [hy] at f2
      replace hx := Lib.hid hx
      replace hy := Lib.hid hy
      by_cases ok : FarOk x ∧ FarOk y
      · have HN2 : Hid (∀ i, i < k + 1 → FarOk ((l.getD i []).getD 1 0) ∧ FarOk ((l.getD i []).getD 2 0)) := fun i hi => by
          by_cases e : i = k
          · rw [e, hx.out, hy.out]; exact ok
          · exact HN.out i (by omega)
        obtain ⟨o1, o2⟩ := ok
        unfold FarOk at o1 o2
        have e1 : x < 1000 ∨ (1000 ≤ x ∧ ¬ x < 1048576) := by omega
        have e2 : y < 1000 ∨ (1000 ≤ y ∧ ¬ y < 1048576) := by omega
        clear o1 o2
        rcases e1 with e1 | ⟨e1, e1'⟩ <;> rcases e2 with e2 | ⟨e2, e2'⟩ <;>
        (go_wp2_with fail
         go_roundg (n - (k + 1))
         case measure => have := hg.out; omega
         case rel => exact ⟨k + 1, rfl, rfl, by omega, HD.out, HN2.out⟩)
      · have e : (1000 ≤ x ∧ x < 1048576) ∨ (x < 1000 ∧ 1000 ≤ y ∧ y < 1048576) ∨ (1000 ≤ x ∧ ¬ x < 1048576 ∧ 1000 ≤ y ∧ y < 1048576) := by unfold FarOk at ok; omega
        clear ok
        rcases e with ⟨e1, e2⟩ | ⟨e1, e2, e3⟩ | ⟨e1, e2, e3, e4⟩ <;>
        (go_wp2_with fail
         go_ret
         exact FarEnd.yes rfl C0.out)
    · have h1' : ¬ (k : Int) < n := by omega
      go_wp2_with fail
      go_ret
      exact FarEnd.no (fun i hi => HN.out i (by omega)) rfl C0.out
theorem SRow.wf_i64 {w : World} {A : Option Addr} {c : Nat} {l : List (List Int)} (h : SRow w [.i64, .i64, .i64] A c l) (i : Nat) (hi : i < l.length) (j : Nat) (hj : j < 3) : I64 ((l.getD i []).getD j 0) := by
  have := h.wf i hi j .i64 (by
    match j, hj with
    | 0, _ => rfl
    | 1, _ => rfl
    | 2, _ => rfl)
  have := bounds_i64 this
  unfold I64; omega
theorem insL_len (L : List Int) (b x : Int) : (insL L b x).1.length ≤ L.length + 1 := by
  unfold insL
  split
  · split
    · split
      · exact Nat.le_succ _
      · rename_i h _ _
        rw [ins_idx h, List.length_append, List.length_append, List.length_take, List.length_drop, List.length_singleton]
        have := List.idxOf_lt_length_iff.2 h
        omega
    · exact Nat.le_succ _
  · exact Nat.le_succ _
set_option maxHeartbeats 1000000 in
theorem does_walk (A : Option Addr) (c : Nat) (l : List (List Int)) (w : World) (hl : SRow w [.i64, .i64, .i64] A c l) :
    Calls Try.prog 7 #[.slice A l.length c] w fun e w' => e = .returned (.bool true) ∧ Below w.heap.size w w' := by
  have hlm : l.length ≤ 9223372036854775807 := Nat.le_trans hl.cap hl.most
  have FC := far_calls A c l w hl
  replace hl := Lib.hid hl
  obtain ⟨n, hn⟩ : ∃ n, l.length = n := ⟨_, rfl⟩
  rw [hn] at hlm FC ⊢
  replace hn := Lib.hid hn
  replace FC := Lib.hid FC
  go_enter Try.func7, Try.ntmps7
  go_wp2_with fail
  refine FC.out.mono ?_
  rintro e wa ⟨b, rfl, HF, hc⟩
  have CA := Lib.hid hc
  clear hc FC
  cases b with
  | true =>
    clear HF
    go_wp2_with fail
    go_ret
    exact ⟨rfl, CA.out.below (Nat.le_refl _) fun _ h => h.elim⟩
  | false =>
  replace HF := Lib.hid (HF rfl)
  go_wp2_with fail
  refine (made_calls 2 wa 2 (by decide) small2.1 small2.2).mono ?_
  rintro e w1 ⟨a, r, rfl, T⟩
  replace T := Lib.hid T
  go_wp2_with fail
  refine (QA.start T.out).mono ?_
  rintro e w2 ⟨h, rfl, H0, hc, h1, h2⟩
  have K0 := Lib.hid (QR.start T.out H0 hc h1 h2)
  clear H0 hc h1 h2 T
  obtain ⟨p, hp⟩ : ∃ p, p = w2.heap.size := ⟨_, rfl⟩
  rw [← hp] at K0
  go_wp2_with fail
  rw [← hp]
  replace hp := Lib.hid hp
  go_loopg [8] 60 (fun g i wr => ∃ (k : Nat) (s : St) (L : List Int), i = .int .i64 k ∧ g = 60 - k ∧ k ≤ 60 ∧ k ≤ n ∧ L.length ≤ k ∧ Hid (QR wa.heap.size wa wr a r h p (p + 1) s L s L))
  case atStart => exact ⟨0, _, [], rfl, rfl, by omega, by omega, by simp, K0.out⟩
  case round =>
    obtain ⟨k, s, L, rfl, hg, hk, hkn, hL, H1⟩ := hrel
    obtain ⟨wo, rfl⟩ : ∃ wo : World, wo = wr := ⟨_, rfl⟩
    replace hg := Lib.hid hg
    replace hL := Lib.hid hL
    by_cases hlt : k < n ∧ k < 60
    · obtain ⟨h1, h2⟩ := hlt
      have h1' : (k : Int) < n := by omega
      have h2' : (k : Int) < 60 := by omega
      have CC : Chg (fun b => w.heap.size ≤ b) w wo := (CA.out.mono fun _ _ h => h.elim).trans (H1.out.q.here.chg.mono fun b _ hb => Nat.le_trans CA.out.size hb)
      have SR := hl.out.chg CC (Nat.le_refl _)
      obtain ⟨ad, rfl, d0, d1⟩ := SR.fields k (by rw [hn.out]; exact h1) (by decide)
      have f0 := d0 .i64 rfl
      have f1 := d1 0 .i64 rfl
      have f2 := d1 1 .i64 rfl
      simp only [List.length_cons, List.length_nil, Nat.reduceAdd, Nat.zero_add] at f0 f1 f2
      have i1 := SRow.wf_i64 hl.out k (by rw [hn.out]; exact h1) 1 (by decide)
      have i2 := SRow.wf_i64 hl.out k (by rw [hn.out]; exact h1) 2 (by decide)
      have o := HF.out k h1
      clear d0 d1 SR CC
      generalize (l.getD k []).getD 0 0 = kind at f0
      generalize (l.getD k []).getD 1 0 = x1 at f1 i1 o
      generalize (l.getD k []).getD 2 0 = x2 at f2 i2 o
      have ck1 := Lib.hid (o.1.chunk i1)
      have ck2 := Lib.hid (o.2.chunk i2)
      clear o i1 i2 K0 CA hl HF
      go_wp2_with fail
      go_quiet ((go_at_call 26; exact Calls.quiet_of_same (chunk_same _ _)))
      have OC : Hid (Chg (fun _ => False) wo ((wo.alloc (.cells #[.int .i64 kind, .int .i64 x1, .int .i64 x2] 33)).drewN nq)) := (Chg.alloc _ _ _).trans (Chg.drewN _ _ _)
      have H2 := Lib.hid (H1.out.fresh OC.out)
      have FB : Hid (((wo.alloc (.cells #[.int .i64 kind, .int .i64 x1, .int .i64 x2] 33)).drewN nq).heap[wo.heap.size]? = some (.cells #[.int .i64 kind, .int .i64 x1, .int .i64 x2] 33 (0, 0))) := heap_alloc_at _ _
      have g0 : ((wo.alloc (.cells #[.int .i64 kind, .int .i64 x1, .int .i64 x2] 33)).drewN nq).cell? ⟨wo.heap.size, 0, none⟩ = some ((.int .i64 kind)) := by rw [blk_cell FB.out]; rfl
      clear OC FB H1 f0 f1 f2
      generalize chunkOf x1 = x at ck1 ⊢
      generalize chunkOf x2 = y at ck2 ⊢
      generalize (wo.alloc (.cells #[.int .i64 kind, .int .i64 x1, .int .i64 x2] 33)).drewN nq = w4 at H2 g0 ⊢
      have lm : L.length < 1000000 := by have := hL.out; omega
      have LI0 := Lib.hid H2.out.q.q.li
      have AP := Lib.hid (H2.out.q.ap ck1.out.1)
      go_upto_block 2 with fail
      go_cut [] (fun wx => ∃ (s2 : St) (L2 : List Int), Hid (L2.length ≤ k + 1) ∧ Hid (QR wa.heap.size wa wx a r h p (p + 1) s2 L2 s2 L2))
      case first =>
        have ACT : ∀ (z : St × List Int × Int) (w5 : World), Hid (z.2.1.length ≤ k + 1) → QA wa.heap.size wa w5 a h z.1 z.2.1 → Chg (Q2 a h) w4 w5 → Hid (QR wa.heap.size wa w5 a r h p (p + 1) z.1 z.2.1 s L) := fun z w5 _ hq hc => H2.out.opQ hq hc
        replace ACT := Lib.hid ACT
        by_cases e0 : kind = 0
        · have t0 : (kind == 0) = true := by rw [e0]; rfl
          clear e0
          have P := Lib.hid (H2.out.q.push ck1.out.1 ck1.out.2)
          have RP := Lib.hid (fun W (k : RQ (p + 1) W r p s L) => rpush_calls k x ck1.out.2 lm)
          rw [rpushed_eq LI0.out AP.out] at RP
          have z : Hid ((pushed s L x).2.1.length ≤ k + 1) := by rw [H2.out.q.pushed ck1.out.1]; have := pushL_len L x; have := hL.out; show _ ≤ _; omega
          generalize pushed s L x = z' at P RP z
          clear AP LI0
          go_wp2_with fail
          refine P.out.mono ?_
          rintro e w5 ⟨rfl, hq, hc⟩
          have H5 := ACT.out z' w5 z hq hc
          clear hq hc P
          go_wp2_with fail
          refine (RP.out w5 H5.out.rq).mono ?_
          rintro e w6 ⟨rfl, hr, hc⟩
          have H6 := Lib.hid (H5.out.opR hr hc)
          clear hr hc RP g0
          go_wp2_with fail
          go_meet
          exact ⟨_, _, z, H6.out⟩
        · have t0 : (kind == 0) = false := by rw [beq_eq_false_iff_ne]; exact e0
          clear e0
          by_cases e1 : kind = 1
          · have t1 : (kind == 1) = true := by rw [e1]; rfl
            clear e1
            have P := Lib.hid (H2.out.q.remove x)
            have RP := Lib.hid (fun W (k : RQ (p + 1) W r p s L) => rremove_calls k x ck1.out.2)
            rw [rremoved_eq LI0.out] at RP
            have z : Hid ((removed s L x).2.1.length ≤ k + 1) := by rw [removed_L]; have := remL_len L x; have := hL.out; show _ ≤ _; omega
            generalize removed s L x = z' at P RP z
            clear AP LI0
            go_wp2_with fail
            refine P.out.mono ?_
            rintro e w5 ⟨rfl, hq, hc⟩
            have H5 := ACT.out z' w5 z hq hc
            clear hq hc P
            go_wp2_with fail
            refine (RP.out w5 H5.out.rq).mono ?_
            rintro e w6 ⟨rfl, hr, hc⟩
            have H6 := Lib.hid (H5.out.opR hr hc)
            clear hr hc RP g0
            go_wp2_with fail
            go_meet
            exact ⟨_, _, z, H6.out⟩
          · have t1 : (kind == 1) = false := by rw [beq_eq_false_iff_ne]; exact e1
            clear e1
            have P := Lib.hid (H2.out.q.insert (b := y) ck1.out.1 ck2.out.2 ck1.out.2)
            have RP := Lib.hid (fun W (k : RQ (p + 1) W r p s L) => rinsert_calls k y x ck1.out.2 lm)
            rw [rinserted_eq LI0.out AP.out] at RP
            have z : Hid ((inserted s L y x).2.1.length ≤ k + 1) := by rw [H2.out.q.inserted ck1.out.1]; have := insL_len L y x; have := hL.out; show _ ≤ _; omega
            generalize inserted s L y x = z' at P RP z
            clear AP LI0
            go_wp2_with fail
            refine P.out.mono ?_
            rintro e w5 ⟨rfl, hq, hc⟩
            have H5 := ACT.out z' w5 z hq hc
            clear hq hc P
            go_wp2_with fail
            refine (RP.out w5 H5.out.rq).mono ?_
            rintro e w6 ⟨rfl, hr, hc⟩
            have H6 := Lib.hid (H5.out.opR hr hc)
            clear hr hc RP g0
            go_wp2_with fail
            go_meet
            exact ⟨_, _, z, H6.out⟩
      case rest =>
        obtain ⟨s2, L2, HL2, H8⟩ := hcut
        clear g0 H2 LI0 AP
        have T1 := Lib.hid (tail_calls H8.out.q.q)
        have T2 := Lib.hid (rtail_calls H8.out.rq)
        have B1 := Lib.hid (fun W (k : QR wa.heap.size wa W a r h p (p + 1) s2 L2 s2 L2) => before_calls k.q.q x)
        have B2 := Lib.hid (fun W (k : QR wa.heap.size wa W a r h p (p + 1) s2 L2 s2 L2) => rbefore_calls k.rq k.q.q.li.nodup x)
        have HA1 := Lib.hid (fun W (k : QR wa.heap.size wa W a r h p (p + 1) s2 L2 s2 L2) => has_calls k.q.q x)
        have HA2 := Lib.hid (fun W (k : QR wa.heap.size wa W a r h p (p + 1) s2 L2 s2 L2) => rhas_calls k.rq x)
        generalize (tail L2).1 = t1 at T1 T2
        generalize (tail L2).2 = t2 at T1 T2
        generalize (before L2 x).1 = t3 at B1 B2
        generalize (before L2 x).2 = t4 at B1 B2
        generalize decide (x ∈ L2) = t5 at HA1 HA2
        go_wp2_with fail
        refine T1.out.mono ?_
        rintro e w5 ⟨rfl, rfl⟩
        clear T1
        go_wp2_with fail
        refine T2.out.mono ?_
        rintro e w5 ⟨rfl, hc⟩
        have H9 := Lib.hid (H8.out.fresh hc)
        clear hc T2 H8
        go_wp2_with fail
        refine (B1.out w5 H9.out).mono ?_
        rintro e w6 ⟨rfl, hc⟩
        have H10 := Lib.hid (H9.out.fresh hc)
        clear hc B1 H9
        go_wp2_with fail
        refine (B2.out w6 H10.out).mono ?_
        rintro e w7 ⟨rfl, hc⟩
        have H11 := Lib.hid (H10.out.fresh hc)
        clear hc B2 H10
        obtain ⟨m, hm⟩ : ∃ m, L2.length = m := ⟨_, rfl⟩
        have hm60 : m ≤ 1000000 := by have := HL2.out; omega
        obtain ⟨A2, c2, -, g7, -, o7⟩ := H11.out.rq.open
        rw [hm] at g7
        replace hm := Lib.hid hm
        have S7 := Lib.hid o7.sl
        have H11d := Lib.hid (H11.out.fresh (Chg.drew _ w7))
        have g7d : (World.drew w7).cell? ⟨p, 1, none⟩ = some (.slice A2 m c2) := (Chg.drew (fun _ => False) w7).cell g7 id
        have S7d : Hid (Sl (World.drew w7) .i64 A2 L2) := S7.out.chg (Chg.drew (fun _ => False) w7) fun _ _ => id
        clear o7
        go_wp2_with fail
        go_region_held3 (fun w' => w'.cell? ⟨p, 1, none⟩ = some (.slice A2 m c2)) (go_keep)
          (first
            | (go_at_call 23; refine (HA1.out _ H11d.out).mono ?_; rintro e w8 ⟨rfl, rfl⟩; skip)
            | (go_at_call 32; refine (HA2.out _ H11d.out).mono ?_; rintro e w8 ⟨rfl, hc⟩; have H12 := Lib.hid (H11d.out.fresh hc); have g8 : w8.cell? ⟨p, 1, none⟩ = some (.slice A2 m c2) := (hc.cell g7d id); have S8 := Lib.hid (S7d.out.chg hc fun _ _ => id); clear hc; skip)
            | (go_at_call 18; refine (H12.out.q.lenE hm.out).mono ?_; rintro e w9 ⟨rfl, rfl⟩; skip)
            | (go_at_call 19; refine (H12.out.q.listE hm.out hm60).mono ?_; rintro e w9 ⟨A3, c3, rfl, O9, -, hc⟩; have H13 := Lib.hid (H12.out.fresh hc); have g9 : w9.cell? ⟨p, 1, none⟩ = some (.slice A2 m c2) := (hc.cell g8 id); have S9 := Lib.hid (S8.out.chg hc fun _ _ => id); have SO := Lib.hid O9.sl; have Z9 := same06_calls (c := c3) (d := c2) SO.out S9.out (by rw [hm.out]; exact hm60); rw [hm.out] at Z9; replace Z9 := Lib.hid Z9; clear hc O9; skip)
            | (go_at_call 21; refine Z9.out.mono ?_; rintro e w10 ⟨rfl, hd⟩; have H14 := Lib.hid (H13.out.fresh (hd.chg _)); have g10 : w10.cell? ⟨p, 1, none⟩ = some (.slice A2 m c2) := ((hd.chg (fun _ => False)).cell g9 id); clear hd; skip))
        clear g7 g7d g8 g9 g10
        go_wp2_with fail
        go_roundg (60 - (k + 1))
        case measure => have := hg.out; omega
        case rel => exact ⟨k + 1, s2, L2, rfl, rfl, by omega, by omega, HL2.out, H14.out⟩
    · have hend : ((n : Int) ≤ k) ∨ ((k : Int) < n ∧ ¬ (k : Int) < 60) := by omega
      have SC := Lib.hid (same_calls H1.out.two)
      have CB : Hid (∀ W, Chg (fun b => wa.heap.size ≤ b) wa W → Below w.heap.size w W) := fun W hc => ((CA.out.mono fun _ _ h => h.elim).trans (hc.mono fun b _ hb => Nat.le_trans CA.out.size hb)).below (Nat.le_refl _) fun _ h => h
      clear hg hlt hL K0 hl HF H1
      rcases hend with he | ⟨he, he2⟩ <;>
      (go_wp2_with fail
       refine SC.out.mono ?_
       rintro e w5 ⟨rfl, ht⟩
       have F := Lib.hid (CB.out w5 ht.here.chg)
       clear ht SC
       go_wp2_with fail
       go_ret
       exact ⟨rfl, F.out⟩)
end Go.Proofs.Ytfhffffdhlofgaa.Links

