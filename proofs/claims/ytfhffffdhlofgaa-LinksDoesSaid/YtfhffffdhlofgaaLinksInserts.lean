/- The walk of the law LinksInserts: it returns true at any number and any places. -/
import Derived.Test.YtfhffffdhlofgaaLinksThreads
import Derived.Test.YtfhffffdhlofgaaSlice
namespace Go.Proofs.Ytfhffffdhlofgaa.Links
open Go Go.RowKit Go.Proofs.Ytfhffffdhlofgaa.Mem Go.Proofs.Ytfhffffdhlofgaa.CodecPure Go.Proofs.Ytfhffffdhlofgaa.ArenaPure Go.Proofs.Ytfhffffdhlofgaa.Codec Go.Proofs.Ytfhffffdhlofgaa.Arena Go.Proofs.Ytfhffffdhlofgaa.Item
set_option linter.unusedVariables false
set_option maxRecDepth 100000
variable {B : Nat} {w0 w w' : World} {a : Ar} {h : Qh} {s : St} {L : List Int}
/-- the queue's items are the chunks below i -/
structure Full (L : List Int) (i : Nat) : Prop where
  len : L.length = i
  below : ∀ y ∈ L, y < 64 * (i : Int)
theorem Full.push {L : List Int} {i : Nat} (h : Full L i) (hi : i < 48) : pushL L (64 * (i : Int)) = (64 * (i : Int) :: L, 0) ∧ Full (64 * (i : Int) :: L) (i + 1) := by
  have hm : 64 * (i : Int) ∉ L := fun q => by have := h.below _ q; omega
  refine ⟨?_, by rw [List.length_cons, h.len], fun y hy => ?_⟩
  · unfold pushL
    rw [if_pos (by omega), if_neg hm]
  · rcases List.mem_cons.1 hy with rfl | hy
    · omega
    · have := h.below _ hy; omega
theorem idx_eq {L A C : List Int} {x : Int} (h : L = A ++ x :: C) (hx : x ∉ A) : L.idxOf x = A.length := by
  subst h; exact idx_mid hx
theorem ins_at {L : List Int} (hn : L.Nodup) {k : Nat} (hk : k < L.length) (x : Int) : ins (L.getD k 0) x L = L.take (k + 1) ++ [x] ++ L.drop (k + 1) := by
  have e : L = L.take k ++ L.getD k 0 :: L.drop (k + 1) := by
    have := (List.take_append_drop k L).symm
    rw [List.drop_eq_getElem_cons hk] at this
    rw [List.getD_eq_getElem?_getD, List.getElem?_eq_getElem hk]
    exact this
  have e2 : L.take (k + 1) = L.take k ++ [L.getD k 0] := by
    rw [List.getD_eq_getElem?_getD, List.getElem?_eq_getElem hk]
    exact List.take_succ_eq_append_getElem hk
  obtain ⟨A, C, h1, h2, h3, -⟩ := split_at (L.getD k 0) L (mem_at hk)
  have eA : A = L.take k ∧ C = L.drop (k + 1) := by
    have hx : L.getD k 0 ∉ L.take k := fun hm => by
      have hnd := hn
      rw [e] at hnd
      exact (List.nodup_append.1 hnd).2.2 _ hm _ (by simp) rfl
    have l1 := idx_eq h1 h2
    have l2 := idx_eq e hx
    have := List.append_inj (h1.symm.trans e) (by omega)
    exact ⟨this.1, by injection this.2⟩
  rw [h3, e2, eA.1, eA.2]
  simp
theorem own_off {W : World} {base : Nat} {e : TypeId} {A : Option Addr} {n c : Nat} {l : List Int} (ho : Mem.Own W base e .i64 (.slice A n c) l) (hoff : ∀ x, Q2 a h x → x < base) : ∀ g, (Value.slice A n c).ownBlock = some g → ¬ Q2 a h g := fun g eg hq => by
  cases A with
  | none => simp [Value.ownBlock] at eg
  | some ad =>
    simp [Value.ownBlock] at eg
    have := (ho.base ad rfl).1
    have := hoff _ hq
    omega
theorem _root_.Go.Proofs.Ytfhffffdhlofgaa.Mem.Sl.take {w : World} {k : IntKind} {A : Option Addr} {l : List Int} (h : Sl w k A l) (n : Nat) : Sl w k A (l.take n) := fun j hj => by
  have hj' : j < n ∧ j < l.length := by rw [List.length_take] at hj; omega
  obtain ⟨ad, e, hc⟩ := h j hj'.2
  refine ⟨ad, e, ?_⟩
  rw [hc]
  congr 2
  rw [List.getD_eq_getElem?_getD, List.getD_eq_getElem?_getD, List.getElem?_take, if_pos hj'.1]
theorem own_cap {w : World} {base n c : Nat} {e : TypeId} {k : IntKind} {A : Option Addr} {l : List Int} (h : Mem.Own w base e k (.slice A n c) l) : n ≤ c ∧ c ≤ maxLen := by
  rcases h.2 with ⟨e1, h0⟩ | ⟨g, cap, cur, e1, _, _, h1, h2, _⟩
  · injection e1 with e2 e3 e4
    subst e3 e4
    exact ⟨Nat.le_refl _, Nat.zero_le _⟩
  · injection e1 with e2 e3 e4
    subst e3 e4
    exact ⟨h1, h2⟩
theorem elem_int (W : World) : (Go.sizeOf (Try.prog.elem 30)).run Try.prog W = .ok 1 W := by kernel_rfl
set_option maxHeartbeats 400000 in
theorem inserts_walk (n0 : Int) (A : Option Addr) (c : Nat) (l : List Int) (w : World) (wf0 : (Lit.int .i64 n0).wf = true) (hl : RowOf w .i64 A c l 8) :
    Calls Try.prog 4 #[(.int .i64 n0), .slice A l.length c] w fun e w' => e = .returned (.bool true) ∧ Below w.heap.size w w' := by
  have hlm : l.length ≤ 9223372036854775807 := Nat.le_trans hl.cap hl.most
  replace hl := Lib.hid hl
  clear wf0
  obtain ⟨ln, hn⟩ : ∃ n, l.length = n := ⟨_, rfl⟩
  rw [hn] at hlm ⊢
  replace hn := Lib.hid hn
  obtain ⟨p, hp, p1, p2⟩ := small n0 10 (by decide)
  replace p1 : (IntKind.u64.wrap n0).tmod 10 = p := p1
  clear p2
  obtain ⟨n, hnp⟩ : ∃ n, 1 + p = n := ⟨_, rfl⟩
  have hnp' : (1 : Int) + p = n := by omega
  have hn10 : n ≤ 10 := by omega
  have hn1 : 1 ≤ n := by omega
  go_enter Try.func4, Try.ntmps4
  go_wp2_with fail
  refine (works_calls w).mono ?_
  rintro e wa ⟨rfl, hc⟩
  have CA := Lib.hid hc
  clear hc
  go_wp2_with fail
  refine (made_calls 2 wa 2 (by decide) small2.1 small2.2).mono ?_
  rintro e w1 ⟨a, r, rfl, T⟩
  replace T := Lib.hid T
  go_wp2_with fail
  refine (QA.start T.out).mono ?_
  rintro e w2 ⟨h, rfl, H0, -, -, -⟩
  have OFF : Hid (∀ x, Q2 a h x → x < w2.heap.size) := H0.q2_lt
  have BL := Lib.hid H0.blocks
  replace H0 := Lib.hid H0
  clear T
  go_wp2_with fail
  clear p1 hnp' hnp hp
  go_loopg [9, 10] n (fun g v i wr => ∃ (k : Nat) (s : St) (L : List Int) (A2 : Option Addr) (c2 : Nat), i = .int .i64 k ∧ g = n - k ∧ k ≤ n ∧ v = .slice A2 k c2 ∧ w2.heap.size ≤ wr.heap.size ∧ Hid (Full L k) ∧ Hid (QA wa.heap.size wa wr a h s L) ∧ Hid (Mem.Own wr w2.heap.size 3 .i64 (.slice A2 k c2) L))
  case atStart => exact ⟨0, _, [], _, _, rfl, rfl, by omega, rfl, Nat.le_refl _, ⟨rfl, fun y hy => by simp at hy⟩, H0.out, Mem.Own.nil _ _ _ _⟩
  case round =>
    obtain ⟨k, s, L, A2, c2, rfl, hg, hk, rfl, hsz, HF, H1, HO⟩ := hrel
    obtain ⟨wo, rfl⟩ : ∃ wo : World, wo = wr := ⟨_, rfl⟩
    replace hg := Lib.hid hg
    by_cases h1 : k < n
    · have h1' : (k : Int) < n := by omega
      have FP := HF.out.push (by omega)
      have ck : Chunk (64 * (k : Int)) ∧ I64 (64 * (k : Int)) := chunk_ok (by omega)
      have P := Lib.hid (H1.out.pushE FP.1 ck.1 ck.2)
      have HF2 := Lib.hid FP.2
      clear FP ck
      go_wp2_with fail
      refine P.out.mono ?_
      rintro e w5 ⟨rfl, s', hnew, hc⟩
      replace hnew := Lib.hid hnew
      have hsz5 := hc.size
      have O5 := Lib.hid (HO.out.chg hc (own_off HO.out OFF.out))
      clear P hc
      go_wp2_with (at_builtin; go_loud (refine wpList_app rfl _ _ 30 rfl w5.heap.size 3 .i64 8 Try.underlying30 infoInt _ [64 * (k : Int)] rfl (Mem.Own.lit w5 3 .i64 [64 * (k : Int)] (show 1 ≤ maxLen by decide)) A2 _ c2 L rfl HF.out.len (O5.out.sl.chg (Chg.alloc (fun _ => False) w5 (.cells #[.int .i64 (64 * (k : Int))] 3)) (fun _ _ => id)) O5.out.nilc ?h63 ?hby ?hba ?_; (case h63 => have := HF.out.len; unfold maxLen; simp; omega); (case hby => have := HF.out.len; simp; omega); (case hba => simp); intro A' c' n' w6 hn' hown hchg; obtain rfl : n' = k + 1 := (by rw [hn']; simp; omega); have H6 : Hid (QA wa.heap.size wa w6 a h s' (64 * (k : Int) :: L)) := (QA.beyond hnew.out hnew.out.blocks ((Chg.alloc _ w5 _).trans hchg)); have hsz6 : w5.heap.size ≤ w6.heap.size := ((Chg.alloc (fun b => w5.heap.size ≤ b) w5 _).trans hchg).size; have O6 : Hid (Mem.Own w6 w2.heap.size 3 .i64 (.slice A' (k + 1) c') (64 * (k : Int) :: L)) := (Mem.Own.mono hown (by omega)); clear hn' hown hchg))
      go_roundg (n - (k + 1))
      case measure => have := hg.out; omega
      case rel => exact ⟨k + 1, s', _, A', c', rfl, rfl, by omega, rfl, by omega, HF2.out, H6.out, O6.out⟩
    · have ek : n = k := by omega
      subst ek
      have h1' : ¬ (n : Int) < n := by omega
      clear H0 hg hk h1
      go_wp2_with fail
      go_loopg [9, 11] 20 (fun g v i wr => ∃ (j m : Nat) (s : St) (L : List Int) (A2 : Option Addr) (c2 : Nat), i = .int .i64 j ∧ g = 20 - j ∧ j ≤ 20 ∧ j ≤ ln ∧ m = n + j ∧ v = .slice A2 m c2 ∧ w2.heap.size ≤ wr.heap.size ∧ Hid (Full L m) ∧ Hid (QA wa.heap.size wa wr a h s L) ∧ Hid (Mem.Own wr w2.heap.size 3 .i64 (.slice A2 m c2) L))
      case atStart => exact ⟨0, n, s, L, A2, c2, rfl, rfl, by omega, by omega, rfl, rfl, hsz, HF.out, H1.out, HO.out⟩
      case round =>
        clear HF H1 HO hsz
        obtain ⟨j, m, s, L, A2, c2, rfl, hg, hj, hjl, hm, rfl, hsz, HF, H1, HO⟩ := hrel
        obtain ⟨wo, rfl⟩ : ∃ wo : World, wo = wr := ⟨_, rfl⟩
        replace hg := Lib.hid hg
        have m0 : 1 ≤ m := by omega
        have m30 : m ≤ 30 := by omega
        replace hm := Lib.hid hm
        by_cases hlt : j < ln ∧ j < 20
        · obtain ⟨h1, h2⟩ := hlt
          have h1' : (j : Int) < ln := by omega
          have h2' : (j : Int) < 20 := by omega
          have CC : Chg (fun b => w.heap.size ≤ b) w wo := (CA.out.mono fun _ _ h => h.elim).trans (H1.out.here.chg.mono fun b _ hb => Nat.le_trans CA.out.size hb)
          obtain ⟨ad, rfl, e0⟩ := (hl.out.later CC (Nat.le_refl _)).sl j (by rw [hn.out]; exact h1)
          clear CC
          generalize l.getD j 0 = x at e0
          obtain ⟨p, hp, p1, p2⟩ := small x m (by omega)
          replace p1 : (IntKind.u64.wrap x).tmod m = p := p1
          have wm : IntKind.u64.wrap (m : Int) = m := by rw [u64_wrap]; omega
          have mz : ((m : Int) == 0) = false := by rw [beq_eq_false_iff_ne]; omega
          have hpl : p < L.length := by rw [HF.out.len]; exact hp
          obtain ⟨ad2, rfl, e2⟩ := HO.out.sl p hpl
          have HY := Lib.hid (mem_at hpl)
          have IA := Lib.hid (ins_at H1.out.nodup hpl (64 * ((n : Int) + j)))
          have hpm : (p : Int) < m := by omega
          clear p2
          obtain ⟨q, hq⟩ : ∃ q, p + 1 + q = m := ⟨m - (p + 1), by omega⟩
          replace hq := Lib.hid hq
          generalize L.getD p 0 = y at e2 HY IA
          have II : insL L y (64 * ((n : Int) + j)) = (ins y (64 * ((n : Int) + j)) L, 0) := by
            unfold insL
            have := hm.out
            rw [if_pos HY.out, if_pos (by omega), if_neg (fun q => by have := HF.out.below _ q; omega)]
          have P := Lib.hid (H1.out.insertE II (by unfold Chunk; omega) (by have := (H1.out.q.li.pl HY.out); unfold I64; have := this.1; unfold Pl at this; omega) (by unfold I64; omega))
          have FI : Hid (Full (ins y (64 * ((n : Int) + j)) L) (m + 1)) := by
            have := hm.out
            rw [IA.out]
            refine ⟨?_, fun z hz => ?_⟩
            · have := HF.out.len
              rw [List.length_append, List.length_append, List.length_take, List.length_drop, List.length_singleton]
              omega
            · rw [List.append_assoc, List.mem_append, List.mem_append, List.mem_singleton] at hz
              rcases hz with hz | hz | hz
              · have := HF.out.below z (List.mem_of_mem_take hz); omega
              · omega
              · have := HF.out.below z (List.mem_of_mem_drop hz); omega
          clear II
          go_wp2_with fail
          refine P.out.mono ?_
          rintro e w5 ⟨rfl, s', hnew, hc⟩
          replace hnew := Lib.hid hnew
          have hsz5 := hc.size
          have O5 := HO.out.chg hc (own_off HO.out OFF.out)
          have sl1 := O5.sl.take (p + 1)
          obtain ⟨S2, d2, run2, sl2, nil2⟩ := slice_from Try.underlying30 elem_int O5 (p + 1) q (by rw [HF.out.len]; exact hq.out)
          replace run2 : ∀ W, (Instr.sliceAt 30 (.slice (some ad2) m c2) (some (.int .i64 ((p : Int) + 1))) none none).run Try.prog W = .ok (.slice S2 q d2) W := fun W => run2 W
          replace sl1 := Lib.hid sl1
          replace sl2 := Lib.hid sl2
          replace nil2 := Lib.hid nil2
          have t1 : (L.take (p + 1)).length = p + 1 := by rw [List.length_take]; omega
          have t2 : (L.drop (p + 1)).length = q := by rw [List.length_drop, HF.out.len]; have := hq.out; omega
          replace t1 := Lib.hid t1
          replace t2 := Lib.hid t2
          have oc := own_cap O5
          unfold maxLen at oc
          obtain ⟨oc1, oc2⟩ := oc
          replace O5 := Lib.hid O5
          have hq30 : p + 1 + q ≤ 30 := by rw [hq.out]; exact m30
          clear P hc
          have a20 := True.intro
          go_wp2_with (first
            | (at_builtin; refine wpList_app rfl _ _ 30 rfl w5.heap.size 3 .i64 8 Try.underlying30 infoInt _ [] rfl (Mem.Own.lit w5 3 .i64 [] (show 0 ≤ maxLen by decide)) (some ad2) _ c2 (L.take (p + 1)) rfl t1.out (sl1.out.chg (Chg.alloc (fun _ => False) w5 (.cells #[] 3)) (fun _ _ => id)) (fun e => by cases e) (by unfold maxLen; simp; omega) (by simp; omega) (by simp) ?_
               intro A6 c6 n6 w6 hn6 hown6 hchg6
               obtain rfl : n6 = p + 1 := by rw [hn6]; simp
               have O6 : Hid (Mem.Own w6 w5.heap.size 3 .i64 (.slice A6 (p + 1) c6) (L.take (p + 1))) := hown6
               have K6 : Hid (Chg (fun b => w5.heap.size ≤ b) w5 w6) := (Chg.alloc _ w5 _).trans hchg6
               clear hn6 hown6 hchg6)
            | (at_builtin; refine wpList_app rfl _ _ 30 rfl w5.heap.size 3 .i64 8 Try.underlying30 infoInt _ (L.take (p + 1)) rfl (O6.out.chg (Chg.alloc (fun _ => False) w6 (.cells #[.int .i64 (64 * ((n : Int) + j))] 3)) (fun _ _ => id)) (some ⟨w6.heap.size, 0, none⟩) 1 1 [64 * ((n : Int) + j)] rfl rfl (sl_lit w6 .i64 [64 * ((n : Int) + j)] 3 (0, 0)) (fun e => by cases e) (by rw [t1.out]; unfold maxLen; omega) (by rw [t1.out]; omega) (by have := K6.out.size; simp; omega) ?_
               intro A7 c7 n7 w7 hn7 hown7 hchg7
               obtain rfl : n7 = p + 2 := by rw [hn7, t1.out]
               have O7 : Hid (Mem.Own w7 w5.heap.size 3 .i64 (.slice A7 (p + 2) c7) (L.take (p + 1) ++ [64 * ((n : Int) + j)])) := hown7
               have K7 : Hid (Chg (fun b => w5.heap.size ≤ b) w5 w7) := K6.out.trans ((Chg.alloc _ w6 _).trans hchg7)
               clear hn7 hown7 hchg7)
            | (at_builtin; refine wpList_app rfl _ _ 30 rfl w5.heap.size 3 .i64 8 Try.underlying30 infoInt _ _ rfl O7.out S2 _ d2 (L.drop (p + 1)) rfl t2.out (sl2.out.later K7.out (Nat.le_refl _)) nil2.out (by rw [List.length_append, t1.out]; unfold maxLen; simp; omega) (by rw [List.length_append, t1.out]; simp; omega) (by exact K7.out.size) ?_
               intro A8 c8 n8 w8 hn8 hown8 hchg8
               obtain rfl : n8 = m + 1 := by rw [hn8, List.length_append, t1.out, List.length_singleton]; have := hq.out; omega
               have O8 : Hid (Mem.Own w8 w5.heap.size 3 .i64 (.slice A8 (m + 1) c8) (ins y (64 * ((n : Int) + j)) L)) := by rw [IA.out]; exact hown8
               have K8 : Hid (Chg (fun b => w5.heap.size ≤ b) w5 w8) := K7.out.trans hchg8
               clear hn8 hown8 hchg8))
          go_roundg (20 - (j + 1))
          case measure => have := hg.out; omega
          case rel =>
            have := hm.out
            have := K8.out.size
            exact ⟨j + 1, m + 1, s', _, A8, c8, rfl, rfl, by omega, by omega, by omega, rfl, by omega, FI.out, hnew.out.beyond hnew.out.blocks K8.out, O8.out.mono (by omega)⟩
        · have hend : ((ln : Int) ≤ j) ∨ ((j : Int) < ln ∧ ¬ (j : Int) < 20) := by omega
          clear hg hlt
          obtain ⟨q, rfl⟩ : ∃ q, m = q + 1 := ⟨m - 1, by omega⟩
          have HL : Hid (L.length = q + 1) := HF.out.len
          have S0 := Lib.hid HO.out.sl
          have LC := Lib.hid (H1.out.listE HL.out (by omega))
          have te := tail_at L
          rw [HL.out, if_pos (by omega), Nat.add_sub_cancel] at te
          obtain ⟨y, hy⟩ : ∃ y, L.getD q 0 = y := ⟨_, rfl⟩
          rw [hy] at te
          replace hy := Lib.hid hy
          have TC := Lib.hid (H1.out.tailE te)
          have CB : Hid (∀ W, Chg (fun b => wa.heap.size ≤ b) wa W → Below w.heap.size w W) := fun W hc => ((CA.out.mono fun _ _ h => h.elim).trans (hc.mono fun b _ hb => Nat.le_trans CA.out.size hb)).below (Nat.le_refl _) fun _ h => h
          clear te HF H1 HO hm m0
          rcases hend with he | ⟨he, he2⟩ <;>
          (go_wp2_with fail
           refine TC.out.mono ?_
           rintro e w5 ⟨rfl, rfl⟩
           go_wp2_with fail
           refine LC.out.mono ?_
           rintro e w5 ⟨A3, c3, rfl, O3, H3, hc3⟩
           have SW := Lib.hid (S0.out.chg hc3 fun _ _ => id)
           replace H3 := Lib.hid H3
           have C5 := same06_calls (c := c3) (d := c2) O3.sl SW.out (by rw [HL.out]; omega)
           rw [HL.out] at C5
           replace C5 := Lib.hid C5
           clear O3 hc3 LC TC
           go_wp2_with fail
           refine C5.out.mono ?_
           rintro e w6 ⟨rfl, hd⟩
           have H4 := Lib.hid (H3.out.fresh (hd.chg _))
           obtain ⟨ad2, rfl, e2⟩ := (SW.out.chg (hd.chg (fun _ => False)) fun _ _ => id) q (by rw [HL.out]; omega)
           clear hd C5
           rw [hy.out] at e2
           go_wp2_with fail
           refine (H4.out.lenE HL.out).mono ?_
           rintro e w7 ⟨rfl, rfl⟩
           have e1 : (((q + 1 : Nat)) : Int) - 1 = q := by omega
           have F := Lib.hid (CB.out _ H4.out.here.chg)
           go_wp2_with fail
           go_ret
           exact ⟨rfl, F.out⟩)
end Go.Proofs.Ytfhffffdhlofgaa.Links
