import Derived.Test.YtmffdlebahdihaaGe
import Derived.Test.YtmffdlebahdihaaGd
import Derived.Deep.LoopGhost
import Derived.Deep.QuietTactic
import Derived.BigQuiet
import Derived.StillTailTactics
import Derived.Deep.RegionHeld3
import Derived.Deep.DeepCutAuto
import Derived.Deep.CutBlock
import Derived.Test.YtmffdlebahdihaaGc
import Derived.Laws.ResultCell
import Derived.Laws.Rows
import Derived.Laws.Tables
/- The program's parts of a value: the walk of item.parts. -/
namespace Go.Proofs.Ytmffdlebahdihaa.Item
open Go Go.RowKit Go.Proofs.Ytmffdlebahdihaa.Mem Go.Proofs.Ytmffdlebahdihaa.CodecPure Go.Proofs.Ytmffdlebahdihaa.ArenaPure Go.Proofs.Ytmffdlebahdihaa.Codec Go.Proofs.Ytmffdlebahdihaa.Arena Go.Proofs.Ytmffdlebahdihaa.NeedPure
set_option linter.unusedVariables false
set_option maxRecDepth 100000
/-- the parts below k, as cells -/
def partCells (P : List Int) (tc kl vl : Int) : Nat → List Value
  | 0 => []
  | k + 1 => partCells P tc kl vl k ++ [.int .i64 (partP P kl k), .int .i64 (offV tc kl vl (k + 1) - offV tc kl vl k)]
theorem partCells_length (P : List Int) (tc kl vl : Int) (k : Nat) : (partCells P tc kl vl k).length = k * 2 := by
  induction k with
  | zero => rfl
  | succ k ih => show (_ ++ [_, _]).length = _; rw [List.length_append, ih]; simp; omega
theorem partCells_get (P : List Int) (tc kl vl : Int) (i : Nat) : ∀ k, i < k → (partCells P tc kl vl k)[i * 2]? = some (.int .i64 (partP P kl i)) ∧ (partCells P tc kl vl k)[i * 2 + 1]? = some (.int .i64 (offV tc kl vl (i + 1) - offV tc kl vl i)) := by
  intro k
  induction k with
  | zero => intro h; omega
  | succ k ih =>
    intro h
    have l := partCells_length P tc kl vl k
    show (partCells P tc kl vl k ++ _)[_]? = _ ∧ (partCells P tc kl vl k ++ _)[_]? = _
    by_cases e : i = k
    · subst e
      rw [List.getElem?_append_right (by omega), List.getElem?_append_right (by omega), l, Nat.sub_self, Nat.add_sub_cancel_left]
      exact ⟨rfl, rfl⟩
    · rw [List.getElem?_append_left (by omega), List.getElem?_append_left (by omega)]
      exact ih (by omega)
theorem info_part : (Try.prog.info? 151).map (fun i => (i.zero, i.size, i.bytes)) = some (some (.agg #[.int .i64 0, .int .i64 0]), 2, 16) := by kernel_rfl
/-- a row of parts of the call's own -/
def PRow (w : World) (B : Nat) (v : Value) (P : List Int) (tc kl vl : Int) (k : Nat) : Prop := w.ownsRow B 151 2 v k (partCells P tc kl vl k)
theorem PRow.form {w : World} {B : Nat} {v : Value} {P : List Int} {tc kl vl : Int} {k : Nat} (h : PRow w B v P tc kl vl k) : ∃ A c, v = .slice A k c := by
  rcases h.2 with ⟨rfl, h0⟩ | ⟨g, cap, cur, rfl, _⟩
  · exact ⟨none, 0, by rw [h0]⟩
  · exact ⟨_, _, rfl⟩
theorem PRow.fresh {w w' : World} {B : Nat} {v : Value} {P : List Int} {tc kl vl : Int} {k : Nat} {S : Nat → Prop} (h : PRow w B v P tc kl vl k) (hc : Chg S w w') (hS : ∀ g, S g → g < B) : PRow w' B v P tc kl vl k := by
  refine ⟨h.1, ?_⟩
  rcases h.2 with h2 | ⟨g, cap, cur, rfl, hg, hh, r⟩
  · exact .inl h2
  · exact .inr ⟨g, cap, cur, rfl, hg, hc.keep hh (fun q => by have := hS g q; omega), r⟩
/-- the cells of one part -/
theorem PRow.cells {w : World} {B : Nat} {A : Option Addr} {n c : Nat} {P : List Int} {tc kl vl : Int} {k : Nat} (h : PRow w B (.slice A n c) P tc kl vl k) {i : Nat} (hi : i < k) :
    ∃ g, A = some ⟨g, 0, none⟩ ∧ B ≤ g ∧ w.cell? ⟨g, i * 2, none⟩ = some (.int .i64 (partP P kl i)) ∧ w.cell? ⟨g, i * 2 + 1, none⟩ = some (.int .i64 (offV tc kl vl (i + 1) - offV tc kl vl i)) := by
  obtain ⟨g1, g2⟩ := partCells_get P tc kl vl i k hi
  rcases h.2 with ⟨h0, h1⟩ | ⟨g, cap, cur, hv, hg, hh, hn, hm, hs, ht⟩
  · omega
  · injection hv with hA _ _
    subst hA
    refine ⟨g, rfl, hg, ?_, ?_⟩
    · have := World.ownsRow.cells (v := .slice (some ⟨g, 0, none⟩) n c) h rfl _ _ g1
      rwa [add_plain, Nat.zero_add] at this
    · have := World.ownsRow.cells (v := .slice (some ⟨g, 0, none⟩) n c) h rfl _ _ g2
      rwa [add_plain, Nat.zero_add] at this
theorem grown_chg {w W w5 : World} {v : Value} (h : Chg (fun _ => False) w W) (hlow : ∀ g, v.ownBlock = some g → w.heap.size ≤ g) (hg : W.grownBy w5 v.ownBlock) : Chg (fun _ => False) w w5 :=
  ⟨hg.os.trans h.os, hg.tape.trans h.tape, hg.output.trans h.output, Nat.le_trans h.size hg.size, fun b hb _ => (hg.block b (Nat.lt_of_lt_of_le hb h.size) (fun e => by have := hlow b e.symm; omega)).trans (h.block b hb id)⟩
theorem cells_new (w : World) (cs : List Value) (t : TypeId) : ∀ j u, cs[j]? = some u → (w.alloc (.cells cs.toArray t)).cell? ((⟨w.heap.size, 0, none⟩ : Addr).add j) = some u := fun j u hj => by
  rw [add_plain, Nat.zero_add, blk_cell (heap_alloc_at w _), List.getElem?_toArray]
  exact hj
theorem ints_one (a b : Int) : ∀ u ∈ [Value.int .i64 a, Value.int .i64 b], u.oneCell' = true := fun u hu => by
  simp only [List.mem_cons, List.not_mem_nil, or_false] at hu
  rcases hu with rfl | rfl <;> rfl
theorem elem_int (W : World) : (Go.sizeOf (Try.prog.elem 25)).run Try.prog W = .ok 1 W := by kernel_rfl
/-- what parts answers: a row of its own -/
def PEnd (w : World) (P : List Int) (tc kl vl : Int) (e : Ending) (w' : World) : Prop :=
  ∃ A c, e = .returned (.slice A P.length c) ∧ PRow w' w.heap.size (.slice A P.length c) P tc kl vl P.length ∧ Chg (fun _ => False) w w'
set_option maxHeartbeats 1000000 in
theorem parts_calls {w : World} (T : List Int) (AT : Option Addr) (cT : Nat) (hT : Sl w .i64 AT T) (hTm : T.length ≤ 1000) (P : List Int) (v : Value) (hP : SlV w .i64 v P) (h0 : 0 < P.length) (hPm : P.length ≤ 100)
    (c : Nat) (hc : c < T.length) (tc : Int) (htc : T.getD c 0 = tc) (kl vl : Nat) (h32 : kl ≤ 32) (h2000 : vl ≤ 2000) (hsz : 40 + (kl : Int) ≤ tc ∧ 44 ≤ tc ∧ tc ≤ 1024) (hI : ∀ p ∈ P, 0 ≤ p ∧ p ≤ 100000) :
    Calls Try.prog 94 #[.slice AT T.length cT, v, (.int .i64 c), (.int .i64 kl), (.int .i64 vl)] w (PEnd w P tc kl vl) := by
  obtain ⟨AP, cP, rfl, hs, hcap, hmx, hnil⟩ := hP.v
  obtain ⟨ad, rfl, e0⟩ := hs 0 h0
  rw [add_zero] at e0
  obtain ⟨at', rfl, ec⟩ := hT c hc
  rw [htc] at ec
  have z0 := hI (P.getD 0 0) (by rw [List.getD_eq_getElem?_getD, List.getElem?_eq_getElem h0]; exact List.getElem_mem h0)
  have b0 := World.block_lt_of_cell? w _ e0
  have bc := World.block_lt_of_cell? w _ ec
  obtain ⟨s1, s2, s3⟩ := hsz
  obtain ⟨z1, z2⟩ := z0
  obtain ⟨p0, hp0⟩ : ∃ p0, P.getD 0 0 = p0 := ⟨_, rfl⟩
  rw [hp0] at e0 z1 z2
  replace hp0 := Lib.hid hp0
  replace htc := Lib.hid htc
  have w1 : IntKind.i64.wrap (p0 + 40) = p0 + 40 := IntWalk.i64_in _ (by omega)
  have w2 : IntKind.i64.wrap (p0 + 40 + (kl : Int)) = p0 + 40 + kl := IntWalk.i64_in _ (by omega)
  have w3 : IntKind.i64.wrap (tc - 40) = tc - 40 := IntWalk.i64_in _ (by omega)
  have w4 : IntKind.i64.wrap (tc - 40 - (kl : Int)) = tc - 40 - kl := IntWalk.i64_in _ (by omega)
  have c1 : (0 : Int) ≤ c := by omega
  have c2 : (c : Int) < T.length := by omega
  have c3 : ((c : Int)).toNat = c := by omega
  have l1 : (0 : Int) < P.length := by omega
  obtain ⟨n0, hn0⟩ : ∃ n0, min (vl : Int) (tc - 40 - kl) = n0 := ⟨_, rfl⟩
  have mn : (if tc - 40 - (kl : Int) < vl then tc - 40 - (kl : Int) else (vl : Int)) = n0 := by rw [← hn0]; split <;> omega
  have n1 : 0 ≤ n0 ∧ n0 ≤ 2000 := by omega
  replace hn0 := Lib.hid hn0
  have PT := Lib.hid (hs.chg (Chg.refl (fun _ => False) w) fun _ _ => id)
  replace hT := Lib.hid hT
  clear hs hP
  go_enter Try.func94, Try.ntmps94
  go_upto_region 1 with fail
  go_cut [11] (fun f wc => f = .pointer (some ⟨w.heap.size, 0, none⟩) ∧ Hid (wc.heap[w.heap.size]? = some (.cells #[.int .i64 (p0 + 40 + kl), .int .i64 n0] 151 (0, 0))) ∧ Hid (Chg (fun _ => False) w wc))
  case first =>
    have F : Hid ((w.alloc (.cells #[.int .i64 (p0 + 40 + kl), .int .i64 n0] 151)).drew.heap[w.heap.size]? = some (.cells #[.int .i64 (p0 + 40 + kl), .int .i64 n0] 151 (0, 0)) ∧ Chg (fun _ => False) w (w.alloc (.cells #[.int .i64 (p0 + 40 + kl), .int .i64 n0] 151)).drew) := ⟨heap_alloc_at w _, (Chg.alloc _ _ _).trans (Chg.drew _ _)⟩
    go_wp2_with fail
    go_region_held3 (fun w' => w'.cell? ad = some (.int .i64 p0) ∧ w'.cell? (at'.add c) = some (.int .i64 tc)) (go_keep) (first | fail)
    all_goals
      go_wp2_with fail
      go_meet
      exact ⟨rfl, F.out.1, F.out.2⟩
  case rest =>
    obtain ⟨rfl, FB, CC⟩ := hcut
    have f0 : wc.cell? ⟨w.heap.size, 0, none⟩ = some (.int .i64 (p0 + 40 + kl)) := by rw [blk_cell FB.out]; rfl
    have f1 : wc.cell? ⟨w.heap.size, 1, none⟩ = some (.int .i64 n0) := by rw [blk_cell FB.out]; rfl
    clear e0 ec w1 w2 w3 w4 mn b0 bc
    obtain ⟨np, hnp⟩ : ∃ np, P.length = np := ⟨_, rfl⟩
    have SV : SlV w .i64 (.slice (some ad) P.length cP) P := ⟨some ad, cP, rfl, PT.out, hcap, hmx, hnil⟩
    obtain ⟨v1, run1, sv1⟩ := SV.from Try.underlying25 elem_int 1 h0
    obtain ⟨A1, k1, rfl, sl1, ck1, cm1, nl1⟩ := sv1.v
    replace run1 : ∀ W, (Instr.sliceAt 25 (.slice (some ad) P.length cP) (some (.int .i64 1)) none none).run Try.prog W = .ok (.slice A1 (P.drop 1).length k1) W := fun W => run1 W
    have e0v : offV tc kl vl 1 = n0 := hn0.out
    have wl : IntKind.i64.wrap ((vl : Int) - n0) = vl - n0 := IntWalk.i64_in _ (by omega)
    have RW : Hid (SlV w .i64 (.slice A1 (P.drop 1).length k1) (P.drop 1)) := sv1
    have hm1 : (P.drop 1).length = np - 1 := by rw [List.length_drop, hnp]
    rw [hm1] at run1 RW
    rw [hnp] at run1 hcap h0 hPm l1 ⊢
    obtain ⟨m1, em1⟩ : ∃ m1, np - 1 = m1 := ⟨_, rfl⟩
    rw [em1] at run1 RW
    replace em1 := Lib.hid em1
    replace hnp := Lib.hid hnp
    replace e0v := Lib.hid e0v
    have PR0 : Hid (PRow (wc.alloc (.cells #[.int .i64 (p0 + 40 + kl), .int .i64 n0] 151)) w.heap.size (.slice (some ⟨wc.heap.size, 0, none⟩) 1 1) P tc kl vl 1) := by
      have := World.ownsRow_lit (base := w.heap.size) (e := 151) (size := 2) wc #[.int .i64 (p0 + 40 + kl), .int .i64 n0] 1 CC.out.size (by decide) rfl
      have e : partCells P tc kl vl 1 = [.int .i64 (p0 + 40 + kl), .int .i64 n0] := by
        show [] ++ [_, _] = _
        rw [show partP P kl 0 = p0 + 40 + kl from by unfold partP; rw [if_pos rfl, hp0.out], e0v.out, show offV tc kl vl 0 = 0 from rfl, Int.sub_zero]; rfl
      unfold PRow
      rw [e]
      exact this
    have CD : Hid (Chg (fun _ => False) w (wc.alloc (.cells #[.int .i64 (p0 + 40 + kl), .int .i64 n0] 151))) := CC.out.trans (Chg.alloc _ _ _)
    have g1 : (wc.alloc (.cells #[.int .i64 (p0 + 40 + kl), .int .i64 n0] 151)).cell? ⟨w.heap.size, 1, none⟩ = some (.int .i64 n0) := (Chg.alloc (fun _ => False) wc _).cell f1 id
    clear SV sv1 sl1 nl1 PT hm1
    go_wp2_with fail
    clear f0 f1 FB CC
    generalize hwd : wc.alloc (.cells #[.int .i64 (p0 + 40 + kl), .int .i64 n0] 151) = wd at PR0 CD g1 ⊢
    clear hwd
    go_quiet (fail)
    have PR1 : Hid (PRow (wd.drewN nq) w.heap.size (.slice (some ⟨wc.heap.size, 0, none⟩) 1 1) P tc kl vl 1) := PR0.out.fresh (Chg.drewN (fun _ => False) wd nq) fun _ h => h.elim
    have CE : Hid (Chg (fun _ => False) w (wd.drewN nq)) := CD.out.trans (Chg.drewN _ _ _)
    clear g1 run1 wl
    generalize wd.drewN nq = we at PR1 CE ⊢
    go_wp2_with fail
    have hmm : 1 + m1 = np := by have := em1.out; omega
    replace hmm := Lib.hid hmm
    go_loopg [12, 13, 14] m1 (fun g l left rest wr => ∃ (k m : Nat) (A c' : _) (R : Option Addr) (d : Nat), l = .slice A k c' ∧ left = .int .i64 ((vl : Int) - offV tc kl vl k) ∧ rest = .slice R m d ∧ g = m ∧ Hid (k + m = np) ∧ 1 ≤ k ∧ Hid (PRow wr w.heap.size (.slice A k c') P tc kl vl k) ∧ Hid (SlV w .i64 (.slice R m d) (P.drop k)) ∧ Hid (Chg (fun _ => False) w wr))
    case atStart => exact ⟨1, m1, _, _, A1, k1, rfl, by rw [e0v.out], rfl, rfl, hmm.out, Nat.le_refl _, PR1.out, RW.out, CE.out⟩
    case round =>
      obtain ⟨k, m, A, c', R, d, rfl, rfl, rfl, hg, hkm, hk1, PRk, SVk, CK⟩ := hrel
      obtain ⟨wo, rfl⟩ : ∃ wo : World, wo = wr := ⟨_, rfl⟩
      replace hg := Lib.hid hg
      cases m with
      | zero =>
        obtain rfl : k = np := hkm.out
        clear hkm
        have F : Hid (PEnd w P tc kl vl (.returned (.slice A k c')) wo) := ⟨A, c', by rw [hnp.out], by rw [hnp.out]; exact PRk.out, CK.out⟩
        go_wp2_with fail
        go_ret
        exact F.out
      | succ m =>
        have hk : k < np := by have := hkm.out; omega
        have dl : (P.drop k).length = m + 1 := by rw [List.length_drop, hnp.out]; have := hkm.out; omega
        obtain ⟨R', d', eR, slk, dk, dm, -⟩ := SVk.out.v
        injection eR with e1 e2 e3
        subst e1 e3
        obtain ⟨ad2, rfl, ck⟩ := slk 0 (by omega)
        rw [add_zero] at ck
        have eP : (P.drop k).getD 0 0 = P.getD k 0 := by rw [List.getD_eq_getElem?_getD, List.getElem?_drop, List.getD_eq_getElem?_getD]; rfl
        rw [eP] at ck
        replace ck := CK.out.cell ck id
        have zk := hI (P.getD k 0) (by rw [List.getD_eq_getElem?_getD, List.getElem?_eq_getElem (by rw [hnp.out]; exact hk)]; exact List.getElem_mem _)
        have ct : wo.cell? (at'.add c) = some (.int .i64 tc) := by
          obtain ⟨at2, e, h⟩ := hT.out c hc
          cases e
          rw [htc.out] at h
          exact CK.out.cell h id
        have ov := offV_mono (tc := tc) (kl := kl) (vl := vl) s1 s2 (by omega) k
        have os : offV tc kl vl (k + 1) = offV tc kl vl k + min ((vl : Int) - offV tc kl vl k) (tc - 4) := by
          obtain ⟨k', rfl⟩ : ∃ k', k = k' + 1 := ⟨k - 1, by omega⟩
          rfl
        obtain ⟨lf, hlf⟩ : ∃ lf, (vl : Int) - offV tc kl vl k = lf := ⟨_, rfl⟩
        rw [hlf] at os ⊢
        have lf0 : 0 ≤ lf ∧ lf ≤ 2000 := by omega
        obtain ⟨nk, hnk⟩ : ∃ nk, min lf (tc - 4) = nk := ⟨_, rfl⟩
        have mnk : (if tc - 4 < lf then tc - 4 else lf) = nk := by rw [← hnk]; split <;> omega
        have nk0 : 0 ≤ nk ∧ nk ≤ lf := by omega
        obtain ⟨pk, hpk⟩ : ∃ pk, P.getD k 0 = pk := ⟨_, rfl⟩
        rw [hpk] at ck zk
        have hl2 : Hid ((vl : Int) - offV tc kl vl (k + 1) = lf - nk) := by rw [os, ← hnk]; show _ = _; omega
        have hpc : Hid (partCells P tc kl vl (k + 1) = partCells P tc kl vl k ++ [.int .i64 (pk + 4), .int .i64 nk]) := by
          show _ ++ [_, _] = _
          rw [show partP P kl k = pk + 4 from by unfold partP; rw [if_neg (by omega), hpk], show offV tc kl vl (k + 1) - offV tc kl vl k = nk from by omega]
        obtain ⟨v3, run3, sv3⟩ := SVk.out.from Try.underlying25 elem_int 1 (by omega)
        obtain ⟨A3, k3, rfl, -⟩ := sv3.v
        have l3 : ((P.drop k).drop 1).length = m := by rw [List.length_drop, dl]; omega
        rw [l3] at run3 sv3
        have d3 : (P.drop k).drop 1 = P.drop (k + 1) := by rw [List.drop_drop]
        rw [d3] at sv3
        replace run3 : ∀ W, (Instr.sliceAt 25 (.slice (some ad2) (m + 1) d) (some (.int .i64 1)) none none).run Try.prog W = .ok (.slice A3 m k3) W := fun W => run3 W
        replace sv3 := Lib.hid sv3
        have wk1 : IntKind.i64.wrap (tc - 4) = tc - 4 := IntWalk.i64_in _ (by omega)
        have wk2 : IntKind.i64.wrap (pk + 4) = pk + 4 := IntWalk.i64_in _ (by omega)
        have wk3 : IntKind.i64.wrap (lf - nk) = lf - nk := IntWalk.i64_in _ (by omega)
        have mp : (0 : Int) < (m : Int) + 1 := by omega
        replace hpk := Lib.hid hpk
        replace hlf := Lib.hid hlf
        replace hnk := Lib.hid hnk
        clear ov os eP dl l3 d3 slk e2
        have PW : Hid (PRow (wo.alloc (.cells #[.int .i64 (pk + 4), .int .i64 nk] 151)) w.heap.size (.slice A k c') P tc kl vl k) := PRk.out.fresh (Chg.alloc (fun _ => False) wo _) fun _ h => h.elim
        have CW : Hid (Chg (fun _ => False) w (wo.alloc (.cells #[.int .i64 (pk + 4), .int .i64 nk] 151))) := CK.out.trans (Chg.alloc _ _ _)
        obtain ⟨i0, hi0, hz0, hz1, hz2⟩ := info_parts info_part
        go_wp2_with (at_builtin; refine wpList_append_own _ rfl _ _ 148 rfl w.heap.size 151 i0 (.agg #[.int .i64 0, .int .i64 0]) 2 16 Try.underlying148 hi0 hz0 hz1 hz2 rfl (by decide) _ k (partCells P tc kl vl k) rfl PW.out ⟨wo.heap.size, 0, none⟩ 1 1 [.int .i64 (pk + 4), .int .i64 nk] rfl rfl (cells_new wo [.int .i64 (pk + 4), .int .i64 nk] _) (ints_one _ _) (by unfold maxLen; omega) (by omega) CW.out.size ?_; intro v' w5 hown' hgrow _; obtain ⟨A5, c5, ev⟩ := owns_form hown'; subst ev; have P5 : Hid (PRow w5 w.heap.size (.slice A5 (k + 1) c5) P tc kl vl (k + 1)) := (by unfold Hid PRow; rw [hpc.out]; exact hown'); have C5 : Hid (Chg (fun _ => False) w w5) := grown_chg CW.out (fun g hg => (World.ownsRow.lt PW.out g hg).1) hgrow; clear hown' hgrow)
        go_roundg m
        case measure => have := hg.out; omega
        case rel => exact ⟨k + 1, m, A5, c5, A3, k3, rfl, by rw [hl2.out], rfl, rfl, by have := hkm.out; show _ = _; omega, by omega, P5.out, sv3.out, C5.out⟩
end Go.Proofs.Ytmffdlebahdihaa.Item

/- The walk of the program's item.Write. -/
namespace Go.Proofs.Ytmffdlebahdihaa.Item
open Go Go.RowKit Go.Proofs.Ytmffdlebahdihaa.Mem Go.Proofs.Ytmffdlebahdihaa.CodecPure Go.Proofs.Ytmffdlebahdihaa.ArenaPure Go.Proofs.Ytmffdlebahdihaa.Codec Go.Proofs.Ytmffdlebahdihaa.Arena Go.Proofs.Ytmffdlebahdihaa.NeedPure Go.Proofs.Ytmffdlebahdihaa.Need
set_option linter.unusedVariables false
set_option maxRecDepth 100000
variable {w w' : World} {a : Ar} {s : St}
theorem index_hv (ex fl vl kl : Int) (k : Nat) (h : k < 12) : ∀ W : World, (Instr.index 147 (.agg #[.int .i64 (-1), .int .i64 (-1), .int .i64 (-1), .int .i64 (-1), .int .i64 0, .int .i64 ex, .int .i64 fl, .int .i64 vl, .int .i64 kl, .int .i64 0, .int .i64 0, .int .i64 0]) (.int .i64 k)).run Try.prog W = .ok (.int .i64 ((hvals ex fl vl kl).getD k 0)) W := by
  match k, h with
  | 0, _ => exact fun W => by kernel_rfl
  | 1, _ => exact fun W => by kernel_rfl
  | 2, _ => exact fun W => by kernel_rfl
  | 3, _ => exact fun W => by kernel_rfl
  | 4, _ => exact fun W => by kernel_rfl
  | 5, _ => exact fun W => by kernel_rfl
  | 6, _ => exact fun W => by kernel_rfl
  | 7, _ => exact fun W => by kernel_rfl
  | 8, _ => exact fun W => by kernel_rfl
  | 9, _ => exact fun W => by kernel_rfl
  | 10, _ => exact fun W => by kernel_rfl
  | 11, _ => exact fun W => by kernel_rfl
theorem grown_ok (w : World) (n : Nat) (hn : n ≤ maxLen) : n ≤ grownCap w n 0 5 ∧ grownCap w n 0 5 ≤ maxLen := ⟨grownCap_ge _ _ _ _, grownCap_le_maxLen _ _ _ _ hn⟩
theorem field_spot0 (p q : Int) : ∀ W : World, (Instr.field 107 (.agg #[.int .i64 p, .int .i64 q]) 0).run Try.prog W = .ok (.int .i64 p) W := fun W => by kernel_rfl
theorem field_spot1 (p q : Int) : ∀ W : World, (Instr.field 107 (.agg #[.int .i64 p, .int .i64 q]) 1).run Try.prog W = .ok (.int .i64 q) W := fun W => by kernel_rfl
theorem spots_fact : ∃ sp : Array Value, (∀ w, Calls Try.prog 61 #[] w fun e w' => e = .returned (.agg sp) ∧ Chg (fun _ => False) w w') ∧
    (∀ W : World, (Instr.index 108 (.agg sp) (.int .i64 4)).run Try.prog W = .ok (.agg #[.int .i64 16, .int .i64 8]) W) ∧ (∀ W : World, (Instr.index 108 (.agg sp) (.int .i64 3)).run Try.prog W = .ok (.agg #[.int .i64 12, .int .i64 4]) W) :=
  ⟨SP, spots_calls, index_spot 4 (by decide) (by decide), index_spot 3 (by decide) (by decide)⟩
/-- an item's struct, as a value -/
def itemV (K V : ByteArray) (fl ex cas : Int) : Value := .agg #[.string K, .string V, .int .u32 fl, .int .u32 ex, .int .u64 cas]
/-- the item lies in its chunks -/
def WEnd (w : World) (a : Ar) (s : St) (tc : Int) (P : List Int) (K V : ByteArray) (ex fl cas : Int) (e : Ending) (w' : World) : Prop :=
  ∃ t, e = .returned (.int .i64 0) ∧ Lies w' a t ∧ ItemK s t tc P (bs K) (bs V) ex fl cas P.length ∧ t = partS (baseS s (P.getD 0 0) (bs K) (bs V) ex fl cas) tc P (bs K) (bs V) P.length ∧ Chg (· ∈ a.pb) w w'
set_option maxHeartbeats 2000000 in
theorem write_ok (hl : Lies w a s) (T : List Int) (AT : Option Addr) (cT : Nat) (hT : Sl w .i64 AT T) (hTm : T.length ≤ 1000) (hTw : ∀ x ∈ T, -9223372036854775808 ≤ x ∧ x ≤ 9223372036854775807)
    (P : List Int) (v : Value) (hP : SlV w .i64 v P) (K V : ByteArray) (ex fl cas : Int) (c more : Nat) (tc : Int) (hn : needC T K.size V.size = ((c : Int), (more : Int), 0)) (hc : c < T.length) (htc : T.getD c 0 = tc)
    (hlen : P.length = 1 + more) (hTo : ∀ ad, AT = some ad → ad.block ∉ a.pb) (hPo : ∀ A n c, v = .slice A n c → ∀ ad, A = some ad → ad.block ∉ a.pb) (F : Fine s tc P (bs K) (bs V) ex fl cas) (ha : offV tc (bs K).length (bs V).length P.length = (bs V).length) :
    Calls Try.prog 70 #[(.pointer (some ⟨a.g, 0, none⟩)), .slice AT T.length cT, v, itemV K V fl ex cas] w (WEnd w a s tc P K V ex fl cas) := by
  obtain ⟨AP, cP, rfl, hs, hcap, hmx, hnil⟩ := hP.v
  have hPo' := hPo _ _ _ rfl
  clear hPo
  have X : Hid (w.alloc (.cells #[.string K, .string V, .int .u32 fl, .int .u32 ex, .int .u64 cas] 120) = w.alloc (.cells #[.string K, .string V, .int .u32 fl, .int .u32 ex, .int .u64 cas] 120)) := rfl
  have XB := heap_alloc_at w (.cells #[.string K, .string V, .int .u32 fl, .int .u32 ex, .int .u64 cas] 120)
  have C1 : Hid (Chg (fun _ => False) w (w.alloc (.cells #[.string K, .string V, .int .u32 fl, .int .u32 ex, .int .u64 cas] 120))) := Chg.alloc _ _ _
  have L1 := Lib.hid (hl.chg C1.out id id fun _ _ => id)
  have xpb : w.heap.size ∉ a.pb := fun hb => by
    obtain ⟨i, hi, e⟩ := hl.of_mem hb
    have := blk_lt (hl.page i hi)
    omega
  have PBL : Hid (∀ b ∈ a.pb, b < w.heap.size) := fun b hb => by
    obtain ⟨i, hi, e⟩ := hl.of_mem hb
    have := blk_lt (hl.page i hi)
    omega
  have KEEP : Hid (∀ W, Chg (· ∈ a.pb) (w.alloc (.cells #[.string K, .string V, .int .u32 fl, .int .u32 ex, .int .u64 cas] 120)) W → Sl W .i64 AT T ∧ Sl W .i64 AP P ∧ W.cell? ⟨w.heap.size, 0, none⟩ = some (.string K) ∧ W.cell? ⟨w.heap.size, 1, none⟩ = some (.string V) ∧ W.cell? ⟨w.heap.size, 2, none⟩ = some (.int .u32 fl) ∧ W.cell? ⟨w.heap.size, 3, none⟩ = some (.int .u32 ex) ∧ W.cell? ⟨w.heap.size, 4, none⟩ = some (.int .u64 cas)) := fun W hc => by
    have hb := hc.keep XB xpb
    exact ⟨(hT.chg C1.out fun _ _ => id).chg hc hTo, (hs.chg C1.out fun _ _ => id).chg hc hPo', by rw [blk_cell hb]; rfl, by rw [blk_cell hb]; rfl, by rw [blk_cell hb]; rfl, by rw [blk_cell hb]; rfl, by rw [blk_cell hb]; rfl⟩
  have N := need_calls AT cT T K.size V.size (w.alloc (.cells #[.string K, .string V, .int .u32 fl, .int .u32 ex, .int .u64 cas] 120)) (hT.chg C1.out fun _ _ => id) (by omega) hTw
  rw [hn] at N
  replace N := Lib.hid N
  obtain ⟨np, hnp⟩ : ∃ np, P.length = np := ⟨_, rfl⟩
  rw [hnp] at hlen hcap ⊢
  have hne : ((np : Int) != 1 + (more : Int)) = false := by rw [bne_eq_false_iff_eq]; omega
  have hmo : more ≤ 16 := by rw [← hnp] at hlen; have := F.most; omega
  have np0 : np ≤ 16 := by rw [← hnp]; exact F.most
  have np1 : 0 < np := by omega
  replace hnp := Lib.hid hnp
  replace hlen := Lib.hid hlen
  have PA := fun (W : World) (h : Sl W .i64 AT T) (v : Value) (hv : SlV W .i64 v P) => parts_calls T AT cT h hTm P v hv F.pos (by have := F.most; omega) c hc tc htc K.size V.size (by have := F.lens.2.1; rw [bs_length] at this; exact this) (by have := F.lens.2.2; rw [bs_length] at this; exact this) (by have := F.size; rw [bs_length] at this; exact this) (fun p hp => by
    have := F.ok.high
    obtain ⟨_, h1, h2, _⟩ := F.inn p hp
    omega)
  replace PA := Lib.hid PA
  have c2 : (c : Int) < T.length := by omega
  have tcb : 44 ≤ tc ∧ tc ≤ 1024 := ⟨F.size.2.1, F.size.2.2⟩
  have nums := F.nums
  have h32 := F.lens
  have P0 : 0 ≤ P.getD 0 0 ∧ P.getD 0 0 ≤ 40000 := by
    obtain ⟨_, h1, h2, _⟩ := F.p_wi F.pos
    have := F.ok.high
    omega
  rw [bs_length, bs_length] at h32
  obtain ⟨n1, n2, n3⟩ := nums
  obtain ⟨n11, n12⟩ := n1
  obtain ⟨n21, n22⟩ := n2
  obtain ⟨n31, n32⟩ := n3
  obtain ⟨h321, h322, h323⟩ := h32
  have FIT := Lib.hid (fun f (hf : f < 12) => hvals_fits (ex := ex) (fl := fl) (vl := (V.size : Int)) (kl := (K.size : Int)) ⟨n11, n12⟩ ⟨n21, n22⟩ (by omega) (by omega) f hf)
  obtain ⟨x, hx⟩ : ∃ x, P.getD 0 0 = x := ⟨_, rfl⟩
  rw [hx] at P0
  obtain ⟨x00, x01⟩ := P0
  have HW : Hid (within s x 40) := by rw [← hx]; exact F.hdr
  replace hx := Lib.hid hx
  replace hn := Lib.hid hn
  replace F := Lib.hid F
  replace ha := Lib.hid ha
  replace hl := Lib.hid hl
  replace htc := Lib.hid htc
  clear hs hT hP hTw hTo hPo' XB X
  unfold itemV
  go_enter Try.func70, Try.ntmps70
  go_wp2_with fail
  generalize hw1 : w.alloc (.cells #[.string K, .string V, .int .u32 fl, .int .u32 ex, .int .u64 cas] 120) = w1 at C1 L1 KEEP N ⊢
  clear hw1
  refine N.out.mono ?_
  rintro e w2 ⟨rfl, hd⟩
  have L2 := Lib.hid (L1.out.chg (hd.chg (fun _ => False)) id id fun _ _ => id)
  have C2 : Hid (Chg (· ∈ a.pb) w1 w2) := hd.chg _
  have CW : Hid (Chg (· ∈ a.pb) w w2) := (C1.out.mono fun _ _ h => h.elim).trans C2.out
  clear hd N
  go_wp2_with fail
  have RD : Hid (∀ W k, Lies W a s → k < np → Calls Try.prog 23 #[(.pointer (some ⟨a.g, 0, none⟩)), (.int .i64 (P.getD k 0)), (.int .i64 tc)] W fun e w' => ∃ A n c, e = .returned (.tuple #[.slice A n c, .int .i64 0]) ∧ Chg (fun _ => False) W w') := fun W k h hk => (read_calls h _ tc (by
    obtain ⟨_, h1, h2, _⟩ := F.out.p_wi (i := k) (by rw [hnp.out]; exact hk)
    have := F.out.ok.high
    omega)).mono fun e w' ⟨A, c, e, _, h2⟩ => ⟨A, _, c, by
    unfold readA at e
    rw [if_pos (F.out.p_wi (by rw [hnp.out]; exact hk))] at e
    exact e, h2⟩
  go_loopg [47] np (fun g i wr => ∃ k : Nat, i = .int .i64 k ∧ g = np - k ∧ k ≤ np ∧ Hid (Chg (fun _ => False) w2 wr))
  case atStart => exact ⟨0, rfl, rfl, by omega, Chg.refl _ _⟩
  case round =>
    obtain ⟨k, rfl, hg, hk, CK⟩ := hrel
    obtain ⟨wo, rfl⟩ : ∃ wo : World, wo = wr := ⟨_, rfl⟩
    replace hg := Lib.hid hg
    by_cases h1 : k < np
    · have h1' : (k : Int) < np := by omega
      obtain ⟨kT, kP, -, -, -, -, -⟩ := KEEP.out wo (C2.out.trans (CK.out.mono fun _ _ h => h.elim))
      obtain ⟨ad, rfl, e0⟩ := kP k (by rw [hnp.out]; exact h1)
      obtain ⟨at', rfl, e1⟩ := kT c hc
      rw [htc.out] at e1
      have R1 := Lib.hid (RD.out wo k (L2.out.chg CK.out id id fun _ _ => id) h1)
      clear kT kP
      generalize P.getD k 0 = pk at e0 R1
      go_wp2_with fail
      refine R1.out.mono ?_
      rintro e w3 ⟨A3, n3, c3, rfl, hc3⟩
      have C3 := Lib.hid (CK.out.trans hc3)
      clear hc3 R1
      go_wp2_with fail
      go_roundg (np - (k + 1))
      case measure => have := hg.out; omega
      case rel => exact ⟨k + 1, rfl, rfl, by omega, C3.out⟩
    · have h1' : ¬ (k : Int) < np := by omega
      have L3 := Lib.hid (L2.out.chg CK.out id id fun _ _ => id)
      have C3 : Hid (Chg (· ∈ a.pb) w1 wo) := C2.out.trans (CK.out.mono fun _ _ h => h.elim)
      have CW3 : Hid (Chg (· ∈ a.pb) w wo) := CW.out.trans (CK.out.mono fun _ _ h => h.elim)
      clear hg hk CK L2 C2 CW RD
      obtain ⟨-, kP, x0, x1, x2, x3, x4⟩ := KEEP.out wo C3.out
      obtain ⟨ad, rfl, e0⟩ := kP 0 (by rw [hnp.out]; exact np1)
      rw [add_zero, hx.out] at e0
      clear kP
      go_wp2_with fail
      go_loopg [81] 12 (fun g i wr => ∃ (k : Nat) (t : St), i = .int .i64 k ∧ g = 12 - k ∧ k ≤ 12 ∧ Hid (Lies wr a t) ∧ Hid (HdrK s t x (hvals ex fl V.size K.size) k ∧ t = hdrS s x (hvals ex fl V.size K.size) k) ∧ Hid (Chg (· ∈ a.pb) wo wr))
      case atStart => exact ⟨0, s, rfl, rfl, by omega, L3.out, ⟨⟨Lay.refl F.out.ok _, fun g hg => by omega⟩, rfl⟩, Chg.refl _ _⟩
      case round =>
        clear e0 x0 x1 x2 x3 x4 L3
        obtain ⟨j, t, rfl, hg, hj, LT, HK, CT⟩ := hrel
        obtain ⟨wp, rfl⟩ : ∃ wo : World, wo = wr := ⟨_, rfl⟩
        replace hg := Lib.hid hg
        by_cases j12 : j < 12
        · have j12' : (j : Int) < 12 := by omega
          have IX := index_hv ex fl V.size K.size j j12
          by_cases j4 : j = 4
          · have t4 : ((j : Int) != 4) = false := by rw [j4]; rfl
            have HK2 : Hid (HdrK s t x (hvals ex fl V.size K.size) (j + 1) ∧ t = hdrS s x (hvals ex fl V.size K.size) (j + 1)) := by
              have := HK.out
              rw [j4] at this
              rw [j4]
              exact ⟨this.1.skip, this.2⟩
            generalize (hvals ex fl V.size K.size).getD j 0 = vj at IX
            clear j4
            go_wp2_with fail
            go_roundg (12 - (j + 1))
            case measure => have := hg.out; omega
            case rel => exact ⟨j + 1, t, rfl, rfl, by omega, LT.out, HK2.out, CT.out⟩
          · have t4 : ((j : Int) != 4) = true := by rw [bne_iff_ne]; omega
            have ft := FIT.out j j12
            have HK2 : Hid (HdrK s (itemSet t x j ((hvals ex fl V.size K.size).getD j 0)).1 x (hvals ex fl V.size K.size) (j + 1) ∧ (itemSet t x j ((hvals ex fl V.size K.size).getD j 0)).1 = hdrS s x (hvals ex fl V.size K.size) (j + 1)) := ⟨HK.out.1.step j12 j4 HW.out ft, by show _ = (if j = 4 then _ else _); rw [if_neg j4, ← HK.out.2]⟩
            have S1 := Lib.hid (set_calls LT.out x j ((hvals ex fl V.size K.size).getD j 0) (by omega) (by
              unfold Fits at ft
              split at ft
              · unfold Pl at ft; omega
              · have := fw_cases (f := j) (by omega) (by omega) (by omega)
                have p8 : (2 : Int) ^ (8 * (fw j).toNat) ≤ 4294967296 := by
                  rcases this with e | e | e <;> rw [e] <;> decide
                omega))
            generalize (hvals ex fl V.size K.size).getD j 0 = vj at IX S1 HK2
            clear ft j4
            generalize (itemSet t x j vj).1 = t2 at S1 HK2
            generalize (itemSet t x j vj).2 = er at S1
            go_wp2_with fail
            refine S1.out.mono ?_
            rintro e w5 ⟨rfl, l5, c5⟩
            have L5 := Lib.hid l5
            have C5 := Lib.hid (CT.out.trans c5)
            clear l5 c5 S1
            go_wp2_with fail
            go_roundg (12 - (j + 1))
            case measure => have := hg.out; omega
            case rel => exact ⟨j + 1, t2, rfl, rfl, by omega, L5.out, HK2.out, C5.out⟩
        · have ej : j = 12 := by omega
          subst ej
          clear hg FIT hj
          have CT3 : Hid (Chg (· ∈ a.pb) w1 wp) := C3.out.trans CT.out
          have CTW : Hid (Chg (· ∈ a.pb) w wp) := CW3.out.trans CT.out
          clear C3 CW3 CT
          obtain ⟨sp, SPC, IX4, IX3⟩ := spots_fact
          replace SPC := Lib.hid SPC
          have FD0 := field_spot0 16 8
          have FD1 := field_spot1 16 8
          have wx : IntKind.i64.wrap (x + 16) = x + 16 := IntWalk.i64_in _ (by omega)
          obtain ⟨-, -, -, -, -, -, y4⟩ := KEEP.out wp CT3.out
          have Cd : Hid (Chg (fun _ => False) wp (World.drew wp)) := Chg.drew _ _
          have ST := F.out.start (t := t) (by rw [hx.out, bs_length, bs_length]; exact HK.out.1)
          rw [hx.out] at ST
          have SN := Lib.hid (fun (W : World) (h : Lies W a t) => setnumber_calls h (x + 16) 8 cas (by omega) (by omega) (by omega))
          rw [ST.1] at SN
          go_upto_region 20 with fail
          go_cut [] (fun wc => Hid (Lies wc a (lay t (x + 16) (leb cas 8))) ∧ Hid (Chg (· ∈ a.pb) wp wc))
          case first =>
           go_wp2_with fail
           go_region_held3 (fun w' => w'.cell? ⟨w.heap.size, 4, none⟩ = some (.int .u64 cas)) (go_keep)
            (first
              | (go_at_call 61; refine (SPC.out (World.drew wp)).mono ?_; rintro e w6 ⟨rfl, c6⟩; have C6 := Lib.hid (Cd.out.trans c6); have g6 : w6.cell? ⟨w.heap.size, 4, none⟩ = some (.int .u64 cas) := (C6.out.cell y4 id); clear c6; skip)
              | (go_at_call 61; refine (SPC.out w6).mono ?_; rintro e w7 ⟨rfl, c7⟩; have C7 := Lib.hid (C6.out.trans c7); have g7 : w7.cell? ⟨w.heap.size, 4, none⟩ = some (.int .u64 cas) := (C7.out.cell y4 id); clear c7; skip)
              | (go_at_call 78; refine (SN.out w7 (LT.out.chg C7.out id id fun _ _ => id)).mono ?_; rintro e w8 ⟨rfl, l8, c8⟩; have L8 := Lib.hid l8; have C8 : Hid (Chg (· ∈ a.pb) wp w8) := ((C7.out.mono fun _ _ h => h.elim).trans c8); have g8 : w8.cell? ⟨w.heap.size, 4, none⟩ = some (.int .u64 cas) := (C8.out.cell y4 xpb); clear l8 c8; skip))
           all_goals
             go_wp2_with fail
             go_meet
             exact ⟨L8.out, C8.out⟩
          case rest =>
            obtain ⟨L8, C8⟩ := hcut
            have C38 : Hid (Chg (· ∈ a.pb) w1 wc) := CT3.out.trans C8.out
            have CW8 : Hid (Chg (· ∈ a.pb) w wc) := CTW.out.trans C8.out
            clear CT3 CTW C8 y4 Cd SN LT IX4 wx FD0 FD1
            obtain ⟨-, -, y0, -, -, -, -⟩ := KEEP.out wc C38.out
            have KC := fun W => Lib.run_convert_string_bytes (P := Try.prog) W 9 48 5 K Try.underlying9 Try.underlying48 Try.underlying5
            have WC := write_calls (L8.out.chg (chg_bytes wc 5 K) id id fun _ _ => id) (x + 40) (some ⟨wc.heap.size, 0, none⟩) (grownCap wc K.size 0 5) (bs K) (sl_bytes wc 5 K) (bs_bytes K) (by rw [bs_length]; omega) (by omega)
            rw [ST.2.1, bs_length] at WC
            have IK : Hid (ItemK s (lay (lay t (x + 16) (leb cas 8)) (x + 40) (bs K)) tc P (bs K) (bs V) ex fl cas 0 ∧ lay (lay t (x + 16) (leb cas 8)) (x + 40) (bs K) = baseS s (P.getD 0 0) (bs K) (bs V) ex fl cas) := ⟨ST.2.2, by unfold baseS; rw [hx.out, bs_length, bs_length, ← HK.out.2]⟩
            have Cb : Hid (Chg (· ∈ a.pb) wc (Lib.bytesWorld wc 5 K)) := (chg_bytes wc 5 K).mono fun _ _ h => h.elim
            replace WC := Lib.hid WC
            clear ST L8
            generalize lay (lay t (x + 16) (leb cas 8)) (x + 40) (bs K) = t0 at WC IK
            go_wp2_with fail
            refine WC.out.mono ?_
            rintro e w9 ⟨rfl, l9, c9⟩
            have L9 := Lib.hid l9
            have C9 : Hid (Chg (· ∈ a.pb) w1 w9) := (C38.out.trans Cb.out).trans c9
            have CW9 : Hid (Chg (· ∈ a.pb) w w9) := (CW8.out.trans Cb.out).trans c9
            clear l9 c9 WC C38 CW8 Cb y0 KC HK
            have FD0 := field_spot0 12 4
            go_wp2_with fail
            refine (SPC.out w9).mono ?_
            rintro e w10 ⟨rfl, c10⟩
            have L10 := Lib.hid (L9.out.chg c10 id id fun _ _ => id)
            have C10 : Hid (Chg (· ∈ a.pb) w1 w10) := C9.out.trans (c10.mono fun _ _ h => h.elim)
            have CW10 : Hid (Chg (· ∈ a.pb) w w10) := CW9.out.trans (c10.mono fun _ _ h => h.elim)
            clear c10 C9 CW9 L9 SPC
            obtain ⟨-, -, -, y1, -, -, -⟩ := KEEP.out w10 C10.out
            have KC := fun W => Lib.run_convert_string_bytes (P := Try.prog) W 9 48 5 V Try.underlying9 Try.underlying48 Try.underlying5
            have Cv := chg_bytes w10 5 V
            have L11 : Hid (Lies (Lib.bytesWorld w10 5 V) a t0) := L10.out.chg Cv id id fun _ _ => id
            have C11 : Hid (Chg (· ∈ a.pb) w1 (Lib.bytesWorld w10 5 V)) := C10.out.trans (Cv.mono fun _ _ h => h.elim)
            have CW11 : Hid (Chg (· ∈ a.pb) w (Lib.bytesWorld w10 5 V)) := CW10.out.trans (Cv.mono fun _ _ h => h.elim)
            have SV := Lib.hid (sl_bytes w10 5 V)
            obtain ⟨kT, kP, z0, z1, -, -, -⟩ := KEEP.out _ C11.out
            have PC := Lib.hid (PA.out _ kT (.slice (some ad) np cP) (SlV.of kP hnp.out.symm hcap hmx fun e => by cases e))
            have VB : Hid (w10.heap.size < (Lib.bytesWorld w10 5 V).heap.size) := by show _ < _; rw [Lib.bytesWorld_size]; omega
            obtain ⟨vc, hvc⟩ : ∃ vc, grownCap w10 V.size 0 5 = vc := ⟨_, rfl⟩
            obtain ⟨vb, hvb⟩ : ∃ vb, w10.heap.size = vb := ⟨_, rfl⟩
            rw [hvb] at SV VB
            have VP : Hid (vb ∉ a.pb) := fun hb => by have := PBL.out vb hb; have := CW10.out.size; omega
            have VC : Hid (V.size ≤ vc ∧ vc ≤ maxLen) := by rw [← hvc]; exact grown_ok w10 V.size (by unfold maxLen; omega)
            clear kT kP C10 CW10 L10 Cv PA
            go_wp2_with fail
            clear hvc hvb z0 z1 y1 KC
            generalize Lib.bytesWorld w10 5 V = w11 at L11 C11 CW11 SV PC VB ⊢
            refine PC.out.mono ?_
            rintro e w12 ⟨A12, c12, rfl, P12, c12'⟩
            have L12 := Lib.hid (L11.out.chg c12' id id fun _ _ => id)
            have C12 : Hid (Chg (· ∈ a.pb) w1 w12) := C11.out.trans (c12'.mono fun _ _ h => h.elim)
            have CW12 : Hid (Chg (· ∈ a.pb) w w12) := CW11.out.trans (c12'.mono fun _ _ h => h.elim)
            replace SV := Lib.hid (SV.out.chg c12' fun _ _ => id)
            have B11 : Hid (w.heap.size ≤ w11.heap.size) := CW11.out.size
            replace P12 := Lib.hid P12
            have VB2 : Hid (vb < w12.heap.size) := Nat.lt_of_lt_of_le VB.out c12'.size
            clear c12' L11 C11 CW11 PC
            rw [hnp.out] at P12 ⊢
            obtain ⟨g12, eg, hg12, -, -⟩ := P12.out.cells np1
            subst eg
            obtain ⟨ap, hap⟩ : ∃ ap : Addr, ap = ⟨g12, 0, none⟩ := ⟨_, rfl⟩
            rw [← hap] at P12 ⊢
            have GP : Hid (g12 ∉ a.pb) := fun hb => by have := PBL.out g12 hb; have := B11.out; omega
            have PCS : Hid (∀ W (k : Nat), Chg (· ∈ a.pb) w12 W → k < np → W.cell? (ap.add (k * 2)) = some (.int .i64 (partP P K.size k)) ∧ W.cell? ⟨(ap.add (k * 2)).block, (ap.add (k * 2)).off + 1, none⟩ = some (.int .i64 (offV tc K.size V.size (k + 1) - offV tc K.size V.size k))) := fun W k hW hk => by
              have P := P12.out
              rw [hap] at P
              obtain ⟨g, e, -, h1, h2⟩ := P.cells hk
              injection e with e
              injection e with e
              subst e
              rw [hap, add_plain, Nat.zero_add]
              exact ⟨hW.cell h1 GP.out, hW.cell h2 GP.out⟩
            replace hap := Lib.hid hap
            have SL0 : Hid (SlV w12 .u8 (.slice (some ⟨vb, 0, none⟩) V.size vc) ((bs V).drop (offV tc K.size V.size 0).toNat)) := by
              show SlV _ _ _ ((bs V).drop 0)
              rw [List.drop_zero]
              exact SlV.of SV.out (bs_length V).symm VC.out.1 VC.out.2 fun e => by cases e
            clear hg12 SV VC P12
            go_wp2_with fail
            go_loopg [19, 20, 131] np (fun g link value i wr => ∃ (k : Nat) (t : St) (lk : Int) (R : Option Addr) (m d : Nat), link = .int .i64 lk ∧ value = .slice R m d ∧ i = .int .i64 k ∧ g = np - k ∧ k ≤ np ∧ Hid (lk = linkP P (k - 1)) ∧ Hid (SlV wr .u8 (.slice R m d) ((bs V).drop (offV tc K.size V.size k).toNat)) ∧ Hid (∀ g, (Value.slice R m d).ownBlock = some g → g = vb) ∧ Hid (Lies wr a t) ∧ Hid (ItemK s t tc P (bs K) (bs V) ex fl cas k ∧ t = partS (baseS s (P.getD 0 0) (bs K) (bs V) ex fl cas) tc P (bs K) (bs V) k) ∧ Hid (Chg (· ∈ a.pb) w12 wr))
            case atStart => exact ⟨0, t0, x + 12, _, _, _, rfl, rfl, rfl, rfl, Nat.zero_le _, by show x + 12 = linkP P 0; unfold linkP; rw [if_pos rfl, hx.out], SL0.out, fun g hg => by injection hg with e; exact e.symm, L12.out, IK.out, Chg.refl _ _⟩
            case round =>
              clear L12 IK SL0
              obtain ⟨k2, t2, lk, R, m, d, rfl, rfl, rfl, hg, hk, LK, SLk, BLk, Lk, IKk, Ck⟩ := hrel
              obtain ⟨wo2, rfl⟩ : ∃ wo : World, wo = wr := ⟨_, rfl⟩
              replace hg := Lib.hid hg
              by_cases k12 : k2 < np
              · have k12' : (k2 : Int) < np := by omega
                obtain ⟨p1, p2⟩ := PCS.out wo2 k2 Ck.out k12
                obtain ⟨-, kP, -, -, -, -, -⟩ := KEEP.out wo2 (C12.out.trans Ck.out)
                obtain ⟨ad', ea, e1⟩ := kP k2 (by rw [hnp.out]; exact k12)
                cases ea
                have FO := offV_mono (tc := tc) (kl := K.size) (vl := V.size) (by have := F.out.size.1; rw [bs_length] at this; exact this) F.out.size.2.1 (by omega) k2
                obtain ⟨o0, ho0⟩ : ∃ o0 : Nat, offV tc K.size V.size k2 = o0 := ⟨(offV tc K.size V.size k2).toNat, by omega⟩
                obtain ⟨nk, hnk⟩ : ∃ nk : Nat, offV tc K.size V.size (k2 + 1) - offV tc K.size V.size k2 = nk := ⟨(offV tc K.size V.size (k2 + 1) - offV tc K.size V.size k2).toNat, by omega⟩
                have FO2 := (offV_mono (tc := tc) (kl := K.size) (vl := V.size) (by have := F.out.size.1; rw [bs_length] at this; exact this) F.out.size.2.1 (by omega) (k2 + 1)).2.1
                have onk : o0 + nk ≤ V.size := by omega
                have PVE : Hid (partV tc K.size (bs V) k2 = ((bs V).drop o0).take nk) := by
                  unfold partV
                  rw [bs_length, hnk, ho0]; rfl
                have PVN : Hid (offV tc K.size V.size (k2 + 1) = ((o0 + nk : Nat) : Int)) := by show _ = _; omega
                rw [ho0] at SLk
                rw [hnk] at p2
                obtain ⟨pk, hpk⟩ : ∃ pk, partP P K.size k2 = pk := ⟨_, rfl⟩
                rw [hpk] at p1
                have PKR : 0 ≤ pk ∧ pk ≤ 100000 := by
                  have h1 := F.out.part (i := k2) (by rw [hnp.out]; exact k12)
                  obtain ⟨o, a1, a2, a3, a4, -⟩ := h1
                  have h2 := F.out.p_wi (i := k2) (by rw [hnp.out]; exact k12)
                  have := F.out.ok.high
                  obtain ⟨_, h3, h4, _⟩ := h2
                  rw [bs_length] at a2 a3 a4
                  rw [hpk] at a2
                  omega
                obtain ⟨pk0, pk1⟩ := PKR
                have dl : ((bs V).drop o0).length = V.size - o0 := by rw [List.length_drop, bs_length]
                obtain ⟨m', d', eS, -⟩ : ∃ m' d', (Value.slice R m d) = .slice R m' d' ∧ m' = ((bs V).drop o0).length := by
                  obtain ⟨A', c', e, -⟩ := SLk.out.v
                  injection e with e1 e2 e3
                  subst e1
                  exact ⟨m, d, rfl, e2⟩
                replace hpk := Lib.hid hpk
                replace hnk := Lib.hid hnk
                replace ho0 := Lib.hid ho0
                clear FO FO2 eS dl
                have WP : Hid (Chg (fun _ => False) wo2 (wo2.alloc (.cells #[.int .i64 pk, .int .i64 nk] 151))) := Chg.alloc _ _ _
                have XP := heap_alloc_at wo2 (.cells #[.int .i64 pk, .int .i64 nk] 151)
                have wop : Hid (wo2.heap.size ∉ a.pb) := fun hb => by have := PBL.out _ hb; have := CW12.out.size; have := Ck.out.size; omega
                replace XP := Lib.hid XP
                obtain ⟨pj, hpj⟩ : ∃ pj, P.getD k2 0 = pj := ⟨_, rfl⟩
                rw [hpj] at e1
                have PJR : 0 ≤ pj ∧ pj ≤ 100000 := by
                  have h2 := F.out.p_wi (i := k2) (by rw [hnp.out]; exact k12)
                  have := F.out.ok.high
                  obtain ⟨_, h3, h4, _⟩ := h2
                  omega
                have LKR : 0 ≤ lk ∧ lk ≤ 100000 := by
                  obtain ⟨o, a1, a2, a3, -⟩ := F.out.link (i := k2 - 1) (by rw [hnp.out]; omega)
                  have h2 := F.out.p_wi (i := k2 - 1) (by rw [hnp.out]; omega)
                  have := F.out.ok.high
                  obtain ⟨_, h3, h4, _⟩ := h2
                  have := LK.out
                  omega
                have e1w := WP.out.cell e1 id
                replace hpj := Lib.hid hpj
                go_upto_if 137 with fail
                go_cut [19] (fun link wc => ∃ t3, link = .int .i64 (linkP P k2) ∧ Hid (Lies wc a t3) ∧ Hid (ItemM s t3 tc P (bs K) (bs V) ex fl cas k2 ∧ t3 = (if k2 = 0 then t2 else (setPlace (setPlace t2 (linkP P (k2 - 1)) (P.getD k2 0)).1 (P.getD k2 0) (-1)).1)) ∧ Hid (Chg (· ∈ a.pb) (wo2.alloc (.cells #[.int .i64 pk, .int .i64 nk] 151)) wc))
                case first =>
                  by_cases q0 : k2 = 0
                  · have q0' : ¬ (0 : Int) < k2 := by omega
                    have FM : Hid (ItemM s t2 tc P (bs K) (bs V) ex fl cas k2 ∧ t2 = (if k2 = 0 then t2 else (setPlace (setPlace t2 (linkP P (k2 - 1)) (P.getD k2 0)).1 (P.getD k2 0) (-1)).1)) := by
                      have := IKk.out.1
                      rw [q0] at this
                      rw [q0]
                      exact ⟨this.first, (if_pos rfl).symm⟩
                    have LE : Hid (lk = linkP P k2) := by have := LK.out; rw [q0] at this; rw [q0]; exact this
                    have LW := Lib.hid (Lk.out.chg WP.out id id fun _ _ => id)
                    clear q0
                    go_wp2_with fail
                    go_meet
                    exact ⟨t2, by rw [LE.out], LW.out, FM.out, Chg.refl _ _⟩
                  · have q0' : (0 : Int) < k2 := by omega
                    have FM := Lib.hid (IKk.out.1.link F.out (by omega) (by rw [hnp.out]; exact k12))
                    rw [← LK.out, hpj.out] at FM
                    have E4 : Hid ((setPlace (setPlace t2 lk pj).1 pj (-1)).1 = (if k2 = 0 then t2 else (setPlace (setPlace t2 (linkP P (k2 - 1)) (P.getD k2 0)).1 (P.getD k2 0) (-1)).1)) := by
                      show _ = _
                      rw [if_neg q0, ← LK.out, hpj.out]
                    have S1 := Lib.hid (setplace_calls (Lk.out.chg WP.out id id fun _ _ => id) lk pj (by omega) (by omega))
                    have S2 := Lib.hid (fun (W : World) (h : Lies W a (setPlace t2 lk pj).1) => setplace_calls h pj (-1) (by omega) (by decide))
                    have LE : Hid (pj = linkP P k2) := by unfold linkP; rw [if_neg q0]; exact hpj.out.symm
                    have KP2 : Hid (∀ W, Chg (· ∈ a.pb) wo2 W → W.cell? (ad.add k2) = some (.int .i64 pj)) := fun W hW => by
                      obtain ⟨-, kP, -, -, -, -, -⟩ := KEEP.out W ((C12.out.trans Ck.out).trans hW)
                      obtain ⟨ad', ea, e1⟩ := kP k2 (by rw [hnp.out]; exact k12)
                      cases ea
                      rw [hpj.out] at e1
                      exact e1
                    generalize (setPlace t2 lk pj).2 = er1 at S1
                    generalize (setPlace t2 lk pj).1 = t3 at S1 S2 FM E4
                    generalize (setPlace t3 pj (-1)).2 = er2 at S2
                    generalize (setPlace t3 pj (-1)).1 = t4 at S2 FM E4
                    go_wp2_with fail
                    refine S1.out.mono ?_
                    rintro e w13 ⟨rfl, l13, c13⟩
                    have L13 := Lib.hid l13
                    have C13 := Lib.hid c13
                    have e2w := KP2.out w13 ((WP.out.mono fun _ _ h => h.elim).trans c13)
                    clear l13 c13 S1
                    go_wp2_with fail
                    refine (S2.out w13 L13.out).mono ?_
                    rintro e w14 ⟨rfl, l14, c14⟩
                    have L14 := Lib.hid l14
                    have C14 := Lib.hid (C13.out.trans c14)
                    clear l14 c14 S2
                    go_wp2_with fail
                    go_meet
                    exact ⟨t4, by rw [LE.out], L14.out, ⟨FM.out, E4.out⟩, C14.out⟩
                case rest =>
                  obtain ⟨t3, rfl, L3, M3, C3⟩ := hcut
                  have hxb := C3.out.keep XP.out wop.out
                  have q0c : wc.cell? ⟨wo2.heap.size, 0, none⟩ = some (.int .i64 pk) := by rw [blk_cell hxb]; rfl
                  have q1c : wc.cell? ⟨wo2.heap.size, 1, none⟩ = some (.int .i64 nk) := by rw [blk_cell hxb]; rfl
                  have C23 : Hid (Chg (· ∈ a.pb) wo2 wc) := (WP.out.mono fun _ _ h => h.elim).trans C3.out
                  have SLc : SlV wc .u8 (.slice R m d) ((bs V).drop o0) := SLk.out.off C23.out fun g hg hb => VP.out (by have := BLk.out g hg; rw [← this]; exact hb)
                  obtain ⟨v1, run1, sv1, bk1⟩ := SLc.toB Try.underlying48 elem_byte nk (by rw [List.length_drop, bs_length]; omega)
                  obtain ⟨A1, k1, rfl, sl1, -⟩ := sv1.v
                  have l1 : (((bs V).drop o0).take nk).length = nk := by rw [List.length_take, List.length_drop, bs_length]; omega
                  obtain ⟨v2, run2, sv2, bk2⟩ := SLc.fromB Try.underlying48 elem_byte nk (by rw [List.length_drop, bs_length]; omega)
                  obtain ⟨A2, k2', rfl, -⟩ := sv2.v
                  rw [List.drop_drop] at sv2 run2 bk2
                  have WC := write_calls (L3.out.chg (Chg.drew (fun _ => False) wc) id id fun _ _ => id) pk A1 k1 (((bs V).drop o0).take nk) (sl1.chg (Chg.drew (fun _ => False) wc) fun _ _ => id) (fun y hy => bs_bytes V y (List.mem_of_mem_drop (List.mem_of_mem_take hy))) (by rw [l1]; omega) (by omega)
                  have IK : ItemK s (ArenaPure.write t3 (partP P (bs K).length k2) (partV tc (bs K).length (bs V) k2)).1 tc P (bs K) (bs V) ex fl cas (k2 + 1) ∧ (ArenaPure.write t3 (partP P (bs K).length k2) (partV tc (bs K).length (bs V) k2)).1 = partS (baseS s (P.getD 0 0) (bs K) (bs V) ex fl cas) tc P (bs K) (bs V) (k2 + 1) := ⟨M3.out.1.part F.out (by rw [hnp.out]; exact k12), by
                    show _ = (ArenaPure.write (if k2 = 0 then _ else _) _ _).1
                    rw [← IKk.out.2, ← M3.out.2]⟩
                  rw [bs_length, hpk.out, PVE.out] at IK
                  rw [l1] at WC run1
                  replace WC := Lib.hid WC
                  replace IK := Lib.hid IK
                  generalize (ArenaPure.write t3 pk (((bs V).drop o0).take nk)).1 = t5 at WC IK
                  generalize (ArenaPure.write t3 pk (((bs V).drop o0).take nk)).2 = er5 at WC
                  replace sv2 := Lib.hid sv2
                  have BL2 : Hid (∀ g, (Value.slice A2 ((bs V).drop (o0 + nk)).length k2').ownBlock = some g → g = vb) := fun g hg => BLk.out g (bk2 g hg)
                  obtain ⟨m2, hm2⟩ : ∃ m2, ((bs V).drop (o0 + nk)).length = m2 := ⟨_, rfl⟩
                  rw [hm2] at sv2 run2 BL2
                  replace hm2 := Lib.hid hm2
                  replace hxb := Lib.hid hxb
                  clear sl1 bk1 bk2 SLc l1 p1 p2 e1 e1w
                  have CDr : Hid (Chg (· ∈ a.pb) wc (World.drew wc)) := Chg.drew _ _
                  go_wp2_with fail
                  go_still_tail 7, (by kernel_rfl)
                  change wpList _ _ _ _ _ wc.drew
                  generalize wc.drew = wd at WC CDr ⊢
                  go_wp2_with fail
                  refine WC.out.mono ?_
                  rintro e w15 ⟨rfl, l15, c15⟩
                  replace c15 := CDr.out.trans c15
                  have L15 := Lib.hid l15
                  have C15 : Hid (Chg (· ∈ a.pb) w12 w15) := (Ck.out.trans C23.out).trans c15
                  have S15 : Hid (SlV w15 .u8 (.slice A2 m2 k2') ((bs V).drop (o0 + nk))) := sv2.out.off c15 fun g hg hb => VP.out (by have := BL2.out g hg; rw [← this]; exact hb)
                  clear q0c q1c
                  have hxb2 := c15.keep hxb.out wop.out
                  have q1d : w15.cell? ⟨wo2.heap.size, 1, none⟩ = some (.int .i64 nk) := by rw [blk_cell hxb2]; rfl
                  clear l15 c15 WC hxb2
                  go_wp2_with fail
                  go_roundg (np - (k2 + 1))
                  case measure => have := hg.out; omega
                  case rel =>
                    have e0 : (offV tc K.size V.size (k2 + 1)).toNat = o0 + nk := by rw [PVN.out]; omega
                    exact ⟨k2 + 1, t5, linkP P k2, A2, m2, k2', rfl, rfl, rfl, rfl, by omega, by rw [Nat.add_sub_cancel]; exact rfl, by rw [e0]; exact S15.out, BL2.out, L15.out, IK.out, C15.out⟩
              · have ek : k2 = np := by omega
                have IF : Hid (ItemK s t2 tc P (bs K) (bs V) ex fl cas P.length ∧ t2 = partS (baseS s (P.getD 0 0) (bs K) (bs V) ex fl cas) tc P (bs K) (bs V) P.length) := by rw [hnp.out, ← ek]; exact IKk.out
                have F2 : Hid (WEnd w a s tc P K V ex fl cas (.returned (.int .i64 0)) wo2) := ⟨t2, rfl, Lk.out, IF.out.1, IF.out.2, CW12.out.trans Ck.out⟩
                have ek' : ¬ (k2 : Int) < np := by omega
                clear ek
                go_wp2_with fail
                go_ret
                exact F2.out
end Go.Proofs.Ytmffdlebahdihaa.Item

/- The walks of the program's item.Places and item.Read at an item that lies in its chunks. -/
namespace Go.Proofs.Ytmffdlebahdihaa.Item
open Go Go.RowKit Go.Proofs.Ytmffdlebahdihaa.Mem Go.Proofs.Ytmffdlebahdihaa.CodecPure Go.Proofs.Ytmffdlebahdihaa.ArenaPure Go.Proofs.Ytmffdlebahdihaa.Codec Go.Proofs.Ytmffdlebahdihaa.Arena Go.Proofs.Ytmffdlebahdihaa.NeedPure Go.Proofs.Ytmffdlebahdihaa.Need
set_option linter.unusedVariables false
set_option maxRecDepth 100000
variable {w w' : World} {a : Ar} {t : St} {tc : Int} {P key val : List Int} {ex fl cas : Int}
theorem _root_.Go.Proofs.Ytmffdlebahdihaa.ArenaPure.ItemAt.hdr (h : ItemAt t tc P key val ex fl cas) : within t (P.getD 0 0) 40 := by
  have hm : P.getD 0 0 ∈ P := by rw [List.getD_eq_getElem?_getD, List.getElem?_eq_getElem h.pos]; exact List.getElem_mem h.pos
  have := within_part (h.inn _ hm) 0 40 (by decide) (by decide) (by have := h.size; omega) (by decide)
  rwa [Int.add_zero] at this
theorem _root_.Go.Proofs.Ytmffdlebahdihaa.ArenaPure.ItemAt.p_in (h : ItemAt t tc P key val ex fl cas) {i : Nat} (hi : i < P.length) : within t (P.getD i 0) tc ∧ 0 ≤ P.getD i 0 ∧ P.getD i 0 ≤ 40000 := by
  have hm : P.getD i 0 ∈ P := by rw [List.getD_eq_getElem?_getD, List.getElem?_eq_getElem hi]; exact List.getElem_mem hi
  have hw := h.inn _ hm
  have := h.ok.high
  obtain ⟨_, h1, h2, _⟩ := hw
  exact ⟨h.inn _ hm, by omega, by omega⟩
/-- the places of an item: a row of the call's own -/
def PlEnd (w : World) (P : List Int) (e : Ending) (w' : World) : Prop :=
  ∃ A c, e = .returned (.tuple #[.slice A P.length c, .int .i64 0]) ∧ Mem.Own w' w.heap.size 3 .i64 (.slice A P.length c) P ∧ Chg (fun _ => False) w w'
theorem results_row_tmp {P : Program} {fn : Func} {p u : Tmp} {ty : TypeId} (h : fn.results = #[.cell p ty, .tmp u]) (tmps : Array Value) (w : World) (g : Nat) (t : TypeId) (cs : Array Value) (fr : Nat × Nat) (d : TypeDesc)
    (hp : tmps.getD p undef = .pointer (some ⟨g, 0, none⟩)) (hg : w.heap[g]? = some (.cells cs t fr))
    (hu : P.underlying ty = some d) (hd : (match d with | .struct _ | .array _ _ => true | _ => false) = true) (hi : (P.info? ty).map (·.size) = some cs.size) :
    (results fn tmps).run P w = .ok (.tuple #[.agg cs, tmps.getD u undef]) w := by
  rw [results_cell_tmp h, hp]
  simp [asAddr, run_loadVar_row w g t ty cs fr d hg hu hd hi, Result.andThen]
theorem u32_wrap (n : Int) : IntKind.u32.wrap n = n % 4294967296 := by simp [IntKind.wrap, IntKind.bits, IntKind.signed]
/-- what an item reads as -/
def rdV (key val : List Int) (fl ex cas : Int) : Value := .agg #[.string (strOfNums key), .string (strOfNums val), .int .u32 fl, .int .u32 ex, .int .u64 cas]
end Go.Proofs.Ytmffdlebahdihaa.Item

/- The walk of chapter 08's works, and of the law ItemNext. -/
namespace Go.Proofs.Ytmffdlebahdihaa.Item
open Go Go.RowKit Go.Proofs.Ytmffdlebahdihaa.Mem Go.Proofs.Ytmffdlebahdihaa.CodecPure Go.Proofs.Ytmffdlebahdihaa.ArenaPure Go.Proofs.Ytmffdlebahdihaa.Codec Go.Proofs.Ytmffdlebahdihaa.Arena Go.Proofs.Ytmffdlebahdihaa.NeedPure Go.Proofs.Ytmffdlebahdihaa.Need
set_option linter.unusedVariables false
set_option maxRecDepth 100000
variable {w w' : World} {a : Ar} {s t : St}
/-- no places: ErrField -/
theorem write_field (T : List Int) (AT : Option Addr) (cT : Nat) (hT : Sl w .i64 AT T) (hTm : T.length ≤ 1000) (hTw : ∀ x ∈ T, -9223372036854775808 ≤ x ∧ x ≤ 9223372036854775807)
    (K V : ByteArray) (ex fl cas : Int) (c more : Nat) (hn : needC T K.size V.size = ((c : Int), (more : Int), 0)) (hm : more ≤ 16) (g : Nat) (hK : K.size ≤ 1000) (hV : V.size ≤ 10000) :
    Calls Try.prog 70 #[(.pointer (some ⟨g, 0, none⟩)), .slice AT T.length cT, .slice none 0 0, itemV K V fl ex cas] w fun e w' => e = .returned (.int .i64 6) ∧ Chg (fun _ => False) w w' := by
  have N := need_calls AT cT T K.size V.size (w.alloc (.cells #[.string K, .string V, .int .u32 fl, .int .u32 ex, .int .u64 cas] 120)) (hT.chg (Chg.alloc (fun _ => False) _ _) fun _ _ => id) (by omega) hTw
  rw [hn] at N
  have C0 : Hid (Chg (fun _ => False) w (w.alloc (.cells #[.string K, .string V, .int .u32 fl, .int .u32 ex, .int .u64 cas] 120))) := Chg.alloc _ _ _
  replace N := Lib.hid N
  have hne : (0 != 1 + (more : Int)) = true := by rw [bne_iff_ne]; omega
  unfold itemV
  clear hT hTw hn
  go_enter Try.func70, Try.ntmps70
  go_wp2_with fail
  refine N.out.mono ?_
  rintro e w2 ⟨rfl, hd⟩
  have C2 := Lib.hid (C0.out.trans (hd.chg _))
  clear hd N
  go_wp2_with fail
  go_ret
  exact ⟨rfl, C2.out⟩
/-- an item written, and read again -/
theorem Fine.read {tc : Int} {P : List Int} {K V : ByteArray} {ex fl cas : Int} (F : Fine s tc P (bs K) (bs V) ex fl cas) (ha : offV tc (bs K).length (bs V).length P.length = (bs V).length) (h : ItemK s t tc P (bs K) (bs V) ex fl cas P.length) : ItemAt t tc P (bs K) (bs V) ex fl cas := h.all F ha
theorem small4 : (IntKind.u64.wrap 4).tmod 6 = ((4 : Nat) : Int) ∧ IntKind.u64.wrap 4 % 6 = ((4 : Nat) : Int) := by decide
theorem made6_own : (madeS 6).own = [1, 1, 1, 1, 1, -1] := by decide +kernel
def T3 : List Int := [64, 128, 1024]
def W6 (s : St) : Prop := s.own = [1, 1, 1, 1, 1, -1]
theorem needs3 : needC T3 3 3 = (((0 : Nat) : Int), ((0 : Nat) : Int), 0) ∧ needC T3 3 10 = (0, 0, 0) ∧ needC T3 3 1000 = (2, 1, 0) := by decide
def KEY : ByteArray := ⟨#[107, 101, 121]⟩
def VAL : ByteArray := ⟨#[97, 98, 99]⟩
theorem T3_range : ∀ x ∈ T3, -9223372036854775808 ≤ x ∧ x ≤ 9223372036854775807 := fun x hx => by
  simp only [T3, List.mem_cons, List.not_mem_nil, or_false] at hx
  omega
theorem within_first {s : St} (ho : 0 ≤ s.own.getD 0 0) (h0 : 0 < s.own.length) {x n : Int} (hx : 0 ≤ x) (hn : 0 ≤ n) (hf : x + n ≤ 1024) (hx2 : x < 1024) : within s x n := by
  have e : (x / 1024).toNat = 0 := by omega
  refine ⟨hn, hx, by omega, by rw [e]; exact ho, by omega⟩
theorem fine3 {s : St} (hs : Ok s) (ho : s.own = [1, 1, 1, 1, 1, -1]) : Fine s 64 [64] (bs KEY) (bs VAL) 6 5 7 := by
  have hk : bs KEY = [107, 101, 121] := rfl
  have hv : bs VAL = [97, 98, 99] := rfl
  refine ⟨hs, by decide, by rw [hk]; decide, fun p hp => ?_, fun i j hi hj e => ?_, by decide, by rw [hk, hv]; decide, ⟨bs_bytes _, bs_bytes _⟩, by decide⟩
  · simp only [List.mem_singleton] at hp
    subst hp
    exact within_first (by rw [ho]; decide) (by rw [ho]; decide) (by decide) (by decide) (by decide) (by decide)
  · simp at hi hj; omega
theorem Here.off {B : Nat} {w0 : World} (h : Here B w0 w a s) {A : Addr} {k : IntKind} {l : List Int} (hs : Sl w k (some A) l) (hl : 0 < l.length) {w1 : World} (h1 : Here B w0 w1 a t) (hlt : w1.heap.size ≤ A.block) : A.block ∉ a.pb := fun hb => by
  have := h1.pb_lt _ hb
  omega
end Go.Proofs.Ytmffdlebahdihaa.Item

/- The walk of the law ItemNext: it returns true at any numbers. -/
namespace Go.Proofs.Ytmffdlebahdihaa.Item
open Go Go.RowKit Go.Proofs.Ytmffdlebahdihaa.Mem Go.Proofs.Ytmffdlebahdihaa.CodecPure Go.Proofs.Ytmffdlebahdihaa.ArenaPure Go.Proofs.Ytmffdlebahdihaa.Codec Go.Proofs.Ytmffdlebahdihaa.Arena Go.Proofs.Ytmffdlebahdihaa.NeedPure Go.Proofs.Ytmffdlebahdihaa.Need
set_option linter.unusedVariables false
set_option maxRecDepth 100000
/-- what a table of two sizes answers -/
theorem need_two {L k v : Int} (hL : 256 ≤ L ∧ L ≤ 1024) (hk : 1 ≤ k ∧ k ≤ 32) (hv : 0 ≤ v ∧ v ≤ 2000) :
    (40 + k + v ≤ 64 ∧ needC [64, L] k v = (0, 0, 0)) ∨ (64 < 40 + k + v ∧ 40 + k + v ≤ L ∧ needC [64, L] k v = (1, 0, 0)) ∨
      (64 < 40 + k + v ∧ L < 40 + k + v ∧ ∃ m : Nat, needC [64, L] k v = (1, (m : Int), 0) ∧ 1 ≤ m ∧ m ≤ 8 ∧ 40 + k + v ≤ L + m * (L - 4) ∧ L + (m - 1) * (L - 4) < 40 + k + v) := by
  have hlast : last [64, L] = L := rfl
  unfold needC
  rw [if_neg (by omega), if_neg (by rw [hlast]; simp; omega), hlast]
  by_cases h1 : 40 + k + v ≤ 64
  · have e : forC [64, L] (40 + k + v) = (((0 : Nat) : Int), 0) := forC_some _ _ (by omega) 0 (by simp) (fun j hj => by omega) (by show (64 : Int) ≥ _; omega)
    rw [e]
    exact .inl ⟨h1, rfl⟩
  · by_cases h2 : 40 + k + v ≤ L
    · have e : forC [64, L] (40 + k + v) = (((1 : Nat) : Int), 0) := forC_some _ _ (by omega) 1 (by simp) (fun j hj => by
        have : j = 0 := by omega
        subst this
        show (64 : Int) < _; omega) (by show L ≥ _; omega)
      rw [e]
      exact .inr (.inl ⟨by omega, h2, rfl⟩)
    · have e : forC [64, L] (40 + k + v) = (0, 7) := forC_none _ _ (by omega) fun j hj => by
        have : j = 0 ∨ j = 1 := by simp at hj; omega
        rcases this with rfl | rfl
        · show (64 : Int) < _; omega
        · show L < _; omega
      rw [e, if_neg (by decide)]
      refine .inr (.inr ⟨by omega, by omega, ((40 + k + v - L + (L - 4) - 1) / (L - 4)).toNat, ?_⟩)
      have q0 : 0 ≤ (40 + k + v - L + (L - 4) - 1) / (L - 4) := Int.ediv_nonneg (by omega) (by omega)
      have q1 := Int.mul_ediv_add_emod (40 + k + v - L + (L - 4) - 1) (L - 4)
      have q2 := Int.emod_nonneg (40 + k + v - L + (L - 4) - 1) (b := L - 4) (by omega)
      have q3 := Int.emod_lt_of_pos (40 + k + v - L + (L - 4) - 1) (b := L - 4) (by omega)
      obtain ⟨m, hm⟩ := Int.eq_ofNat_of_zero_le q0
      rw [hm] at q1 ⊢
      have em : ((m : Int)).toNat = m := by omega
      rw [em]
      have q4 : (L - 4) * (m : Int) = m * (L - 4) := Int.mul_comm _ _
      have q5 : ((m : Int) - 1) * (L - 4) = m * (L - 4) - (L - 4) := by rw [Int.sub_mul, Int.one_mul]
      rw [q5]
      have m8 : m ≤ 8 := by
        rcases Nat.lt_or_ge 8 m with h | h
        · have : 9 * (L - 4) ≤ (m : Int) * (L - 4) := Int.mul_le_mul_of_nonneg_right (by omega) (by omega)
          omega
        · exact h
      refine ⟨rfl, ?_, m8, by omega, by omega⟩
      rcases Nat.eq_zero_or_pos m with h | h
      · subst h; simp at q1; omega
      · exact h
theorem two_range {L : Int} (hL : 256 ≤ L ∧ L ≤ 1024) : ∀ x ∈ [64, L], -9223372036854775808 ≤ x ∧ x ≤ 9223372036854775807 := fun x hx => by
  simp only [List.mem_cons, List.not_mem_nil, or_false] at hx
  rcases hx with rfl | rfl <;> omega
end Go.Proofs.Ytmffdlebahdihaa.Item

/- Chapter 08: one chunk's item laid in either order is the same. No program in sight. -/
namespace Go.Proofs.Ytmffdlebahdihaa.ArenaPure
open Go Go.RowKit Go.Proofs.Ytmffdlebahdihaa.Mem Go.Proofs.Ytmffdlebahdihaa.CodecPure Go.Proofs.Ytmffdlebahdihaa.Codec Go.Proofs.Ytmffdlebahdihaa.Arena Go.Proofs.Ytmffdlebahdihaa.NeedPure
set_option linter.unusedVariables false
set_option maxRecDepth 100000
theorem splice_comm (L X Y : List Int) (o p : Nat) (h1 : o + X.length ≤ L.length) (h2 : p + Y.length ≤ L.length) (hf : o + X.length ≤ p ∨ p + Y.length ≤ o) : splice (splice L o X) p Y = splice (splice L p Y) o X := by
  have l1 := length_splice L o X h1
  have l2 := length_splice L p Y h2
  apply List.ext_getElem?
  intro i
  rw [splice_get (splice L o X) Y p (by omega), splice_get L X o h1, splice_get (splice L p Y) X o (by omega), splice_get L Y p h2]
  by_cases a : p ≤ i ∧ i < p + Y.length
  · rw [if_pos a, if_neg (by omega), if_pos a]
  · rw [if_neg a]
    by_cases b : o ≤ i ∧ i < o + X.length
    · rw [if_pos b, if_pos b]
    · rw [if_neg b, if_neg b, if_neg a]
theorem lay_comm {s : St} (hs : Ok s) {o p : Int × List Int} (h1 : within s o.1 o.2.length) (h2 : within s p.1 p.2.length) (hf : Off o p) : lay (lay s o.1 o.2) p.1 p.2 = lay (lay s p.1 p.2) o.1 o.2 := by
  have r1 := in_row hs h1
  have r2 := in_row hs h2
  have z1 := h1.2.1
  have z2 := h2.2.1
  unfold Off at hf
  unfold lay
  congr 1
  exact splice_comm _ _ _ _ _ (by omega) (by omega) (by omega)
theorem Good.perm {s : St} {l m : List (Int × List Int)} (h : Good s l) (hp : l.Perm m) : Good s m := ⟨h.ok, fun o ho => h.inn o (hp.mem_iff.2 ho)⟩
/-- the same rows of bytes, in either order -/
theorem lays_perm {l m : List (Int × List Int)} (hp : l.Perm m) : ∀ {s : St}, Good s l → l.Pairwise Off → lays s l = lays s m := by
  induction hp with
  | nil => intro s _ _; rfl
  | cons o _ ih => intro s hg hw; exact ih hg.step (List.pairwise_cons.1 hw).2
  | swap o p l =>
    intro s hg hw
    show lays (lay (lay s p.1 p.2) o.1 o.2) l = lays (lay (lay s o.1 o.2) p.1 p.2) l
    rw [lay_comm hg.ok (hg.inn p (by simp)).1 (hg.inn o (by simp)).1 ((List.pairwise_cons.1 hw).1 o (by simp))]
  | trans h1 _ ih1 ih2 =>
    intro s hg hw
    rw [ih1 hg hw]
    exact ih2 (hg.perm h1) ((List.Perm.pairwise_iff (fun h => Off.symm h) h1).1 hw)
/-- what the program lays, in its order -/
def opsP (x : Int) (key val : List Int) : List (Int × List Int) :=
  [(x + 0, pb4 (-1)), (x + 4, pb4 (-1)), (x + 8, pb4 (-1)), (x + 12, pb4 (-1)), (x + 24, leb 0 4), (x + 28, leb 0 4), (x + 32, leb val.length 2), (x + 34, leb key.length 1), (x + 35, leb 0 1), (x + 36, leb 0 1), (x + 37, leb 0 1), (x + 16, leb 0 8), (x + 40, key), (x + 40 + key.length, val)]
/-- .. and the reference -/
def opsR (x : Int) (key val : List Int) : List (Int × List Int) :=
  [(x + 0, pb4 (-1)), (x + 4, pb4 (-1)), (x + 8, pb4 (-1)), (x + 16, leb 0 8), (x + 24, leb 0 4), (x + 28, leb 0 4), (x + 32, leb val.length 2), (x + 34, leb key.length 1), (x + 35, leb 0 1), (x + 36, leb 0 1), (x + 37, leb 0 1), (x + 40, key), (x + 12, pb4 (-1)), (x + 40 + key.length, val)]
theorem ops_perm (x : Int) (key val : List Int) : (opsP x key val).Perm (opsR x key val) := by
  unfold opsP opsR
  refine .cons _ (.cons _ (.cons _ ?_))
  refine List.Perm.trans (List.perm_middle (a := (x + 16, leb 0 8)) (l₁ := [(x + 12, pb4 (-1)), (x + 24, leb 0 4), (x + 28, leb 0 4), (x + 32, leb val.length 2), (x + 34, leb key.length 1), (x + 35, leb 0 1), (x + 36, leb 0 1), (x + 37, leb 0 1)]) (l₂ := [(x + 40, key), (x + 40 + key.length, val)])) ?_
  refine .cons _ ?_
  exact (List.perm_middle (a := (x + 12, pb4 (-1))) (l₁ := [(x + 24, leb 0 4), (x + 28, leb 0 4), (x + 32, leb val.length 2), (x + 34, leb key.length 1), (x + 35, leb 0 1), (x + 36, leb 0 1), (x + 37, leb 0 1), (x + 40, key)]) (l₂ := [(x + 40 + key.length, val)])).symm
theorem opsP_good {s : St} (hs : Ok s) {x : Int} {key val : List Int} {tc : Int} (hw : within s x tc) (hk : 1 ≤ key.length ∧ key.length ≤ 32) (hv : 1 ≤ val.length) (hf : 40 + (key.length : Int) + val.length ≤ tc) (bk : Bytes key) (bv : Bytes val) : Good s (opsP x key val) := by
  have part : ∀ (k : Int) (X : List Int), 0 ≤ k → 0 < X.length → k + X.length ≤ tc → Bytes X → within s (x + k) X.length ∧ Bytes X := fun k X h0 h1 h2 hb => ⟨within_part hw k X.length h0 (by omega) h2 (by omega), hb⟩
  refine ⟨hs, fun o ho => ?_⟩
  unfold opsP at ho
  simp only [List.mem_cons, List.not_mem_nil, or_false] at ho
  have l4 := pb4_length (-1)
  rcases ho with rfl | rfl | rfl | rfl | rfl | rfl | rfl | rfl | rfl | rfl | rfl | rfl | rfl | rfl
  · exact part 0 _ (by decide) (by rw [l4]; decide) (by rw [l4]; omega) (pb4_bytes _)
  · exact part 4 _ (by decide) (by rw [l4]; decide) (by rw [l4]; omega) (pb4_bytes _)
  · exact part 8 _ (by decide) (by rw [l4]; decide) (by rw [l4]; omega) (pb4_bytes _)
  · exact part 12 _ (by decide) (by rw [l4]; decide) (by rw [l4]; omega) (pb4_bytes _)
  · exact part 24 _ (by decide) (by rw [leb_length]; decide) (by rw [leb_length]; omega) (leb_bytes _ _)
  · exact part 28 _ (by decide) (by rw [leb_length]; decide) (by rw [leb_length]; omega) (leb_bytes _ _)
  · exact part 32 _ (by decide) (by rw [leb_length]; decide) (by rw [leb_length]; omega) (leb_bytes _ _)
  · exact part 34 _ (by decide) (by rw [leb_length]; decide) (by rw [leb_length]; omega) (leb_bytes _ _)
  · exact part 35 _ (by decide) (by rw [leb_length]; decide) (by rw [leb_length]; omega) (leb_bytes _ _)
  · exact part 36 _ (by decide) (by rw [leb_length]; decide) (by rw [leb_length]; omega) (leb_bytes _ _)
  · exact part 37 _ (by decide) (by rw [leb_length]; decide) (by rw [leb_length]; omega) (leb_bytes _ _)
  · exact part 16 _ (by decide) (by rw [leb_length]; decide) (by rw [leb_length]; omega) (leb_bytes _ _)
  · exact part 40 key (by decide) (by omega) (by omega) bk
  · have := part (40 + key.length) val (by omega) (by omega) (by omega) bv
    rw [← Int.add_assoc] at this
    exact this
theorem opsP_off (x : Int) (key val : List Int) : (opsP x key val).Pairwise Off := by
  have l4 := pb4_length (-1)
  unfold opsP Off
  simp only [List.pairwise_cons, List.mem_cons, List.not_mem_nil, or_false, forall_eq_or_imp, forall_eq, List.Pairwise.nil, and_true, l4, leb_length, false_imp_iff, implies_true]
  (repeat' apply And.intro) <;> (try trivial) <;> omega
end Go.Proofs.Ytmffdlebahdihaa.ArenaPure

