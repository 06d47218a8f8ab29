/- The program's parts of a value: the walk of item.parts. -/
import Derived.Test.YtolpjgpimholcaaItemK
import Derived.Test.YtolpjgpimholcaaItemGet
import Derived.Test.YtolpjgpimholcaaSlice2
import Derived.Test.YtolpjgpimholcaaNeed3
import Derived.Deep.LoopGhost
import Derived.Deep.QuietTactic
import Derived.BigQuiet
import Derived.StillTailTactics
import Derived.Deep.RegionHeld3
import Derived.Deep.DeepCutAuto
import Derived.Deep.CutBlock
namespace Go.Proofs.Ytolpjgpimholcaa.Item
open Go Go.RowKit Go.Proofs.Ytolpjgpimholcaa.Mem Go.Proofs.Ytolpjgpimholcaa.CodecPure Go.Proofs.Ytolpjgpimholcaa.ArenaPure Go.Proofs.Ytolpjgpimholcaa.Codec Go.Proofs.Ytolpjgpimholcaa.Arena Go.Proofs.Ytolpjgpimholcaa.NeedPure
set_option linter.unusedVariables false
set_option maxRecDepth 100000
/-- the parts below k, as cells -/
def partCells (P : List Int) (tc kl vl : Int) : Nat → List Value
  | 0 => []
  | k + 1 => partCells P tc kl vl k ++ [.int .i64 (partP P kl k), .int .i64 (offV tc kl vl (k + 1) - offV tc kl vl k)]
theorem partCells_length (P : List Int) (tc kl vl : Int) (k : Nat) : (partCells P tc kl vl k).length = k * 2 := by
  induction k with
  | zero => rfl
  | succ k ih => show (_ ++ [_, _]).length = _; rw [List.length_append, ih]; simp; omega
theorem partCells_get (P : List Int) (tc kl vl : Int) (i : Nat) : ∀ k, i < k → (partCells P tc kl vl k)[i * 2]? = some (.int .i64 (partP P kl i)) ∧ (partCells P tc kl vl k)[i * 2 + 1]? = some (.int .i64 (offV tc kl vl (i + 1) - offV tc kl vl i)) := by
  intro k
  induction k with
  | zero => intro h; omega
  | succ k ih =>
    intro h
    have l := partCells_length P tc kl vl k
    show (partCells P tc kl vl k ++ _)[_]? = _ ∧ (partCells P tc kl vl k ++ _)[_]? = _
    by_cases e : i = k
    · subst e
      rw [List.getElem?_append_right (by omega), List.getElem?_append_right (by omega), l, Nat.sub_self, Nat.add_sub_cancel_left]
      exact ⟨rfl, rfl⟩
    · rw [List.getElem?_append_left (by omega), List.getElem?_append_left (by omega)]
      exact ih (by omega)
theorem info_part : (Try.prog.info? 112).map (fun i => (i.zero, i.size, i.bytes)) = some (some (.agg #[.int .i64 0, .int .i64 0]), 2, 16) := by kernel_rfl
/-- a row of parts of the call's own -/
def PRow (w : World) (B : Nat) (v : Value) (P : List Int) (tc kl vl : Int) (k : Nat) : Prop := w.ownsRow B 112 2 v k (partCells P tc kl vl k)
theorem PRow.form {w : World} {B : Nat} {v : Value} {P : List Int} {tc kl vl : Int} {k : Nat} (h : PRow w B v P tc kl vl k) : ∃ A c, v = .slice A k c := by
  rcases h.2 with ⟨rfl, h0⟩ | ⟨g, cap, cur, rfl, _⟩
  · exact ⟨none, 0, by rw [h0]⟩
  · exact ⟨_, _, rfl⟩
theorem PRow.fresh {w w' : World} {B : Nat} {v : Value} {P : List Int} {tc kl vl : Int} {k : Nat} {S : Nat → Prop} (h : PRow w B v P tc kl vl k) (hc : Chg S w w') (hS : ∀ g, S g → g < B) : PRow w' B v P tc kl vl k := by
  refine ⟨h.1, ?_⟩
  rcases h.2 with h2 | ⟨g, cap, cur, rfl, hg, hh, r⟩
  · exact .inl h2
  · exact .inr ⟨g, cap, cur, rfl, hg, hc.keep hh (fun q => by have := hS g q; omega), r⟩
/-- the cells of one part -/
theorem PRow.cells {w : World} {B : Nat} {A : Option Addr} {n c : Nat} {P : List Int} {tc kl vl : Int} {k : Nat} (h : PRow w B (.slice A n c) P tc kl vl k) {i : Nat} (hi : i < k) :
    ∃ g, A = some ⟨g, 0, none⟩ ∧ B ≤ g ∧ w.cell? ⟨g, i * 2, none⟩ = some (.int .i64 (partP P kl i)) ∧ w.cell? ⟨g, i * 2 + 1, none⟩ = some (.int .i64 (offV tc kl vl (i + 1) - offV tc kl vl i)) := by
  obtain ⟨g1, g2⟩ := partCells_get P tc kl vl i k hi
  rcases h.2 with ⟨h0, h1⟩ | ⟨g, cap, cur, hv, hg, hh, hn, hm, hs, ht⟩
  · omega
  · injection hv with hA _ _
    subst hA
    refine ⟨g, rfl, hg, ?_, ?_⟩
    · have := World.ownsRow.cells (v := .slice (some ⟨g, 0, none⟩) n c) h rfl _ _ g1
      rwa [add_plain, Nat.zero_add] at this
    · have := World.ownsRow.cells (v := .slice (some ⟨g, 0, none⟩) n c) h rfl _ _ g2
      rwa [add_plain, Nat.zero_add] at this
theorem grown_chg {w W w5 : World} {v : Value} (h : Chg (fun _ => False) w W) (hlow : ∀ g, v.ownBlock = some g → w.heap.size ≤ g) (hg : W.grownBy w5 v.ownBlock) : Chg (fun _ => False) w w5 :=
  ⟨hg.os.trans h.os, hg.tape.trans h.tape, hg.output.trans h.output, Nat.le_trans h.size hg.size, fun b hb _ => (hg.block b (Nat.lt_of_lt_of_le hb h.size) (fun e => by have := hlow b e.symm; omega)).trans (h.block b hb id)⟩
theorem cells_new (w : World) (cs : List Value) (t : TypeId) : ∀ j u, cs[j]? = some u → (w.alloc (.cells cs.toArray t)).cell? ((⟨w.heap.size, 0, none⟩ : Addr).add j) = some u := fun j u hj => by
  rw [add_plain, Nat.zero_add, blk_cell (heap_alloc_at w _), List.getElem?_toArray]
  exact hj
theorem ints_one (a b : Int) : ∀ u ∈ [Value.int .i64 a, Value.int .i64 b], u.oneCell' = true := fun u hu => by
  simp only [List.mem_cons, List.not_mem_nil, or_false] at hu
  rcases hu with rfl | rfl <;> rfl
theorem elem_int (W : World) : (Go.sizeOf (Try.prog.elem 27)).run Try.prog W = .ok 1 W := by kernel_rfl
/-- what parts answers: a row of its own -/
def PEnd (w : World) (P : List Int) (tc kl vl : Int) (e : Ending) (w' : World) : Prop :=
  ∃ A c, e = .returned (.slice A P.length c) ∧ PRow w' w.heap.size (.slice A P.length c) P tc kl vl P.length ∧ Chg (fun _ => False) w w'
set_option maxHeartbeats 1000000 in
theorem parts_calls {w : World} (T : List Int) (AT : Option Addr) (cT : Nat) (hT : Sl w .i64 AT T) (hTm : T.length ≤ 1000) (P : List Int) (v : Value) (hP : SlV w .i64 v P) (h0 : 0 < P.length) (hPm : P.length ≤ 100)
    (c : Nat) (hc : c < T.length) (tc : Int) (htc : T.getD c 0 = tc) (kl vl : Nat) (h32 : kl ≤ 32) (h2000 : vl ≤ 2000) (hsz : 40 + (kl : Int) ≤ tc ∧ 44 ≤ tc ∧ tc ≤ 1024) (hI : ∀ p ∈ P, 0 ≤ p ∧ p ≤ 100000) :
    Calls Try.prog 66 #[.slice AT T.length cT, v, (.int .i64 c), (.int .i64 kl), (.int .i64 vl)] w (PEnd w P tc kl vl) := by
  obtain ⟨AP, cP, rfl, hs, hcap, hmx, hnil⟩ := hP.v
  obtain ⟨ad, rfl, e0⟩ := hs 0 h0
  rw [add_zero] at e0
  obtain ⟨at', rfl, ec⟩ := hT c hc
  rw [htc] at ec
  have z0 := hI (P.getD 0 0) (by rw [List.getD_eq_getElem?_getD, List.getElem?_eq_getElem h0]; exact List.getElem_mem h0)
  have b0 := World.block_lt_of_cell? w _ e0
  have bc := World.block_lt_of_cell? w _ ec
  obtain ⟨s1, s2, s3⟩ := hsz
  obtain ⟨z1, z2⟩ := z0
  obtain ⟨p0, hp0⟩ : ∃ p0, P.getD 0 0 = p0 := ⟨_, rfl⟩
  rw [hp0] at e0 z1 z2
  replace hp0 := Lib.hid hp0
  replace htc := Lib.hid htc
  have w1 : IntKind.i64.wrap (p0 + 40) = p0 + 40 := IntWalk.i64_in _ (by omega)
  have w2 : IntKind.i64.wrap (p0 + 40 + (kl : Int)) = p0 + 40 + kl := IntWalk.i64_in _ (by omega)
  have w3 : IntKind.i64.wrap (tc - 40) = tc - 40 := IntWalk.i64_in _ (by omega)
  have w4 : IntKind.i64.wrap (tc - 40 - (kl : Int)) = tc - 40 - kl := IntWalk.i64_in _ (by omega)
  have c1 : (0 : Int) ≤ c := by omega
  have c2 : (c : Int) < T.length := by omega
  have c3 : ((c : Int)).toNat = c := by omega
  have l1 : (0 : Int) < P.length := by omega
  obtain ⟨n0, hn0⟩ : ∃ n0, min (vl : Int) (tc - 40 - kl) = n0 := ⟨_, rfl⟩
  have mn : (if tc - 40 - (kl : Int) < vl then tc - 40 - (kl : Int) else (vl : Int)) = n0 := by rw [← hn0]; split <;> omega
  have n1 : 0 ≤ n0 ∧ n0 ≤ 2000 := by omega
  replace hn0 := Lib.hid hn0
  have PT := Lib.hid (hs.chg (Chg.refl (fun _ => False) w) fun _ _ => id)
  replace hT := Lib.hid hT
  clear hs hP
  go_enter Try.func66, Try.ntmps66
  go_upto_region 1 with fail
  go_cut [11] (fun f wc => f = .pointer (some ⟨w.heap.size, 0, none⟩) ∧ Hid (wc.heap[w.heap.size]? = some (.cells #[.int .i64 (p0 + 40 + kl), .int .i64 n0] 112 (0, 0))) ∧ Hid (Chg (fun _ => False) w wc))
  case first =>
    have F : Hid ((w.alloc (.cells #[.int .i64 (p0 + 40 + kl), .int .i64 n0] 112)).drew.heap[w.heap.size]? = some (.cells #[.int .i64 (p0 + 40 + kl), .int .i64 n0] 112 (0, 0)) ∧ Chg (fun _ => False) w (w.alloc (.cells #[.int .i64 (p0 + 40 + kl), .int .i64 n0] 112)).drew) := ⟨heap_alloc_at w _, (Chg.alloc _ _ _).trans (Chg.drew _ _)⟩
    go_wp2_with fail
    go_region_held3 (fun w' => w'.cell? ad = some (.int .i64 p0) ∧ w'.cell? (at'.add c) = some (.int .i64 tc)) (go_keep) (first | fail)
    all_goals
      go_wp2_with fail
      go_meet
      exact ⟨rfl, F.out.1, F.out.2⟩
  case rest =>
    obtain ⟨rfl, FB, CC⟩ := hcut
    have f0 : wc.cell? ⟨w.heap.size, 0, none⟩ = some (.int .i64 (p0 + 40 + kl)) := by rw [blk_cell FB.out]; rfl
    have f1 : wc.cell? ⟨w.heap.size, 1, none⟩ = some (.int .i64 n0) := by rw [blk_cell FB.out]; rfl
    clear e0 ec w1 w2 w3 w4 mn b0 bc
    obtain ⟨np, hnp⟩ : ∃ np, P.length = np := ⟨_, rfl⟩
    have SV : SlV w .i64 (.slice (some ad) P.length cP) P := ⟨some ad, cP, rfl, PT.out, hcap, hmx, hnil⟩
    obtain ⟨v1, run1, sv1⟩ := SV.from Try.underlying27 elem_int 1 h0
    obtain ⟨A1, k1, rfl, sl1, ck1, cm1, nl1⟩ := sv1.v
    replace run1 : ∀ W, (Instr.sliceAt 27 (.slice (some ad) P.length cP) (some (.int .i64 1)) none none).run Try.prog W = .ok (.slice A1 (P.drop 1).length k1) W := fun W => run1 W
    have e0v : offV tc kl vl 1 = n0 := hn0.out
    have wl : IntKind.i64.wrap ((vl : Int) - n0) = vl - n0 := IntWalk.i64_in _ (by omega)
    have RW : Hid (SlV w .i64 (.slice A1 (P.drop 1).length k1) (P.drop 1)) := sv1
    have hm1 : (P.drop 1).length = np - 1 := by rw [List.length_drop, hnp]
    rw [hm1] at run1 RW
    rw [hnp] at run1 hcap h0 hPm l1 ⊢
    obtain ⟨m1, em1⟩ : ∃ m1, np - 1 = m1 := ⟨_, rfl⟩
    rw [em1] at run1 RW
    replace em1 := Lib.hid em1
    replace hnp := Lib.hid hnp
    replace e0v := Lib.hid e0v
    have PR0 : Hid (PRow (wc.alloc (.cells #[.int .i64 (p0 + 40 + kl), .int .i64 n0] 112)) w.heap.size (.slice (some ⟨wc.heap.size, 0, none⟩) 1 1) P tc kl vl 1) := by
      have := World.ownsRow_lit (base := w.heap.size) (e := 112) (size := 2) wc #[.int .i64 (p0 + 40 + kl), .int .i64 n0] 1 CC.out.size (by decide) rfl
      have e : partCells P tc kl vl 1 = [.int .i64 (p0 + 40 + kl), .int .i64 n0] := by
        show [] ++ [_, _] = _
        rw [show partP P kl 0 = p0 + 40 + kl from by unfold partP; rw [if_pos rfl, hp0.out], e0v.out, show offV tc kl vl 0 = 0 from rfl, Int.sub_zero]; rfl
      unfold PRow
      rw [e]
      exact this
    have CD : Hid (Chg (fun _ => False) w (wc.alloc (.cells #[.int .i64 (p0 + 40 + kl), .int .i64 n0] 112))) := CC.out.trans (Chg.alloc _ _ _)
    have g1 : (wc.alloc (.cells #[.int .i64 (p0 + 40 + kl), .int .i64 n0] 112)).cell? ⟨w.heap.size, 1, none⟩ = some (.int .i64 n0) := (Chg.alloc (fun _ => False) wc _).cell f1 id
    clear SV sv1 sl1 nl1 PT hm1
    go_wp2_with fail
    clear f0 f1 FB CC
    generalize hwd : wc.alloc (.cells #[.int .i64 (p0 + 40 + kl), .int .i64 n0] 112) = wd at PR0 CD g1 ⊢
    clear hwd
    go_quiet (fail)
    have PR1 : Hid (PRow (wd.drewN nq) w.heap.size (.slice (some ⟨wc.heap.size, 0, none⟩) 1 1) P tc kl vl 1) := PR0.out.fresh (Chg.drewN (fun _ => False) wd nq) fun _ h => h.elim
    have CE : Hid (Chg (fun _ => False) w (wd.drewN nq)) := CD.out.trans (Chg.drewN _ _ _)
    clear g1 run1 wl
    generalize wd.drewN nq = we at PR1 CE ⊢
    go_wp2_with fail
    have hmm : 1 + m1 = np := by have := em1.out; omega
    replace hmm := Lib.hid hmm
    go_loopg [12, 13, 14] m1 (fun g l left rest wr => ∃ (k m : Nat) (A c' : _) (R : Option Addr) (d : Nat), l = .slice A k c' ∧ left = .int .i64 ((vl : Int) - offV tc kl vl k) ∧ rest = .slice R m d ∧ g = m ∧ Hid (k + m = np) ∧ 1 ≤ k ∧ Hid (PRow wr w.heap.size (.slice A k c') P tc kl vl k) ∧ Hid (SlV w .i64 (.slice R m d) (P.drop k)) ∧ Hid (Chg (fun _ => False) w wr))
    case atStart => exact ⟨1, m1, _, _, A1, k1, rfl, by rw [e0v.out], rfl, rfl, hmm.out, Nat.le_refl _, PR1.out, RW.out, CE.out⟩
    case round =>
      obtain ⟨k, m, A, c', R, d, rfl, rfl, rfl, hg, hkm, hk1, PRk, SVk, CK⟩ := hrel
      obtain ⟨wo, rfl⟩ : ∃ wo : World, wo = wr := ⟨_, rfl⟩
      replace hg := Lib.hid hg
      cases m with
      | zero =>
        obtain rfl : k = np := hkm.out
        clear hkm
        have F : Hid (PEnd w P tc kl vl (.returned (.slice A k c')) wo) := ⟨A, c', by rw [hnp.out], by rw [hnp.out]; exact PRk.out, CK.out⟩
        go_wp2_with fail
        go_ret
        exact F.out
      | succ m =>
        have hk : k < np := by have := hkm.out; omega
        have dl : (P.drop k).length = m + 1 := by rw [List.length_drop, hnp.out]; have := hkm.out; omega
        obtain ⟨R', d', eR, slk, dk, dm, -⟩ := SVk.out.v
        injection eR with e1 e2 e3
        subst e1 e3
        obtain ⟨ad2, rfl, ck⟩ := slk 0 (by omega)
        rw [add_zero] at ck
        have eP : (P.drop k).getD 0 0 = P.getD k 0 := by rw [List.getD_eq_getElem?_getD, List.getElem?_drop, List.getD_eq_getElem?_getD]; rfl
        rw [eP] at ck
        replace ck := CK.out.cell ck id
        have zk := hI (P.getD k 0) (by rw [List.getD_eq_getElem?_getD, List.getElem?_eq_getElem (by rw [hnp.out]; exact hk)]; exact List.getElem_mem _)
        have ct : wo.cell? (at'.add c) = some (.int .i64 tc) := by
          obtain ⟨at2, e, h⟩ := hT.out c hc
          cases e
          rw [htc.out] at h
          exact CK.out.cell h id
        have ov := offV_mono (tc := tc) (kl := kl) (vl := vl) s1 s2 (by omega) k
        have os : offV tc kl vl (k + 1) = offV tc kl vl k + min ((vl : Int) - offV tc kl vl k) (tc - 4) := by
          obtain ⟨k', rfl⟩ : ∃ k', k = k' + 1 := ⟨k - 1, by omega⟩
          rfl
        obtain ⟨lf, hlf⟩ : ∃ lf, (vl : Int) - offV tc kl vl k = lf := ⟨_, rfl⟩
        rw [hlf] at os ⊢
        have lf0 : 0 ≤ lf ∧ lf ≤ 2000 := by omega
        obtain ⟨nk, hnk⟩ : ∃ nk, min lf (tc - 4) = nk := ⟨_, rfl⟩
        have mnk : (if tc - 4 < lf then tc - 4 else lf) = nk := by rw [← hnk]; split <;> omega
        have nk0 : 0 ≤ nk ∧ nk ≤ lf := by omega
        obtain ⟨pk, hpk⟩ : ∃ pk, P.getD k 0 = pk := ⟨_, rfl⟩
        rw [hpk] at ck zk
        have hl2 : Hid ((vl : Int) - offV tc kl vl (k + 1) = lf - nk) := by rw [os, ← hnk]; show _ = _; omega
        have hpc : Hid (partCells P tc kl vl (k + 1) = partCells P tc kl vl k ++ [.int .i64 (pk + 4), .int .i64 nk]) := by
          show _ ++ [_, _] = _
          rw [show partP P kl k = pk + 4 from by unfold partP; rw [if_neg (by omega), hpk], show offV tc kl vl (k + 1) - offV tc kl vl k = nk from by omega]
        obtain ⟨v3, run3, sv3⟩ := SVk.out.from Try.underlying27 elem_int 1 (by omega)
        obtain ⟨A3, k3, rfl, -⟩ := sv3.v
        have l3 : ((P.drop k).drop 1).length = m := by rw [List.length_drop, dl]; omega
        rw [l3] at run3 sv3
        have d3 : (P.drop k).drop 1 = P.drop (k + 1) := by rw [List.drop_drop]
        rw [d3] at sv3
        replace run3 : ∀ W, (Instr.sliceAt 27 (.slice (some ad2) (m + 1) d) (some (.int .i64 1)) none none).run Try.prog W = .ok (.slice A3 m k3) W := fun W => run3 W
        replace sv3 := Lib.hid sv3
        have wk1 : IntKind.i64.wrap (tc - 4) = tc - 4 := IntWalk.i64_in _ (by omega)
        have wk2 : IntKind.i64.wrap (pk + 4) = pk + 4 := IntWalk.i64_in _ (by omega)
        have wk3 : IntKind.i64.wrap (lf - nk) = lf - nk := IntWalk.i64_in _ (by omega)
        have mp : (0 : Int) < (m : Int) + 1 := by omega
        replace hpk := Lib.hid hpk
        replace hlf := Lib.hid hlf
        replace hnk := Lib.hid hnk
        clear ov os eP dl l3 d3 slk e2
        have PW : Hid (PRow (wo.alloc (.cells #[.int .i64 (pk + 4), .int .i64 nk] 112)) w.heap.size (.slice A k c') P tc kl vl k) := PRk.out.fresh (Chg.alloc (fun _ => False) wo _) fun _ h => h.elim
        have CW : Hid (Chg (fun _ => False) w (wo.alloc (.cells #[.int .i64 (pk + 4), .int .i64 nk] 112))) := CK.out.trans (Chg.alloc _ _ _)
        obtain ⟨i0, hi0, hz0, hz1, hz2⟩ := info_parts info_part
        go_wp2_with (at_builtin; refine wpList_append_own _ rfl _ _ 109 rfl w.heap.size 112 i0 (.agg #[.int .i64 0, .int .i64 0]) 2 16 Try.underlying109 hi0 hz0 hz1 hz2 rfl (by decide) _ k (partCells P tc kl vl k) rfl PW.out ⟨wo.heap.size, 0, none⟩ 1 1 [.int .i64 (pk + 4), .int .i64 nk] rfl rfl (cells_new wo [.int .i64 (pk + 4), .int .i64 nk] _) (ints_one _ _) (by unfold maxLen; omega) (by omega) CW.out.size ?_; intro v' w5 hown' hgrow _; obtain ⟨A5, c5, ev⟩ := owns_form hown'; subst ev; have P5 : Hid (PRow w5 w.heap.size (.slice A5 (k + 1) c5) P tc kl vl (k + 1)) := (by unfold Hid PRow; rw [hpc.out]; exact hown'); have C5 : Hid (Chg (fun _ => False) w w5) := grown_chg CW.out (fun g hg => (World.ownsRow.lt PW.out g hg).1) hgrow; clear hown' hgrow)
        go_roundg m
        case measure => have := hg.out; omega
        case rel => exact ⟨k + 1, m, A5, c5, A3, k3, rfl, by rw [hl2.out], rfl, rfl, by have := hkm.out; show _ = _; omega, by omega, P5.out, sv3.out, C5.out⟩
end Go.Proofs.Ytolpjgpimholcaa.Item
