import Derived.Test.YtmffdlebahdihaaGm
import Derived.Test.YtmffdlebahdihaaGk
/- The walk of chapter 13's SegmentsCold. -/
namespace Go.Proofs.Ytmffdlebahdihaa.Seg
open Go Go.RowKit Go.Proofs.Ytmffdlebahdihaa.Mem Go.Proofs.Ytmffdlebahdihaa.CodecPure Go.Proofs.Ytmffdlebahdihaa.ArenaPure Go.Proofs.Ytmffdlebahdihaa.Codec Go.Proofs.Ytmffdlebahdihaa.Arena Go.Proofs.Ytmffdlebahdihaa.Item Go.Proofs.Ytmffdlebahdihaa.Links
set_option linter.unusedVariables false
set_option maxRecDepth 100000
variable {B : Nat} {w0 w w' : World} {a : Ar} {L : Nat → List Nat} {F : Nat → Int → Int} {k m : Nat} {l : Lh}
/-- items that were never used: none is in Warm -/
structure CI (L : Nat → List Nat) (F : Nat → Int → Int) (m : Nat) : Prop where
  one : L 1 = []
  bit : ∀ i, i < 3 → ∀ x ∈ L i, F x 10 = 1
  num : cnt L = m
  ref : ∀ x, x < 30 → F x 11 = 0
theorem CI.add (h : CI L F m) (hn : ¬ sg L k < 3) : CI (addS L F k).1 (addS L F k).2 (m + 1) := by
  have e : addS L F k = (updL3 L 0 (k :: L 0), updF (updF F k 9 0) k 10 1) := by unfold addS; rw [if_neg hn]
  rw [e]
  refine ⟨by show updL3 L 0 (k :: L 0) 1 = []; rw [updL3_ne _ _ (by decide)]; exact h.one, fun i hi x hx => ?_, ?_, fun x hx => ?_⟩
  · show updF (updF F k 9 0) k 10 1 x 10 = 1
    by_cases ex : x = k
    · subst ex; exact updF_at _ _ _ _
    · rw [updF_ne _ _ (.inl ex), updF_ne _ _ (.inl ex)]
      rcases push_mem hx with ⟨q, _⟩ | q
      · exact absurd q ex
      · exact h.bit i hi x q
  · have := h.num
    show cnt (updL3 L 0 (k :: L 0)) = _
    unfold cnt updL3 at *
    simp
    omega
  · show updF (updF F k 9 0) k 10 1 x 11 = 0
    rw [updF_ne _ _ (.inr (by decide)), updF_ne _ _ (.inr (by decide))]
    exact h.ref x hx
theorem ci_none : CI (fun _ => []) (fun _ _ => 0) 0 := ⟨rfl, fun _ _ x hx => by simp at hx, rfl, fun _ _ => rfl⟩
theorem CI.jug (h : CI L F m) (hs : SI L F) : CI (jugS L F).1 (jugS L F).2 m := by
  rcases jug_cases L F with ⟨h1, _⟩ | ⟨A, k, z, e, h1, ⟨h2, _⟩ | ⟨h2, rfl, h3⟩⟩
  · rw [jugS_none h1]; exact h
  · have := h.bit _ (jseg_lt L) k (by rw [e]; simp)
    omega
  · rw [jugS_some h1]
    have hj : jseg L = 0 := by
      have := jseg_lt L
      by_cases q : jseg L = 1
      · rw [q, h.one] at e; simp at e
      · omega
    rw [hj] at e ⊢
    have nd := hs.nd 0 (by decide)
    have er : (L 0).erase k = A := by rw [e] at nd ⊢; exact erase_last nd
    have bk := h.bit 0 (by decide) k (by rw [e]; simp)
    refine ⟨?_, fun i hi x hx => ?_, (goes_cnt (by decide) e er (by decide)).trans h.num, fun x hx => ?_⟩
    · show goesL L 0 k 2 1 = []
      rw [goesL_at er]
      exact h.one
    · show goesF F k 2 x 10 = 1
      by_cases ex : x = k
      · subst ex; rw [goesF_at, bk]; rfl
      · rw [goesF_ne ex]
        refine h.bit i hi x ?_
        unfold goesL at hx
        rcases push_mem hx with ⟨q, _⟩ | q
        · exact absurd q ex
        · exact drop_mem q
    · show goesF F k 2 x 11 = 0
      rw [goesF_ref]; exact h.ref x hx
/-- behind two uses of one in Cold -/
theorem CI.end (h : CI L F m) (hs : SI L F) (hj : Seg.jug L F = none) (m3 : 3 ≤ m) {A : List Nat} {y : Nat} (e : L 2 = A ++ [y]) (ha : A ≠ []) (hk : k ∈ L 2) {G : Nat → Int → Int} (hG : ∀ x f, x ≠ k ∨ f ≠ 10 → G x f = F x f) (h7 : G k 10 = 7) :
    (k ≠ y → Seg.jug L G = none ∧ vict G (line L) 0 3 = (64 * (y : Int), 0)) ∧
    (k = y → ∃ q, Seg.jug L G = some q ∧ Seg.jug q.1 q.2 = none ∧ (∃ v, v < 30 ∧ v ≠ k ∧ vict q.2 (line q.1) 0 3 = (64 * (v : Int), 0)) ∧ q.2 k 9 = 1) := by
  obtain ⟨u1, u2⟩ := jug_none hj
  have hc := h.num
  have js : jseg L = 2 := by unfold jseg; rw [if_neg (by omega), if_neg (by omega)]
  have hk30 := hs.lt 2 (by decide) k hk
  have ref : ∀ x, x < 30 → G x 11 = 0 := fun x hx => by rw [hG x 11 (.inr (by decide))]; exact h.ref x hx
  have ref0 : ∀ x, x < 30 → F x 11 = 0 := h.ref
  have first : ∀ (H : Nat → Int → Int) (x : Nat) (S : List Nat), H x 11 = 0 → vict H (x :: S) 0 3 = (64 * (x : Int), 0) := fun H x S hx => by
    show (if 0 ≥ 5 then _ else if H x 11 = 0 then _ else _) = _
    rw [if_neg (by decide), if_pos hx]
  have y30 := hs.lt 2 (by decide) y (by rw [e]; simp)
  constructor
  · intro ne
    have by' : G y 10 = 1 := by rw [hG y 10 (.inl (Ne.symm ne))]; exact h.bit 2 (by decide) y (by rw [e]; simp)
    constructor
    · unfold Seg.jug
      rw [js, e]
      have : (A ++ [y]).getLast? = some y := by simp
      rw [this]
      dsimp only
      rw [if_neg (by omega), if_pos rfl]
    · have el : line L = y :: (A.reverse ++ ((L 1).reverse ++ (L 0).reverse)) := by unfold line; rw [e]; simp
      rw [el]
      exact first G y _ (ref y y30)
  · intro eq
    subst eq
    have nd := hs.nd 2 (by decide)
    have er : (L 2).erase k = A := by rw [e] at nd ⊢; exact erase_last nd
    have jj : Seg.jug L G = some (goesL L 2 k 1, goesF G k 1) := by
      unfold Seg.jug
      rw [js, e]
      have : (A ++ [k]).getLast? = some k := by simp
      rw [this]
      dsimp only
      rw [if_pos (by rw [h7]; decide)]
    have L0 : goesL L 2 k 1 0 = L 0 := by rw [goesL_at er]; rfl
    have L1 : goesL L 2 k 1 1 = [k] := by rw [goesL_at er]; show k :: (if 1 = 2 then A else L 1) = _; rw [if_neg (by decide), h.one]
    have L2 : goesL L 2 k 1 2 = A := by rw [goesL_at er]; rfl
    have ec : cnt (goesL L 2 k 1) = cnt L := goes_cnt (by decide) e er (by decide)
    rcases List.eq_nil_or_concat A with q | ⟨A', v, q⟩
    · exact absurd q ha
    · rw [List.concat_eq_append] at q
      have vA : v ∈ A := by rw [q]; simp
      have vk : v ≠ k := fun x => by
        subst x
        rw [e] at nd
        exact (List.nodup_append.1 nd).2.2 v vA v (by simp) rfl
      have v2 : v ∈ L 2 := by rw [e]; simp [vA]
      have v30 := hs.lt 2 (by decide) v v2
      refine ⟨_, jj, ?_, ⟨v, v30, vk, ?_⟩, ?_⟩
      · show Seg.jug (goesL L 2 k 1) (goesF G k 1) = none
        have js2 : jseg (goesL L 2 k 1) = 2 := by
          unfold jseg
          rw [ec, L0, L1]
          rw [if_neg (by omega), if_neg (by show ¬ 5 * 1 > _; omega)]
        have bv : goesF G k 1 v 10 = 1 := by rw [goesF_ne vk, hG v 10 (.inl vk)]; exact h.bit 2 (by decide) v v2
        unfold Seg.jug
        rw [js2, L2, q]
        have : (A' ++ [v]).getLast? = some v := by simp
        rw [this]
        dsimp only
        rw [if_neg (by omega), if_pos rfl]
      · show vict (goesF G k 1) (line (goesL L 2 k 1)) 0 3 = _
        have el : line (goesL L 2 k 1) = v :: (A'.reverse ++ ([k].reverse ++ (L 0).reverse)) := by unfold line; rw [L0, L1, L2, q]; simp
        rw [el]
        exact first _ v _ (by rw [goesF_ref]; exact ref v v30)
      · show goesF G k 1 k 9 = 1
        unfold goesF
        rw [updF_ne _ _ (.inr (by decide)), updF_at]
        rfl
theorem bump_two (h : CI L F m) (hk : k ∈ L 2) : (bumpS L F k).1 = L ∧ (bumpS L (bumpS L F k).2 k).1 = L ∧ (∀ x f, x ≠ k ∨ f ≠ 10 → (bumpS L (bumpS L F k).2 k).2 x f = F x f) ∧ (bumpS L (bumpS L F k).2 k).2 k 10 = 7 := by
  have hs := sg_some (i := 2) (by decide) hk
  have b1 := h.bit 2 (by decide) k hk
  have e1 : bumpS L F k = (L, updF F k 10 (bumpB (F k 10))) := by unfold bumpS; rw [if_pos hs]
  have e2 : ∀ G, bumpS L G k = (L, updF G k 10 (bumpB (G k 10))) := fun G => by unfold bumpS; rw [if_pos hs]
  rw [e1]
  rw [e2]
  refine ⟨rfl, rfl, fun x f hx => ?_, ?_⟩
  · show updF (updF F k 10 _) k 10 _ x f = F x f
    rw [updF_ne _ _ hx, updF_ne _ _ hx]
  · show updF (updF F k 10 _) k 10 (bumpB (updF F k 10 (bumpB (F k 10)) k 10)) k 10 = 7
    rw [updF_at, updF_at, b1]
    decide
theorem SE.bump2 (q : SE B w0 w a l L F) (hL : CI L F m) (hk : k ∈ L 2) : Calls Try.prog 37 #[(.pointer (some ⟨l.b, 0, none⟩)), (.int .i64 (64 * (k : Int)))] w fun e w' => (∃ v, e = .returned (.int .i64 v)) ∧ SE B w0 w' a l L (bumpS L F k).2 ∧ Chg (S2 a l) w w' ∧ ∀ W, SE B w0 W a l L (bumpS L F k).2 → Calls Try.prog 37 #[(.pointer (some ⟨l.b, 0, none⟩)), (.int .i64 (64 * (k : Int)))] W fun e w' => (∃ v, e = .returned (.int .i64 v)) ∧ SE B w0 w' a l L (bumpS L (bumpS L F k).2 k).2 ∧ Chg (S2 a l) W w' := by
  have hk30 := q.si.lt 2 (by decide) k hk
  obtain ⟨e1, e2, -, -⟩ := bump_two hL hk
  refine (q.bumpC hk30).mono fun e w' ⟨v, h1, h2, h3⟩ => ⟨⟨v, h1⟩, by rw [e1] at h2; exact h2, h3, fun W hW => (hW.bumpC hk30).mono fun e w' ⟨v, h1, h2, h3⟩ => ⟨⟨v, h1⟩, by rw [e2] at h2; exact h2, h3⟩⟩
theorem nodup_in {l : List Nat} {j : Nat} (h : j < l.length) : l.getD j 0 ∈ l := by
  rw [List.getD_eq_getElem?_getD, List.getElem?_eq_getElem h]
  exact List.getElem_mem h
set_option maxHeartbeats 4000000 in
theorem cold_walk (n0 u0 : Int) (w : World) (wf0 : (Lit.int .i64 n0).wf = true) (wf1 : (Lit.int .i64 u0).wf = true) :
    Calls Try.prog 11 #[(.int .i64 n0), (.int .i64 u0)] w fun e w' => e = .returned (.bool true) ∧ Below w.heap.size w w' := by
  obtain ⟨x0, hx0, xx, -⟩ := small n0 10 (by decide)
  replace xx : (IntKind.u64.wrap n0).tmod 10 = x0 := xx
  obtain ⟨N, hN⟩ : ∃ N : Nat, (3 : Int) + (x0 : Int) = N := ⟨3 + x0, by omega⟩
  have N3 : 3 ≤ N ∧ N ≤ 12 := by omega
  obtain ⟨N3, N12⟩ := N3
  clear wf0
  go_enter Try.func11, Try.ntmps11
  go_wp2_with fail
  refine (works13_calls w).mono ?_
  rintro e wa ⟨rfl, hc⟩
  have CW := Lib.hid hc
  clear hc
  go_wp2_with fail
  refine (laid_calls wa).mono ?_
  rintro e w1 ⟨a, r, rfl, T⟩
  replace T := Lib.hid T
  go_wp2_with fail
  refine (SE.start T.out).mono ?_
  rintro e w2 ⟨lh, rfl, K0⟩
  have CBW : Hid (∀ W, Chg (fun b => wa.heap.size ≤ b) wa W → Below w.heap.size w W) := fun W hc => ((CW.out.mono fun _ _ h => h.elim).trans (hc.mono fun b _ hb => Nat.le_trans CW.out.size hb)).below (Nat.le_refl _) fun _ h => h
  replace K0 := Lib.hid K0
  clear T xx hx0
  go_wp2_with fail
  clear hN
  go_loopg [9] N (fun q i wr => ∃ (k : Nat) (L : Nat → List Nat) (F : Nat → Int → Int), i = .int .i64 k ∧ q = N - k ∧ k ≤ N ∧ Hid (CI L F k) ∧ Hid (∀ j, j < 3 → ∀ x ∈ L j, x < k) ∧ Hid (SE wa.heap.size wa wr a lh L F))
  case atStart => exact ⟨0, _, _, rfl, rfl, by omega, ci_none, (fun j _ x hx => by simp at hx), K0.out⟩
  case round =>
    clear K0
    obtain ⟨k, L, F, rfl, hg, hk, CN, LT, K⟩ := hrel
    replace hg := Lib.hid hg
    by_cases h1 : k < N
    · have h1' : (k : Int) < N := by omega
      have k30 : k < 30 := by omega
      have PC := Lib.hid (place10_calls (k : Int) wr k k30 (small30 k k30))
      have ns : ¬ sg L k < 3 := fun q => by have := LT.out _ q k (sg_in q); omega
      have AD := K.out.addC k30
      have ea : addS L F k = (updL3 L 0 (k :: L 0), updF (updF F k 9 0) k 10 1) := by unfold addS; rw [if_neg ns]
      have CN2 := Lib.hid (CN.out.add ns)
      have LT2 : Hid (∀ j, j < 3 → ∀ x ∈ (addS L F k).1 j, x < k + 1) := fun j hj x hx => by
        rw [ea] at hx
        rcases push_mem hx with ⟨q, _⟩ | q
        · omega
        · have := LT.out j hj x q; omega
      generalize addS L F k = q2 at AD CN2 LT2
      generalize addE L k = ae at AD
      replace AD := Lib.hid AD
      clear K CN LT ns ea
      go_wp2_with fail
      refine PC.out.mono ?_
      rintro e w3 ⟨rfl, rfl⟩
      go_wp2_with fail
      refine AD.out.mono ?_
      rintro e w4 ⟨rfl, h4, -⟩
      replace h4 := Lib.hid h4
      clear AD PC
      go_wp2_with fail
      go_roundg (N - (k + 1))
      case measure => have := hg.out; omega
      case rel => exact ⟨k + 1, _, _, rfl, rfl, by omega, CN2.out, LT2.out, h4.out⟩
    · have h1' : ¬ (k : Int) < N := by omega
      obtain rfl : k = N := by omega
      have P0 := pot_le L F
      rw [CN.out.num] at P0
      replace P0 := Lib.hid P0
      clear LT h1
      go_wp2_with fail
      go_loopg [10] (2 * k + 1) (fun q i wr => ∃ (j : Nat) (L : Nat → List Nat) (F : Nat → Int → Int), i = .int .i64 j ∧ q = 2 * k + 1 - j ∧ Hid (pot L F + j ≤ 2 * k) ∧ Hid (CI L F k) ∧ Hid (SE wa.heap.size wa wr a lh L F))
      case atStart => exact ⟨0, L, F, rfl, rfl, P0.out, CN.out, K.out⟩
      case round =>
        clear K P0 CN hg
        obtain ⟨j, L, F, rfl, hg2, hp, CN, K⟩ := hrel
        replace hg2 := Lib.hid hg2
        have hpj := hp.out
        have h2' : (j : Int) < 3 * (k : Int) := by omega
        have j36 : j ≤ 24 := by omega
        have JG := K.out.jugC
        by_cases hj : (jug L F).isSome = true
        · have JL := Lib.hid (jugS_less K.out.si hj)
          have CN2 := Lib.hid (CN.out.jug K.out.si)
          rw [hj] at JG
          generalize jugS L F = q2 at JG JL CN2
          replace JG := Lib.hid JG
          clear hj hpj
          go_wp2_with fail
          refine JG.out.mono ?_
          rintro e w3 ⟨rfl, k3, -⟩
          replace k3 := Lib.hid k3
          clear JG
          go_wp2_with fail
          go_roundg (2 * k + 1 - (j + 1))
          case measure => have := hg2.out; have := hp.out; have := JL.out.2; omega
          case rel => exact ⟨j + 1, _, _, rfl, rfl, by have := hp.out; have := JL.out.2; show _ ≤ _; omega, CN2.out, k3.out⟩
        · have hj2 : (jug L F).isSome = false := by simpa using hj
          have hj3 : jug L F = none := by simpa using hj
          rw [hj2, jugS_no hj2] at JG
          replace JG := Lib.hid JG
          obtain ⟨u1, u2⟩ := jug_none hj3
          have num := CN.out.num
          have one : (L 1).length = 0 := by rw [CN.out.one]; rfl
          have cc : cnt L = (L 0).length + (L 1).length + (L 2).length := rfl
          have c2 : 2 ≤ (L 2).length := by omega
          have c30 := K.out.len30 (i := 2) (by decide)
          have LS : Hid (∀ W, SE wa.heap.size wa W a lh L F → Calls Try.prog 30 #[(.pointer (some ⟨lh.b, 0, none⟩)), (.int .i64 2)] W (LEnd W (L 2))) := fun W h => h.list (i := 2) (by decide)
          obtain ⟨A, y, ey⟩ : ∃ A y, L 2 = A ++ [y] := by
            rcases List.eq_nil_or_concat (L 2) with q | ⟨A, y, q⟩
            · rw [q] at c2; simp at c2
            · exact ⟨A, y, by rw [← List.concat_eq_append]; exact q⟩
          have hA : A ≠ [] := fun q => by rw [ey, q] at c2; simp at c2
          obtain ⟨m, hm⟩ : ∃ m, (L 2).length = m := ⟨_, rfl⟩
          rw [hm] at c2 c30
          obtain ⟨u, hu, ux, -⟩ := small u0 m (by omega)
          have hku : (L 2).getD u 0 ∈ L 2 := nodup_in (by rw [hm]; exact hu)
          have ga := at64_getD (L 2) (j := u) (by rw [hm]; exact hu)
          have gy : (at64 (L 2)).getD (m - 1) 0 = 64 * (y : Int) := by
            rw [at64_getD (L 2) (by omega), ey]
            have : m - 1 = A.length := by rw [← hm, ey]; simp
            rw [this]
            simp
          have wl : IntKind.u64.wrap (m : Int) = (m : Int) := by rw [u64_wrap, Int.emod_eq_of_lt (by omega) (by omega)]
          have NDS := K.out.si
          obtain ⟨b1, b2, b3, b4⟩ := bump_two (k := (L 2).getD u 0) CN.out hku
          have EN := CI.end CN.out NDS hj3 N3 ey hA hku b3 b4
          have BU := Lib.hid (fun W (h : SE wa.heap.size wa W a lh L F) => h.bump2 CN.out hku)
          have kk30 := NDS.lt 2 (by decide) _ hku
          generalize (L 2).getD u 0 = x at *
          have AL := Lib.hid (at64_len (L 2))
          unfold LEnd at LS
          rw [hm] at LS AL
          have S2L : Hid (∀ W, SE wa.heap.size wa W a lh L F → ∀ g, S2 a lh g → g < W.heap.size) := fun W h => h.s2
          have V9 : Hid (∀ (G : St3) W, SE wa.heap.size wa W a lh G.1 G.2 → Calls Try.prog 39 #[(.pointer (some ⟨lh.b, 0, none⟩))] W fun e w' => e = .returned (.tuple #[.int .i64 (vict G.2 (line G.1) 0 3).1, .int .i64 (vict G.2 (line G.1) 0 3).2]) ∧ Chg (fun _ => False) W w') := fun G W h => h.vicC
          have J9 : Hid (∀ (G : St3) W, SE wa.heap.size wa W a lh G.1 G.2 → Calls Try.prog 33 #[(.pointer (some ⟨lh.b, 0, none⟩))] W (SEnd wa.heap.size wa W a lh (jugS G.1 G.2) (.bool (jug G.1 G.2).isSome))) := fun G W h => h.jugC
          have G9 : Hid (∀ (G : St3) W, SE wa.heap.size wa W a lh G.1 G.2 → Calls Try.prog 31 #[(.pointer (some ⟨a.g, 0, none⟩)), (.int .i64 (64 * (x : Int))), (.int .i64 9)] W (Ans2 W (G.2 x 9) 0)) := fun G W h => h.getF kk30 (.inl rfl)
          clear hj hj2 hj3 u1 u2 num one cc hpj NDS b1 b2 b3 b4 hku hA
          replace EN := Lib.hid EN
          replace gy := Lib.hid gy
          replace ga := Lib.hid ga
          replace ey := Lib.hid ey
          replace hm := Lib.hid hm
          go_wp2_with fail
          refine JG.out.mono ?_
          rintro e w3 ⟨rfl, k3, -⟩
          have L3 := Lib.hid (LS.out _ k3)
          have SS := Lib.hid (S2L.out _ k3)
          replace k3 := Lib.hid k3
          clear JG LS S2L
          go_wp2_with fail
          refine L3.out.mono ?_
          rintro e w4 ⟨A4, c4, rfl, ho, hc⟩
          have k4 := k3.out.fresh hc
          have NB : Hid (∀ ad, A4 = some ad → ¬ S2 a lh ad.block) := fun ad e q => by
            subst e
            have := (World.ownsRow.lt ho ad.block rfl).1
            have := SS.out _ q
            omega
          have O4 := ho.sl
          obtain ⟨ad, e4, cu⟩ := O4 u (by rw [AL.out]; exact hu)
          subst e4
          rw [ga.out] at cu
          have BB := Lib.hid (BU.out _ k4)
          replace O4 := Lib.hid O4
          clear ho hc L3 k3 SS BU k4
          have m2' : ¬ (m : Int) < 2 := by omega
          have hu' : (u : Int) < m := by omega
          go_wp2_with fail
          refine BB.out.mono ?_
          rintro e w5 ⟨⟨v5, rfl⟩, h5, c5, nx⟩
          have B5 := Lib.hid (nx _ h5)
          have O5 := Lib.hid (O4.out.chg c5 fun ad' e q => NB.out ad' e q)
          clear BB h5 c5 nx O4 cu
          go_wp2_with fail
          refine B5.out.mono ?_
          rintro e w6 ⟨⟨v6, rfl⟩, h6, c6⟩
          have O6 := Lib.hid (O5.out.chg c6 fun ad' e q => NB.out ad' e q)
          replace h6 := Lib.hid h6
          clear B5 c6 O5
          generalize (bumpS L (bumpS L F x).2 x).2 = G at EN h6
          obtain ⟨mm, hmm, hmi⟩ : ∃ mm : Nat, m = mm + 1 ∧ (m : Int) - 1 = (mm : Int) := ⟨m - 1, by omega, by omega⟩
          have hmm2 : (mm : Int) < (m : Int) := by omega
          have gy2 : Hid ((at64 (L 2)).getD mm 0 = 64 * (y : Int)) := by have := gy.out; rw [hmm] at this; exact this
          have ml : Hid (mm < (at64 (L 2)).length) := by show _ < _; rw [AL.out]; omega
          have FB : Hid (∀ (G : St3) W, SE wa.heap.size wa W a lh G.1 G.2 → Below w.heap.size w W) := fun G W h => CBW.out _ h.chg
          clear gy ga ey AL hmm
          have h3k : (0 : Int) < 3 * (k : Int) := by omega
          by_cases hxy : x = y
          · obtain ⟨q, e1, e2, ⟨v, v30, vne, ev⟩, e9⟩ := EN.out.2 hxy
            have J0 := J9.out (L, G)
            have J1 := J9.out q
            have V1 := V9.out q
            have G1 := G9.out q
            have FB1 := FB.out q
            have s0 : (jug L G).isSome = true := by rw [e1]; rfl
            have s1 : (jug q.1 q.2).isSome = false := by rw [e2]; rfl
            simp only [jugS_some e1, s0] at J0
            simp only [jugS_none e2, s1] at J1
            simp only [ev] at V1
            simp only [e9] at G1
            replace J0 := Lib.hid J0
            replace J1 := Lib.hid J1
            replace V1 := Lib.hid V1
            replace G1 := Lib.hid G1
            replace FB1 := Lib.hid FB1
            have hne : ¬ (64 * (v : Int) = 64 * (x : Int)) := by omega
            have hne2 : (64 * (v : Int) == 64 * (x : Int)) = false := by rw [beq_eq_false_iff_ne]; exact hne
            have hne3 : ¬ ((v : Int) = (x : Int)) := by omega
            have hne4 : (64 * (v : Int) != 64 * (x : Int)) = true := by rw [bne_iff_ne]; exact hne
            have h1k : (1 : Int) < 3 * (k : Int) := by omega
            subst hxy
            clear EN J9 V9 G9 FB e1 e2 ev e9 s0 s1 vne
            go_wp2_with fail
            go_loopg [13] 2 (fun g i wr => ((i = .int .i64 0 ∧ g = 2 ∧ Hid (SE wa.heap.size wa wr a lh L G)) ∨ (i = .int .i64 1 ∧ g = 1 ∧ Hid (SE wa.heap.size wa wr a lh q.1 q.2))) ∧ Hid (Sl wr .i64 (some ad) (at64 (L 2))))
            case atStart => exact ⟨.inl ⟨rfl, rfl, h6.out⟩, O6.out⟩
            case round =>
              clear h6 O6
              obtain ⟨⟨rfl, hg3, S⟩ | ⟨rfl, hg3, S⟩, O⟩ := hrel
              · replace hg3 := Lib.hid hg3
                have JJ := Lib.hid (J0.out _ S.out)
                clear S J0
                go_wp2_with fail
                refine JJ.out.mono ?_
                rintro e w8 ⟨rfl, h8, c8⟩
                have O8 := Lib.hid (O.out.chg c8 fun ad' e q => NB.out ad' e q)
                replace h8 := Lib.hid h8
                clear JJ c8 O
                go_wp2_with fail
                go_roundg 1
                case measure => have := hg3.out; omega
                case rel => exact ⟨.inr ⟨rfl, rfl, h8.out⟩, O8.out⟩
              · have JJ := Lib.hid (J1.out _ S.out)
                clear S J1 hg3
                go_wp2_with fail
                refine JJ.out.mono ?_
                rintro e w8 ⟨rfl, h8, c8⟩
                have O8 := O.out.chg c8 fun ad' e q => NB.out ad' e q
                have VV := Lib.hid (V1.out _ h8)
                replace O8 := Lib.hid O8
                replace h8 := Lib.hid h8
                clear JJ c8 O V1
                go_wp2_with fail
                refine VV.out.mono ?_
                rintro e w9 ⟨rfl, c9⟩
                have h9 := Lib.hid (h8.out.fresh c9)
                have O9 := Lib.hid (O8.out.chg c9 fun _ _ => id)
                have GG := Lib.hid (G1.out _ h9.out)
                clear VV c9 h8 O8 G1
                go_wp2_with fail
                refine GG.out.mono ?_
                rintro e w10 ⟨rfl, c10⟩
                obtain ⟨ad', e', cl⟩ := (O9.out.chg c10 fun _ _ => id) mm ml.out
                cases e'
                rw [gy2.out] at cl
                have F10 := Lib.hid (FB1.out _ (h9.out.fresh c10))
                clear GG c10 h9 O9
                go_wp2_with fail
                go_ret
                exact ⟨rfl, F10.out⟩
          · obtain ⟨e1, ev⟩ := EN.out.1 hxy
            have J1 := J9.out (L, G)
            have V1 := V9.out (L, G)
            have G1 := G9.out (L, G)
            have FB1 := FB.out (L, G)
            have s1 : (jug L G).isSome = false := by rw [e1]; rfl
            simp only [jugS_none e1, s1] at J1
            simp only [ev] at V1
            obtain ⟨g9, hg9⟩ : ∃ g9, G x 9 = g9 := ⟨_, rfl⟩
            simp only [hg9] at G1
            replace J1 := Lib.hid J1
            replace V1 := Lib.hid V1
            replace G1 := Lib.hid G1
            replace FB1 := Lib.hid FB1
            have hne : ¬ (64 * (x : Int) = 64 * (y : Int)) := by omega
            have hne2 : (64 * (x : Int) == 64 * (y : Int)) = false := by rw [beq_eq_false_iff_ne]; exact hne
            have hne3 : ¬ ((x : Int) = (y : Int)) := by omega
            clear EN J9 V9 G9 FB e1 ev s1 hg9
            go_wp2_with fail
            go_loopg [13] 1 (fun g i wr => i = .int .i64 0 ∧ g = 1 ∧ Hid (SE wa.heap.size wa wr a lh L G) ∧ Hid (Sl wr .i64 (some ad) (at64 (L 2))))
            case atStart => exact ⟨rfl, rfl, h6.out, O6.out⟩
            case round =>
              clear h6 O6
              obtain ⟨rfl, hg3, S, O⟩ := hrel
              have JJ := Lib.hid (J1.out _ S.out)
              clear S J1 hg3
              go_wp2_with fail
              refine JJ.out.mono ?_
              rintro e w8 ⟨rfl, h8, c8⟩
              have O8 := O.out.chg c8 fun ad' e q => NB.out ad' e q
              have VV := Lib.hid (V1.out _ h8)
              replace O8 := Lib.hid O8
              replace h8 := Lib.hid h8
              clear JJ c8 O V1
              go_wp2_with fail
              refine VV.out.mono ?_
              rintro e w9 ⟨rfl, c9⟩
              have h9 := Lib.hid (h8.out.fresh c9)
              have O9 := Lib.hid (O8.out.chg c9 fun _ _ => id)
              have GG := Lib.hid (G1.out _ h9.out)
              clear VV c9 h8 O8 G1
              go_wp2_with fail
              refine GG.out.mono ?_
              rintro e w10 ⟨rfl, c10⟩
              obtain ⟨ad', e', cl⟩ := (O9.out.chg c10 fun _ _ => id) mm ml.out
              cases e'
              rw [gy2.out] at cl
              have F10 := Lib.hid (FB1.out _ (h9.out.fresh c10))
              clear GG c10 h9 O9
              go_wp2_with fail
              go_ret
              exact ⟨rfl, F10.out⟩
end Go.Proofs.Ytmffdlebahdihaa.Seg

